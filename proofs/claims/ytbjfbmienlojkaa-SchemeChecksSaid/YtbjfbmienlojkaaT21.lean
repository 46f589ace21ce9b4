/- slices.Clone at []Rhyme and at []int; the scheme's own copied. -/
import Derived.Test.YtbjfbmienlojkaaT1
import Derived.Lib.SliceRun
import Derived.Lib.Walk
import Derived.Laws.AppendOwn
namespace Go.Proofs.Ytbjfbmienlojkaa
open Go.RowKit

theorem prs_one (ls : List (Int × Int)) : ∀ u ∈ prs ls, u.oneCell' = true := by
  intro u hu
  simp only [prs, List.mem_flatMap] at hu
  obtain ⟨p, _, hp⟩ := hu
  simp at hp
  rcases hp with rfl | rfl <;> rfl
theorem Rd.at_add {w : World} {L B sz n : Nat} {ad : Addr} {xs : List Value} (h : Rd w L B sz (some ad) n xs) : ∀ j u, xs[j]? = some u → w.cell? (ad.add j) = some u := by
  intro j u hu
  have hl := h.1
  have hj : j < xs.length := (List.getElem?_eq_some_iff.1 hu).1
  have hn : 0 < n := by
    rcases Nat.eq_zero_or_pos n with h0 | h0
    · subst h0; omega
    · exact h0
  obtain ⟨b, o, e, _, _, hc⟩ := h.2 hn
  injection e with e
  subst e
  rw [show (⟨b, o, none⟩ : Addr).add j = ⟨b, o + j, none⟩ from by unfold Addr.add; split <;> simp_all]
  exact hc j u hu

set_option maxHeartbeats 1000000 in
set_option maxRecDepth 100000 in
theorem cloneP_any (A : Option Addr) (n c L B : Nat) (ls : List (Int × Int)) (w : World) (h : Rd w L B 2 A n (prs ls)) (hn : n ≤ 100000) :
    Calls Try.prog 58 #[.slice A n c] w fun e w' => ∃ A' C', e = .returned (.slice A' n C') ∧ w'.ownsRow w.heap.size 66 2 (.slice A' n C') n (prs ls) ∧ Below w.heap.size w w' := by
  have q23 : ∀ (w : World) (a : Option Addr) (n c n' c' : Nat), (binOp .eql 23 (.slice a n c) (.slice none n' c')).run Try.prog w = .ok (.bool a.isNone) w := fun w a n c n' c' => Lib.run_eql_slice_nil w _ _ a n c n' c' Try.underlying23
  have u23 : ∀ w, Sem.run Try.prog (underlying 23) w = .ok (TypeDesc.slice 66) w := run_underlying Try.underlying23
  have H := Lib.hid h
  clear h
  cases A with
  | none =>
    have hn0 : n = 0 := by
      rcases Nat.eq_zero_or_pos n with h0 | h0
      · exact h0
      · obtain ⟨_, _, e, _⟩ := H.out.2 h0; cases e
    subst hn0
    have hl : prs ls = [] := List.eq_nil_of_length_eq_zero (by have := H.out.1; omega)
    rw [hl]
    go_enter Try.func58, Try.ntmps58
    go_wp2
    go_ret
    exact ⟨none, 0, rfl, World.ownsRow_nil _ _ _ _, Below.refl _ _⟩
  | some ad =>
    have hinfo : (Try.prog.info? 66).map (fun i => (i.zero, i.size, i.bytes)) = some (some (.agg #[.int .i64 0, .int .i64 0]), 2, 16) := by kernel_rfl
    obtain ⟨j0, hj, jz0, jz1, jz2⟩ := info_parts hinfo
    clear hinfo
    go_enter Try.func58, Try.ntmps58
    go_wp2_with (at_builtin; refine wpList_append_own _ rfl _ _ 23 rfl w.heap.size 66 j0 (.agg #[.int .i64 0, .int .i64 0]) 2 16 Try.underlying23 hj jz0 jz1 jz2 rfl (by decide) _ _ _ rfl (World.ownsRow_made w #[] 0 (Nat.le_refl _) (Nat.zero_le _) rfl) ad n c (prs ls) rfl ?qc1 ?qc2 ?qc3 ?qc4 ?qc5 ?qc6 ?_)
    case qc1 => exact H.out.1
    case qc2 =>
      intro j u hu
      exact Lib.cell?_alloc_some _ (H.out.at_add j u hu)
    case qc3 => exact prs_one ls
    case qc4 => unfold maxLen; omega
    case qc5 => omega
    case qc6 => simp
    intro v' w1 hown hgrow hnil
    obtain ⟨A', C', rfl⟩ := own_slice hown
    go_wp2
    go_ret
    exact ⟨A', C', rfl, by simpa using hown, ((Below.refl _ w).alloc (Nat.le_refl _) _).grown hgrow (by simp) (by intro k hk; simp [Value.ownBlock] at hk; omega)⟩

set_option maxHeartbeats 1000000 in
set_option maxRecDepth 100000 in
theorem cloneI_any (A : Option Addr) (n c L B : Nat) (st : List Int) (w : World) (h : Rd w L B 1 A n (st.map (Value.int .i64))) (hn : n ≤ 100000) :
    Calls Try.prog 76 #[.slice A n c] w fun e w' => ∃ A' C', e = .returned (.slice A' n C') ∧ w'.ownsRow w.heap.size 3 1 (.slice A' n C') n (st.map (Value.int .i64)) ∧ Below w.heap.size w w' := by
  have q24 : ∀ (w : World) (a : Option Addr) (n c n' c' : Nat), (binOp .eql 24 (.slice a n c) (.slice none n' c')).run Try.prog w = .ok (.bool a.isNone) w := fun w a n c n' c' => Lib.run_eql_slice_nil w _ _ a n c n' c' Try.underlying24
  have u24 : ∀ w, Sem.run Try.prog (underlying 24) w = .ok (TypeDesc.slice 3) w := run_underlying Try.underlying24
  have H := Lib.hid h
  clear h
  cases A with
  | none =>
    have hn0 : n = 0 := by
      rcases Nat.eq_zero_or_pos n with h0 | h0
      · exact h0
      · obtain ⟨_, _, e, _⟩ := H.out.2 h0; cases e
    subst hn0
    have hl : st.map (Value.int .i64) = [] := List.eq_nil_of_length_eq_zero (by have := H.out.1; omega)
    rw [hl]
    go_enter Try.func76, Try.ntmps76
    go_wp2
    go_ret
    exact ⟨none, 0, rfl, World.ownsRow_nil _ _ _ _, Below.refl _ _⟩
  | some ad =>
    have hinfo : (Try.prog.info? 3).map (fun i => (i.zero, i.size, i.bytes)) = some (some (.int .i64 0), 1, 8) := by kernel_rfl
    obtain ⟨j0, hj, jz0, jz1, jz2⟩ := info_parts hinfo
    clear hinfo
    go_enter Try.func76, Try.ntmps76
    go_wp2_with (at_builtin; refine wpList_append_own _ rfl _ _ 24 rfl w.heap.size 3 j0 (.int .i64 0) 1 8 Try.underlying24 hj jz0 jz1 jz2 rfl (by decide) _ _ _ rfl (World.ownsRow_made w #[] 0 (Nat.le_refl _) (Nat.zero_le _) rfl) ad n c (st.map (Value.int .i64)) rfl ?qc1 ?qc2 ?qc3 ?qc4 ?qc5 ?qc6 ?_)
    case qc1 => exact H.out.1
    case qc2 =>
      intro j u hu
      exact Lib.cell?_alloc_some _ (H.out.at_add j u hu)
    case qc3 => intro u hu; obtain ⟨x, _, rfl⟩ := List.mem_map.1 hu; rfl
    case qc4 => unfold maxLen; omega
    case qc5 => omega
    case qc6 => simp
    intro v' w1 hown hgrow hnil
    obtain ⟨A', C', rfl⟩ := own_slice hown
    go_wp2
    go_ret
    exact ⟨A', C', rfl, by simpa using hown, ((Below.refl _ w).alloc (Nat.le_refl _) _).grown hgrow (by simp) (by intro k hk; simp [Value.ownBlock] at hk; omega)⟩
end Go.Proofs.Ytbjfbmienlojkaa
