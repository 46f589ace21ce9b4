/- spoil: it writes into the scheme's own two rows, and behind them; nothing else. -/
import Derived.Test.YtbjfbmienlojkaaMem
import Derived.Test.YtbjfbmienlojkaaChecked
import Derived.Deep.RegionHeld3
import Derived.Deep.AppendLies
namespace Go.Proofs.Ytbjfbmienlojkaa
open Go.RowKit

/-- a store into an owned row of elements of any size -/
theorem own_set {w : World} {base : Nat} {e : TypeId} {sz g c n : Nat} {xs : List Value} (h : w.ownsRow base e sz (.slice (some ⟨g, 0, none⟩) n c) n xs) (i : Nat) (u : Value) : (w.setCell ⟨g, i, none⟩ u).ownsRow base e sz (.slice (some ⟨g, 0, none⟩) n c) n (xs.set i u) := by
  refine ⟨by simpa using h.1, .inr ?_⟩
  rcases h.2 with ⟨h0, _⟩ | ⟨g', cap, cur, hv, hb, hg, hnc, hcm, hcs, htk⟩
  · cases h0
  · injection hv with hv1 hv2 hv3
    injection hv1 with hv1
    injection hv1 with hv1
    subst hv1 hv3
    refine ⟨g, c, cur.setIfInBounds i u, rfl, hb, heap_setCell_same w g i cur e u hg, hnc, hcm, by simpa using hcs, ?_⟩
    rw [Array.toList_setIfInBounds, List.take_set, htk]
theorem own_far {w : World} {base : Nat} {e : TypeId} {sz n : Nat} {v : Value} {xs : List Value} (h : w.ownsRow base e sz v n xs) {p : Addr} (hp : v.ownBlock ≠ some p.block) (u : Value) : (w.setCell p u).ownsRow base e sz v n xs :=
  own_only (S := fun k => k = p.block) h (Only.setCell (S := fun k => k = p.block) (Only.refl _ w) (.inl rfl) _) (fun k _ _ hk hkg => hp (by rw [hk, hkg]))
/-- the cells of an owned row are there, and may be written -/
theorem own_at {w : World} {base : Nat} {e : TypeId} {sz g c n : Nat} {xs : List Value} (h : w.ownsRow base e sz (.slice (some ⟨g, 0, none⟩) n c) n xs) {i : Nat} (hi : i < n * sz) : (∃ u, w.cell? ⟨g, i, none⟩ = some u) ∧ w.frozen? ⟨g, i, none⟩ = false := by
  rcases h.2 with ⟨h0, _⟩ | ⟨g', cap, cur, hv, _, hg, hnc, _, hcs, htk⟩
  · cases h0
  · injection hv with hv1
    injection hv1 with hv1
    injection hv1 with hv1
    subst hv1
    have hb : Blk w g e cur := hg
    have hlt : i < cur.size := by
      rw [hcs]
      exact Nat.lt_of_lt_of_le hi (Nat.mul_le_mul hnc (Nat.le_refl _))
    exact ⟨⟨_, (hb.cell i).trans (Array.getElem?_eq_getElem hlt)⟩, hb.frozen i⟩

theorem own_ne2 {n1 c1 : Nat} {g o : Nat} {n2 c2 : Nat} {A2 : Option Addr} (h : (Value.slice (some ⟨g, o, none⟩) n1 c1).ownBlock = none ∨ (Value.slice (some ⟨g, o, none⟩) n1 c1).ownBlock ≠ (Value.slice A2 n2 c2).ownBlock) : (Value.slice A2 n2 c2).ownBlock ≠ some g := by
  rcases h with h | h
  · cases h
  · exact fun hh => h hh.symm
theorem own_ne1 {A1 : Option Addr} {n1 c1 : Nat} {g o : Nat} {n2 c2 : Nat} (h : (Value.slice A1 n1 c1).ownBlock = none ∨ (Value.slice A1 n1 c1).ownBlock ≠ (Value.slice (some ⟨g, o, none⟩) n2 c2).ownBlock) : (Value.slice A1 n1 c1).ownBlock ≠ some g := by
  rcases h with h | h
  · rw [h]; simp
  · exact h

theorem blk_new_eq {w : World} {i : Nat} {t : TypeId} {cs : Array Value} (h : i = w.heap.size) : Blk (w.alloc (.cells cs t)) i t cs := by subst h; exact Blk.new _ _ _
theorem Blk.grown_ {w w' : World} {g : Nat} {t : TypeId} {cs : Array Value} {row : Option Nat} (h : Blk w g t cs) (hb : w.grownBy w' row) (hg : some g ≠ row) : Blk w' g t cs := (hb.block g h.lt hg).trans h
theorem Blk.grown_lt {w w' : World} {g : Nat} {t : TypeId} {cs : Array Value} {row : Option Nat} (hb : w.grownBy w' row) (N : Nat) (hrow : ∀ k, row = some k → k < N) (hN : N ≤ g) (h : Blk w g t cs) : Blk w' g t cs :=
  (hb.block g h.lt (fun hh => by have := hrow g hh.symm; omega)).trans h
theorem exit_abs {K : Act → World → Prop} {Q : Exit → Act → World → Prop} {a : Act} {W : World} (F : World → Prop) (hF : F W) (h : ∀ w, F w → Exit.then K Q .normal a w) : Exit.then K Q .normal a W := h W hF
theorem own_keep {w w' : World} {base : Nat} {e : TypeId} {sz n : Nat} {v v2 : Value} {xs : List Value} (h : w.ownsRow base e sz v n xs) (kn : v.ownBlock = none ∨ v.ownBlock ≠ v2.ownBlock) (ho : Only (fun k => v2.ownBlock = some k) w w') : w'.ownsRow base e sz v n xs :=
  own_only h ho (fun k _ _ hk hk2 => by
    rcases kn with h0 | h0
    · rw [h0] at hk; cases hk
    · exact h0 (hk.trans hk2.symm))

theorem keep_two {w W : World} {b : Nat} {v1 v2 : Value} (h : Blk w b 26 #[v1, v2]) (k1 : v1.ownBlock ≠ some b) (k2 : v2.ownBlock ≠ some b) (ho : Only (fun k => v1.ownBlock = some k ∨ v2.ownBlock = some k) w W) :
    W.cell? ⟨b, 0, none⟩ = some v1 ∧ W.cell? ⟨b, 1, none⟩ = some v2 := by
  have hb := h.only ho (by rintro (hh | hh); exact k1 hh; exact k2 hh)
  exact ⟨hb.cell 0, hb.cell 1⟩
/-- behind the two appends -/
structure SpEnd (w0 : World) (base : Nat) (v1 v2 r1 r2 : Value) (m1 m2 : Nat) (w : World) : Prop where
  o1 : ∃ xs, w.ownsRow base 66 2 r1 m1 xs
  o2 : ∃ xs, w.ownsRow base 3 1 r2 m2 xs
  i1 : ∀ g, r1.ownBlock = some g → v1.ownBlock = some g ∨ w0.heap.size ≤ g
  i2 : ∀ g, r2.ownBlock = some g → v2.ownBlock = some g ∨ w0.heap.size ≤ g
  only : Only (fun k => v1.ownBlock = some k ∨ v2.ownBlock = some k) w0 w
theorem own_stay {w w' : World} {base : Nat} {e : TypeId} {sz n : Nat} {v : Value} {xs : List Value} (h : w.ownsRow base e sz v n xs) (ho : Only (fun _ => False) w w') : w'.ownsRow base e sz v n xs := own_only h ho (fun _ _ _ _ hf => hf)

/-- while spoil runs -/
structure SpSt (w0 : World) (base : Nat) (v1 v2 : Value) (n1 n2 : Nat) (w : World) : Prop where
  bx : Blk w w0.heap.size 26 #[v1, v2]
  o1 : ∃ xs, w.ownsRow base 66 2 v1 n1 xs
  o2 : ∃ xs, w.ownsRow base 3 1 v2 n2 xs
  only : Only (fun k => v1.ownBlock = some k ∨ v2.ownBlock = some k) w0 w

set_option maxHeartbeats 2000000 in
set_option maxRecDepth 100000 in
theorem spoil_any (base : Nat) (A1 A2 : Option Addr) (n1 c1 n2 c2 : Nat) (x1 x2 : List Value) (w : World) (h1 : w.ownsRow base 66 2 (.slice A1 n1 c1) n1 x1) (h2 : w.ownsRow base 3 1 (.slice A2 n2 c2) n2 x2) (hn1 : n1 ≤ 100000) (hn2 : n2 ≤ 100000) (hbw : base ≤ w.heap.size) :
    Calls Try.prog 17 #[.agg #[.slice A1 n1 c1, .slice A2 n2 c2]] w fun e w' => e = .returned (.tuple #[]) ∧ Only (fun k => (Value.slice A1 n1 c1).ownBlock = some k ∨ (Value.slice A2 n2 c2).ownBlock = some k) w w' := by
  have H1 := Lib.hid h1
  have H2 := Lib.hid h2
  clear h1 h2
  have k1 : ∀ k, (Value.slice A1 n1 c1).ownBlock = some k → base ≤ k ∧ k < w.heap.size := fun k hk => H1.out.lt k hk
  have k2 : ∀ k, (Value.slice A2 n2 c2).ownBlock = some k → base ≤ k ∧ k < w.heap.size := fun k hk => H2.out.lt k hk
  have KN := Lib.hid (own_ne H1.out H2.out (by decide))
  have K1 := Lib.hid k1
  have K2 := Lib.hid k2
  clear k1 k2
  go_enter Try.func17, Try.ntmps17
  go_wp2_with fail
  go_wp2
  refine wp_abs (SpSt w base (.slice A1 n1 c1) (.slice A2 n2 c2) n1 n2) ⟨Blk.new _ _ _, ⟨_, H1.out.alloc _⟩, ⟨_, H2.out.alloc _⟩, (Only.refl _ _).alloc _⟩ ?_
  intro w1 hw1
  go_loopw [9] (fun v wr => ∃ k : Nat, k ≤ n1 ∧ v = .int .i64 k ∧ Hid (SpSt w base (.slice A1 n1 c1) (.slice A2 n2 c2) n1 n2 wr)) (fun v _ => n1 - (intOf v).toNat)
  case atStart => exact ⟨0, by omega, rfl, hw1⟩
  case round =>
    clear hw1 w1
    obtain ⟨k, hk, rfl, H⟩ := hrel
    by_cases hlt : k < n1
    · obtain ⟨xs, hx⟩ := H.out.o1
      obtain ⟨g, C, hv, hg1, hg2⟩ := hx.form (by omega)
      injection hv with hvA hvn hvC
      subst hvA hvC
      have hk1 := K1.out g rfl
      have bx0 : wr.cell? ⟨w.heap.size, 0, none⟩ = some (.slice (some ⟨g, 0, none⟩) n1 c1) := H.out.bx.cell 0
      obtain ⟨⟨u1, q1⟩, f1⟩ := own_at hx (i := k * 2) (by omega)
      obtain ⟨⟨u2, q2⟩, f2⟩ := own_at hx (i := k * 2 + 1) (by omega)
      have hgn : g ≠ w.heap.size := by omega
      have HX := Lib.hid hx
      clear hx hvn
      have HN := Lib.hid ((⟨(H.out.bx.far (p := ⟨g, k * 2, none⟩) (Ne.symm hgn) _).far (p := ⟨g, k * 2 + 1, none⟩) (Ne.symm hgn) _, ⟨_, own_set (own_set HX.out (k * 2) (.int .i64 (-7))) (k * 2 + 1) (.int .i64 (-7))⟩,
        H.out.o2.imp (fun xs h => own_far (p := ⟨g, k * 2 + 1, none⟩) (own_far (p := ⟨g, k * 2, none⟩) h (own_ne2 KN.out) _) (own_ne2 KN.out) _), (H.out.only.setCell (p := ⟨g, k * 2, none⟩) (.inl (.inl rfl)) _).setCell (p := ⟨g, k * 2 + 1, none⟩) (.inl (.inl rfl)) _⟩ :
          SpSt w base (.slice (some ⟨g, 0, none⟩) n1 c1) (.slice A2 n2 c2) n1 n2 ((wr.setCell ⟨g, k * 2, none⟩ (.int .i64 (-7))).setCell ⟨g, k * 2 + 1, none⟩ (.int .i64 (-7)))))
      go_wp2
      go_roundw
      case rel => exact ⟨k + 1, by omega, by go_num, HN⟩
      case measure => simp [intOf]; omega
    · have hkn : k = n1 := by omega
      subst hkn
      have b1 : wr.cell? ⟨w.heap.size, 1, none⟩ = some (.slice A2 n2 c2) := H.out.bx.cell 1
      go_wp2
      go_loopw [21] (fun v wr => ∃ j : Nat, j ≤ n2 ∧ v = .int .i64 j ∧ Hid (SpSt w base (.slice A1 k c1) (.slice A2 n2 c2) k n2 wr)) (fun v _ => n2 - (intOf v).toNat)
      case atStart => exact ⟨0, by omega, rfl, H⟩
      case round =>
        clear b1 H
        rename_i wq
        obtain ⟨j, hj, rfl, H⟩ := hrel
        by_cases hlt2 : j < n2
        · obtain ⟨xs, hx⟩ := H.out.o2
          obtain ⟨g, C, hv, hg1, hg2⟩ := hx.form (by omega)
          injection hv with hvA hvn hvC
          subst hvA hvC
          have hk1 := K2.out g rfl
          have bx0 : wr.cell? ⟨w.heap.size, 1, none⟩ = some (.slice (some ⟨g, 0, none⟩) n2 c2) := H.out.bx.cell 1
          obtain ⟨⟨u1, q1⟩, f1⟩ := own_at hx (i := j) (by omega)
          have hgn : g ≠ w.heap.size := by omega
          have HX := Lib.hid hx
          clear hx hvn
          have HN := Lib.hid ((⟨H.out.bx.far (p := ⟨g, j, none⟩) (Ne.symm hgn) _, H.out.o1.imp (fun xs h => own_far (p := ⟨g, j, none⟩) h (own_ne1 KN.out) _), ⟨_, own_set HX.out j (.int .i64 (-7))⟩, H.out.only.setCell (p := ⟨g, j, none⟩) (.inl (.inr rfl)) _⟩ :
              SpSt w base (.slice A1 k c1) (.slice (some ⟨g, 0, none⟩) n2 c2) k n2 (wr.setCell ⟨g, j, none⟩ (.int .i64 (-7)))))
          go_wp2
          go_roundw
          case rel => exact ⟨j + 1, by omega, by go_num, HN⟩
          case measure => simp [intOf]; omega
        · obtain ⟨xs1, o1w⟩ := H.out.o1
          obtain ⟨xs2, o2w⟩ := H.out.o2
          have hon := H.out.only
          have hsz : base ≤ wr.heap.size := Nat.le_trans hbw hon.size
          have b0 : wr.cell? ⟨w.heap.size, 0, none⟩ = some (.slice A1 k c1) := H.out.bx.cell 0
          have b1 : wr.cell? ⟨w.heap.size, 1, none⟩ = some (.slice A2 n2 c2) := H.out.bx.cell 1
          have hinfo : (Try.prog.info? 66).map (fun i => (i.zero, i.size, i.bytes)) = some (some (.agg #[.int .i64 0, .int .i64 0]), 2, 16) := by kernel_rfl
          obtain ⟨i0, hi, hz0, hz1, hz2⟩ := info_parts hinfo
          have HI := Lib.hid (And.intro hi (And.intro hz0 (And.intro hz1 hz2)))
          have hinfo3 : (Try.prog.info? 3).map (fun i => (i.zero, i.size, i.bytes)) = some (some (.int .i64 0), 1, 8) := by kernel_rfl
          obtain ⟨j0, hj', jz0, jz1, jz2⟩ := info_parts hinfo3
          have HJ := Lib.hid (And.intro hj' (And.intro jz0 (And.intro jz1 jz2)))
          have HO := Lib.hid hon
          have KN2 := Lib.hid (own_ne o2w o1w (by decide))
          have hww : w.heap.size < wr.heap.size := H.out.bx.lt
          have BX := Lib.hid (H.out.bx)
          have KB1 := Lib.hid (show (Value.slice A1 k c1).ownBlock ≠ some w.heap.size from fun hh => absurd (K1.out _ hh).2 (Nat.lt_irrefl _))
          have KB2 := Lib.hid (show (Value.slice A2 n2 c2).ownBlock ≠ some w.heap.size from fun hh => absurd (K2.out _ hh).2 (Nat.lt_irrefl _))
          have O1 := Lib.hid o1w
          have O2 := Lib.hid o2w
          clear hi hz0 hz1 hz2 hinfo hinfo3 hj' jz0 jz1 jz2 H hon o1w o2w
          go_wp2
          go_region_held3 (fun w' => w'.cell? ⟨w.heap.size, 0, none⟩ = some (.slice A1 k c1) ∧ w'.cell? ⟨w.heap.size, 1, none⟩ = some (.slice A2 n2 c2)) ((refine keep_two BX.out KB1.out KB2.out ?_; (repeat (first | (with_reducible exact Only.refl _ _) | (with_reducible refine Only.drew ?_) | (with_reducible refine Only.alloc ?_ _) | (with_reducible refine Only.grown ?_ hgrowA (fun g hg => .inl (.inl hg))) | (with_reducible refine Only.grown ?_ hgrowB (fun g hg => .inl (.inr hg)))))))
            (first
              | ((refine step_append_lies _ (by rfl) _ _ 23 (by rfl) base 66 i0 (.agg #[.int .i64 0, .int .i64 0]) 2 16 Try.underlying23 HI.out.1 HI.out.2.1 HI.out.2.2.1 HI.out.2.2.2 rfl (by omega) (.slice A1 k c1) k xs1 (by rfl) ?_ _ 2 2 [.int .i64 (-9), .int .i64 0, .int .i64 0, .int .i64 0] (by rfl) (by rfl) ?_ (by simp [Value.oneCell']) (by omega) ?_ (by omega) ?_ _ rfl ?_; (refine own_keep O1.out (v2 := .slice A2 n2 c2) KN.out ?_; (repeat (first | (with_reducible exact Only.refl _ _) | (with_reducible refine Only.drew ?_) | (with_reducible refine Only.alloc ?_ _) | (with_reducible refine Only.grown ?_ hgrowB (fun g hg => .inl hg))))); (refine World.news_of_block (cs := #[.int .i64 (-9), .int .i64 0, .int .i64 0, .int .i64 0]) (t := 66) (fr := (0, 0)) ?_; refine (show Blk _ _ 66 _ from ?_); repeat (first | ((with_reducible refine blk_new_eq ?_); (first | (with_reducible rfl) | exact (by simp) | exact (by simp; omega))) | (with_reducible refine Blk.drew ?_) | (with_reducible refine Blk.alloc ?_ _) | ((with_reducible refine Blk.grown_lt hgrowB w.heap.size (fun k hk => (K2.out k hk).2) ?_ ?_); omega))); (unfold maxLen; omega); (first | omega | (simp; omega) | (have := hgrowB.size; simp at this; omega) | (have := hgrowB.size; simp at this; simp; omega)); intro gA capA wA hownA hgrowA hatA hltA))
              | ((refine step_append_lies _ (by rfl) _ _ 24 (by rfl) base 3 j0 (.int .i64 0) 1 8 Try.underlying24 HJ.out.1 HJ.out.2.1 HJ.out.2.2.1 HJ.out.2.2.2 rfl (by omega) (.slice A2 n2 c2) n2 xs2 (by rfl) ?_ _ 2 2 [.int .i64 (-9), .int .i64 (-9)] (by rfl) (by rfl) ?_ (by simp [Value.oneCell']) (by omega) ?_ (by omega) ?_ _ rfl ?_; (refine own_keep O2.out (v2 := .slice A1 k c1) KN2.out ?_; (repeat (first | (with_reducible exact Only.refl _ _) | (with_reducible refine Only.drew ?_) | (with_reducible refine Only.alloc ?_ _) | (with_reducible refine Only.grown ?_ hgrowA (fun g hg => .inl hg))))); (refine World.news_of_block (cs := #[.int .i64 (-9), .int .i64 (-9)]) (t := 3) (fr := (0, 0)) ?_; refine (show Blk _ _ 3 _ from ?_); repeat (first | ((with_reducible refine blk_new_eq ?_); (first | (with_reducible rfl) | exact (by simp) | exact (by simp; omega))) | (with_reducible refine Blk.drew ?_) | (with_reducible refine Blk.alloc ?_ _) | ((with_reducible refine Blk.grown_lt hgrowA w.heap.size (fun k hk => (K1.out k hk).2) ?_ ?_); omega))); (unfold maxLen; omega); (first | omega | (simp; omega) | (have := hgrowA.size; simp at this; omega) | (have := hgrowA.size; simp at this; simp; omega)); intro gB capB wB hownB hgrowB hatB hltB)))
          all_goals
            refine exit_abs (SpEnd w base (.slice A1 k c1) (.slice A2 n2 c2) (.slice (some ⟨gA, 0, none⟩) (k + 2) capA) (.slice (some ⟨gB, 0, none⟩) (n2 + 2) capB) (k + 2) (n2 + 2)) ?_ ?_
            · have s1 := hgrowA.size
              have s2 := hgrowB.size
              (try simp only [World.size_alloc, World.size_drew] at s1)
              (try simp only [World.size_alloc] at s2)
              refine ⟨?_, ?_, ?_, ?_, ?_⟩
              · first
                | (refine ⟨_, own_keep hownA (v2 := .slice A2 n2 c2) (own_ne hownA (own_keep (v2 := .slice A1 k c1) O2.out KN2.out ?_) (by decide)) ?_⟩ <;> (focus ((repeat (first | (with_reducible exact Only.refl _ _) | (with_reducible refine Only.drew ?_) | (with_reducible refine Only.alloc ?_ _) | (with_reducible refine Only.grown ?_ hgrowA (fun g hg => .inl hg)) | (with_reducible refine Only.grown ?_ hgrowB (fun g hg => .inl hg)))); done)))
                | (refine ⟨_, own_stay hownA ?_⟩; focus ((repeat (first | (with_reducible exact Only.refl _ _) | (with_reducible refine Only.drew ?_) | (with_reducible refine Only.alloc ?_ _))); done))
              · first
                | (refine ⟨_, own_stay hownB ?_⟩; focus ((repeat (first | (with_reducible exact Only.refl _ _) | (with_reducible refine Only.drew ?_) | (with_reducible refine Only.alloc ?_ _))); done))
                | (refine ⟨_, own_keep hownB (v2 := .slice A1 k c1) (own_ne hownB (own_keep (v2 := .slice A2 n2 c2) O1.out KN.out ?_) (by decide)) ?_⟩ <;> (focus ((repeat (first | (with_reducible exact Only.refl _ _) | (with_reducible refine Only.drew ?_) | (with_reducible refine Only.alloc ?_ _) | (with_reducible refine Only.grown ?_ hgrowA (fun g hg => .inl hg)) | (with_reducible refine Only.grown ?_ hgrowB (fun g hg => .inl hg)))); done)))
              · intro g hg
                have hgg : gA = g := by simpa [Value.ownBlock] using hg
                subst hgg
                rcases hatA with hh | hh
                · exact .inl hh
                · right; rw [hh]; (try simp only [World.size_alloc, World.size_drew]); omega
              · intro g hg
                have hgg : gB = g := by simpa [Value.ownBlock] using hg
                subst hgg
                rcases hatB with hh | hh
                · exact .inl hh
                · right; rw [hh]; (try simp only [World.size_alloc]); omega
              · refine HO.out.trans ?_
                (repeat (first | (with_reducible exact Only.refl _ _) | (with_reducible refine Only.drew ?_) | (with_reducible refine Only.alloc ?_ _) | (with_reducible refine Only.grown ?_ hgrowA (fun g hg => .inl (.inl hg))) | (with_reducible refine Only.grown ?_ hgrowB (fun g hg => .inl (.inr hg)))))
            · intro we he
              obtain ⟨ya, oa⟩ := he.o1
              obtain ⟨yb, ob⟩ := he.o2
              obtain ⟨⟨u1, q1⟩, f1⟩ := own_at oa (i := 0) (by omega)
              have hne : gA ≠ gB := by
                rcases own_ne oa ob (by decide) with h0 | h0
                · cases h0
                · intro hh; exact h0 (by rw [hh]; rfl)
              obtain ⟨⟨u2, q2⟩, f2⟩ := own_at ob (i := 0) (by omega)
              have HE := Lib.hid he
              have i1 : (0 : Int) < (k : Int) + 2 := by omega
              have i2 : (0 : Int) < (n2 : Int) + 2 := by omega
              have hne2 : gB ≠ gA := Ne.symm hne
              clear he oa ob hownA hownB hgrowA hgrowB hatA hatB hltA hltB
              go_wp2
              go_end0
              refine ⟨rfl, ?_⟩
              have hA := HE.out.i1 gA rfl
              have hB := HE.out.i2 gB rfl
              refine (HE.out.only.setCell ?_ _).setCell ?_ _
              · rcases hA with hh | hh
                · exact .inl (.inl hh)
                · exact .inr hh
              · rcases hB with hh | hh
                · exact .inl (.inr hh)
                · exact .inr hh
end Go.Proofs.Ytbjfbmienlojkaa
