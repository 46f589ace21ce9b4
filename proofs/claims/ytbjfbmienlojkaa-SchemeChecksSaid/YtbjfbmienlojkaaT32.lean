/- slices.Reverse at the two element types, over a row of the caller's own. -/
import Derived.Test.YtbjfbmienlojkaaT16
import Derived.Test.YtbjfbmienlojkaaT20
import Derived.Test.YtbjfbmienlojkaaT23
namespace Go.Proofs.Ytbjfbmienlojkaa
open Go.RowKit

theorem prs_set2 (l : List (Int × Int)) (k : Nat) (x y : Int) (h : k < l.length) : ((prs l).set (k * 2) (.int .i64 x)).set (k * 2 + 1) (.int .i64 y) = prs (l.set k (x, y)) := by
  induction l generalizing k with
  | nil => simp at h
  | cons a l ih =>
    rcases k with _ | k
    · simp [prs]
    · have := ih k (by simpa using h)
      simp only [prs, List.flatMap_cons] at this ⊢
      rw [show (k + 1) * 2 = k * 2 + 2 by omega]
      simpa using this
theorem own_two {w : World} {base : Nat} {e : TypeId} {g c n : Nat} {l : List (Int × Int)} (h : w.ownsRow base e 2 (.slice (some ⟨g, 0, none⟩) n c) n (prs l)) {k : Nat} (hk : k < n) :
    ∃ hl : k < l.length, w.cell? ⟨g, k * 2, none⟩ = some (.int .i64 l[k].1) ∧ w.cell? ⟨g, k * 2 + 1, none⟩ = some (.int .i64 l[k].2) ∧ w.frozen? ⟨g, k * 2, none⟩ = false ∧ w.frozen? ⟨g, k * 2 + 1, none⟩ = false := by
  obtain ⟨b, o, hl, hA, _, _, h1, h2⟩ := (own_rd h).two hk
  injection hA with hA
  injection hA with hA1 hA2
  subst hA1 hA2
  simp only [Nat.zero_add] at h1 h2
  exact ⟨hl, h1, h2, (own_at h (by omega)).2, (own_at h (by omega)).2⟩
theorem own_one {w : World} {base : Nat} {e : TypeId} {g c n : Nat} {l : List Int} (h : w.ownsRow base e 1 (.slice (some ⟨g, 0, none⟩) n c) n (l.map (Value.int .i64))) {k : Nat} (hk : k < n) :
    ∃ hl : k < l.length, w.cell? ⟨g, k, none⟩ = some (.int .i64 l[k]) ∧ w.frozen? ⟨g, k, none⟩ = false := by
  obtain ⟨b, o, hl, hA, _, _, h1⟩ := (own_rd h).one hk
  injection hA with hA
  injection hA with hA1 hA2
  subst hA1 hA2
  simp only [Nat.zero_add] at h1
  exact ⟨hl, h1, (own_at h (by omega)).2⟩

/-- after k exchanges -/
def RevAt {α : Type} (l cur : List α) (k : Nat) : Prop := cur.length = l.length ∧ ∀ q, q < l.length → cur[q]? = if q < k ∨ l.length < q + k + 1 then l[l.length - 1 - q]? else l[q]?
theorem revAt_zero {α : Type} (l : List α) : RevAt l l 0 := ⟨rfl, fun q hq => by rw [if_neg (by omega)]⟩
theorem revAt_end {α : Type} {l cur : List α} {k j : Nat} (h : RevAt l cur k) (hj : j + k + 1 = l.length) (hkj : j ≤ k) : cur = l.reverse := by
  apply List.ext_getElem?
  intro q
  rcases Nat.lt_or_ge q l.length with hq | hq
  · rw [h.2 q hq, List.getElem?_reverse hq]
    split
    · rfl
    · rw [show l.length - 1 - q = q by omega]
  · rw [List.getElem?_eq_none (by rw [h.1]; exact hq), List.getElem?_eq_none (by simpa using hq)]
theorem revAt_step {α : Type} {l cur : List α} {k j : Nat} (h : RevAt l cur k) (hj : j + k + 1 = l.length) (hkj : k < j) (x y : α) (hx : cur[k]? = some x) (hy : cur[j]? = some y) : RevAt l ((cur.set k y).set j x) (k + 1) := by
  have h1 := h.1
  refine ⟨by simpa using h1, fun q hq => ?_⟩
  have hk := h.2 k (by omega)
  have hjj := h.2 j (by omega)
  rw [if_neg (by omega)] at hk hjj
  rw [List.getElem?_set, List.getElem?_set]
  by_cases e1 : j = q
  · subst e1
    rw [if_pos rfl, if_pos (by rw [List.length_set]; omega), if_pos (by omega), show l.length - 1 - j = k by omega, ← hk, hx]
  · rw [if_neg e1]
    by_cases e2 : k = q
    · subst e2
      rw [if_pos rfl, if_pos (by omega), if_pos (by omega), show l.length - 1 - k = j by omega, ← hjj, hy]
    · rw [if_neg e2, h.2 q hq]
      by_cases e3 : q < k ∨ l.length < q + k + 1
      · rw [if_pos e3, if_pos (by omega)]
      · rw [if_neg e3, if_neg (by omega)]

set_option maxHeartbeats 1000000 in
theorem revP_any (base : Nat) (A : Option Addr) (n c : Nat) (ls : List (Int × Int)) (w : World) (h : w.ownsRow base 66 2 (.slice A n c) n (prs ls)) (hn : n ≤ 100000) :
    Calls Try.prog 67 #[.slice A n c] w fun e w' => e = .returned (.tuple #[]) ∧ w'.ownsRow base 66 2 (.slice A n c) n (prs ls.reverse) ∧ Only (fun k => (Value.slice A n c).ownBlock = some k) w w' := by
  have hl : ls.length = n := by have := h.1; rw [prs_len] at this; omega
  have H := Lib.hid h
  have HL := Lib.hid hl
  clear h hl
  by_cases h0 : n = 0
  · subst h0
    have hl0 : ls = [] := List.eq_nil_of_length_eq_zero HL.out
    go_enter Try.func67, Try.ntmps67
    go_wp2
    refine wp_loop_rounds 1 ?_
    rw [rounds_succ]
    go_wp2
    refine bodyPost_end (results_none rfl _ _ _) rfl ?_
    exact ⟨rfl, by subst hl0; exact H.out, Only.refl _ _⟩
  · obtain ⟨g, rfl⟩ : ∃ g, A = some ⟨g, 0, none⟩ := by
      rcases H.out.2 with ⟨_, h1⟩ | ⟨g, cap, cur, hv, _⟩
      · omega
      · injection hv with hv
        exact ⟨g, hv⟩
    go_enter Try.func67, Try.ntmps67
    go_wp2
    go_loopw [2, 3] (fun v2 v3 wr => ∃ k j : Nat, v2 = .int .i64 k ∧ v3 = .int .i64 j ∧ j + k + 1 = n ∧ Hid (∃ cur, RevAt ls cur k ∧ wr.ownsRow base 66 2 (.slice (some ⟨g, 0, none⟩) n c) n (prs cur) ∧ Only (fun k => (Value.slice (some ⟨g, 0, none⟩) n c).ownBlock = some k) w wr)) (fun v _ _ => n - (intOf v).toNat)
    case atStart => exact ⟨0, n - 1, rfl, by simp; omega, by omega, Lib.hid ⟨ls, revAt_zero ls, H.out, Only.refl _ _⟩⟩
    case round =>
      obtain ⟨k, j, rfl, rfl, hjk, HH⟩ := hrel
      obtain ⟨cur, hR, hO, hB⟩ := HH.out
      clear HH
      have HJ := Lib.hid hjk
      have j1 : k ≤ 100000 := by omega
      have j2 : j ≤ 100000 := by omega
      have j3 : k < n := by omega
      have j4 : j < n := by omega
      clear hjk
      by_cases hlt : k < j
      · obtain ⟨hk1, a1, a2, f1, f2⟩ := own_two hO (k := k) (by omega)
        obtain ⟨hk2, a3, a4, f3, f4⟩ := own_two hO (k := j) (by omega)
        have hs := revAt_step hR (j := j) (by rw [HJ.out, HL.out]) hlt cur[k] cur[j] (List.getElem?_eq_getElem hk1) (List.getElem?_eq_getElem hk2)
        have hx := prs_set2 cur k cur[j].1 cur[j].2 hk1
        have hy := prs_set2 (cur.set k cur[j]) j cur[k].1 cur[k].2 (by simpa using hk2)
        generalize cur[k] = x at *
        generalize cur[j] = y at *
        obtain ⟨x1, x2⟩ := x
        obtain ⟨y1, y2⟩ := y
        simp only at a1 a2 a3 a4 hx hy
        have HN := Lib.hid (And.intro hs (And.intro hx (And.intro hy (And.intro hO hB))))
        clear hs hx hy hR hO hB
        have i1 : (0 : Int) ≤ (k : Int) := by omega
        have i2 : (k : Int) < (n : Int) := by omega
        have i3 : (0 : Int) ≤ (j : Int) := by omega
        have i4 : (j : Int) < (n : Int) := by omega
        go_wp2
        go_region
        go_wp2
        go_roundw
        case rel =>
          refine ⟨k + 1, j - 1, by go_num, by rw [show ((j : Int) - 1) = ((j - 1 : Nat) : Int) by omega], by have := HJ.out; omega, Lib.hid ⟨_, HN.out.1, ?_, ?_⟩⟩
          · rw [← HN.out.2.2.1, ← HN.out.2.1]
            exact own_set (own_set (own_set (own_set HN.out.2.2.2.1 _ _) _ _) _ _) _ _
          · exact ((((HN.out.2.2.2.2.setCell (p := ⟨g, k * 2, none⟩) (.inl rfl) _).setCell (p := ⟨g, k * 2 + 1, none⟩) (.inl rfl) _).setCell (p := ⟨g, j * 2, none⟩) (.inl rfl) _).setCell (p := ⟨g, j * 2 + 1, none⟩) (.inl rfl) _).drew
        case measure => simp [intOf]; omega
      · go_wp2
        refine bodyPost_end (results_none rfl _ _ _) rfl ?_
        exact ⟨rfl, by rw [revAt_end hR (j := j) (by rw [HJ.out, HL.out]) (by omega)] at hO; exact hO, hB⟩
set_option maxHeartbeats 1000000 in
theorem revI_any (base : Nat) (A : Option Addr) (n c : Nat) (ls : List Int) (w : World) (h : w.ownsRow base 3 1 (.slice A n c) n (ls.map (Value.int .i64))) (hn : n ≤ 100000) :
    Calls Try.prog 68 #[.slice A n c] w fun e w' => e = .returned (.tuple #[]) ∧ w'.ownsRow base 3 1 (.slice A n c) n (ls.reverse.map (Value.int .i64)) ∧ Only (fun k => (Value.slice A n c).ownBlock = some k) w w' := by
  have hl : ls.length = n := by have := h.1; simpa using this
  have H := Lib.hid h
  have HL := Lib.hid hl
  clear h hl
  by_cases h0 : n = 0
  · subst h0
    have hl0 : ls = [] := List.eq_nil_of_length_eq_zero HL.out
    go_enter Try.func68, Try.ntmps68
    go_wp2
    refine wp_loop_rounds 1 ?_
    rw [rounds_succ]
    go_wp2
    refine bodyPost_end (results_none rfl _ _ _) rfl ?_
    exact ⟨rfl, by subst hl0; exact H.out, Only.refl _ _⟩
  · obtain ⟨g, rfl⟩ : ∃ g, A = some ⟨g, 0, none⟩ := by
      rcases H.out.2 with ⟨_, h1⟩ | ⟨g, cap, cur, hv, _⟩
      · omega
      · injection hv with hv
        exact ⟨g, hv⟩
    go_enter Try.func68, Try.ntmps68
    go_wp2
    go_loopw [2, 3] (fun v2 v3 wr => ∃ k j : Nat, v2 = .int .i64 k ∧ v3 = .int .i64 j ∧ j + k + 1 = n ∧ Hid (∃ cur, RevAt ls cur k ∧ wr.ownsRow base 3 1 (.slice (some ⟨g, 0, none⟩) n c) n (cur.map (Value.int .i64)) ∧ Only (fun k => (Value.slice (some ⟨g, 0, none⟩) n c).ownBlock = some k) w wr)) (fun v _ _ => n - (intOf v).toNat)
    case atStart => exact ⟨0, n - 1, rfl, by simp; omega, by omega, Lib.hid ⟨ls, revAt_zero ls, H.out, Only.refl _ _⟩⟩
    case round =>
      obtain ⟨k, j, rfl, rfl, hjk, HH⟩ := hrel
      obtain ⟨cur, hR, hO, hB⟩ := HH.out
      clear HH
      have HJ := Lib.hid hjk
      have j1 : k ≤ 100000 := by omega
      have j2 : j ≤ 100000 := by omega
      have j3 : k < n := by omega
      have j4 : j < n := by omega
      clear hjk
      by_cases hlt : k < j
      · obtain ⟨hk1, a1, f1⟩ := own_one hO (k := k) (by omega)
        obtain ⟨hk2, a3, f3⟩ := own_one hO (k := j) (by omega)
        have hs := revAt_step hR (j := j) (by rw [HJ.out, HL.out]) hlt cur[k] cur[j] (List.getElem?_eq_getElem hk1) (List.getElem?_eq_getElem hk2)
        have hx : ((cur.map (Value.int .i64)).set k (.int .i64 cur[j])).set j (.int .i64 cur[k]) = ((cur.set k cur[j]).set j cur[k]).map (Value.int .i64) := by rw [List.map_set, List.map_set]
        generalize cur[k] = x at *
        generalize cur[j] = y at *
        have HN := Lib.hid (And.intro hs (And.intro hx (And.intro hO hB)))
        clear hs hx hR hO hB
        have i1 : (0 : Int) ≤ (k : Int) := by omega
        have i2 : (k : Int) < (n : Int) := by omega
        have i3 : (0 : Int) ≤ (j : Int) := by omega
        have i4 : (j : Int) < (n : Int) := by omega
        go_wp2
        go_region
        go_wp2
        go_roundw
        case rel =>
          refine ⟨k + 1, j - 1, by go_num, by rw [show ((j : Int) - 1) = ((j - 1 : Nat) : Int) by omega], by have := HJ.out; omega, Lib.hid ⟨_, HN.out.1, ?_, ?_⟩⟩
          · rw [← HN.out.2.1]
            exact own_set (own_set HN.out.2.2.1 _ _) _ _
          · exact ((HN.out.2.2.2.setCell (p := ⟨g, k, none⟩) (.inl rfl) _).setCell (p := ⟨g, j, none⟩) (.inl rfl) _).drew
        case measure => simp [intOf]; omega
      · go_wp2
        refine bodyPost_end (results_none rfl _ _ _) rfl ?_
        exact ⟨rfl, by rw [revAt_end hR (j := j) (by rw [HJ.out, HL.out]) (by omega)] at hO; exact hO, hB⟩
end Go.Proofs.Ytbjfbmienlojkaa
