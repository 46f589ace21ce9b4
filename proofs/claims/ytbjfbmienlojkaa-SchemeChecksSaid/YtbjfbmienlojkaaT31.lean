/- slices.Equal at the two element types, and the scheme's own Same. -/
import Derived.Test.YtbjfbmienlojkaaT22
namespace Go.Proofs.Ytbjfbmienlojkaa
open Go.RowKit

set_option maxHeartbeats 1000000 in
theorem equalP_any (A B : Option Addr) (n c m d L1 L2 B1 B2 : Nat) (l1 l2 : List (Int × Int)) (w : World)
    (h1 : Rd w L1 B1 2 A n (prs l1)) (h2 : Rd w L2 B2 2 B m (prs l2)) (e1 : n ≤ maxLen) (e2 : m ≤ maxLen) (z1 : B1 ≤ w.heap.size) (z2 : B2 ≤ w.heap.size) :
    Calls Try.prog 62 #[.slice A n c, .slice B m d] w fun e w' => e = .returned (.bool (decide (l1 = l2))) ∧ Below w.heap.size w w' := by
  unfold maxLen at e1 e2
  have q1 : l1.length = n := by have := h1.1; rw [prs_len] at this; omega
  have q2 : l2.length = m := by have := h2.1; rw [prs_len] at this; omega
  have Q := Lib.hid (And.intro q1 q2)
  have H1 := Lib.hid h1
  have H2 := Lib.hid h2
  clear q1 q2 h1 h2
  by_cases hn : n = m
  · subst hn
    have hb1 : ((n : Int) != (n : Int)) = false := by simp
    go_enter Try.func62, Try.ntmps62
    go_wp2
    go_loopw [13] (fun v wr => ∃ k : Nat, k ≤ n ∧ v = .int .i64 k ∧ Hid (Below w.heap.size w wr ∧ decide (l1 = l2) = decide (l1.drop k = l2.drop k))) (fun v _ => n - (intOf v).toNat)
    case atStart => exact ⟨0, by omega, rfl, Below.refl _ _, rfl⟩
    case round =>
      obtain ⟨k, hk, rfl, H⟩ := hrel
      by_cases hlt : k < n
      · obtain ⟨b, o, hl, rfl, hL, hB, p1, p2⟩ := H1.out.two hlt
        obtain ⟨b', o', hl', rfl, hL', hB', p3, p4⟩ := H2.out.two hlt
        generalize hx : l1[k] = x at p1 p2
        generalize hy : l2[k] = y at p3 p4
        obtain ⟨x1, x2⟩ := x
        obtain ⟨y1, y2⟩ := y
        have r1 := (H.out.1.cell (p := ⟨b, o + k * 2, none⟩) (Nat.lt_of_lt_of_le hB z1)).trans p1
        have r2 := (H.out.1.cell (p := ⟨b, o + k * 2 + 1, none⟩) (Nat.lt_of_lt_of_le hB z1)).trans p2
        have r3 := (H.out.1.cell (p := ⟨b', o' + k * 2, none⟩) (Nat.lt_of_lt_of_le hB' z2)).trans p3
        have r4 := (H.out.1.cell (p := ⟨b', o' + k * 2 + 1, none⟩) (Nat.lt_of_lt_of_le hB' z2)).trans p4
        have hde : decide (l1.drop k = l2.drop k) = (decide ((x1, x2) = (y1, y2)) && decide (l1.drop (k + 1) = l2.drop (k + 1))) := by
          rw [drop_at l1 k hl, drop_at l2 k hl', hx, hy]
          simp [Bool.and_assoc, List.cons.injEq]
        have HDE := Lib.hid hde
        have i1 : (0 : Int) ≤ (k : Int) := by omega
        have i2 : (k : Int) < (n : Int) := by omega
        clear hde hx hy p1 p2 p3 p4
        by_cases g1 : x1 = y1
        · subst g1
          by_cases g2 : x2 = y2
          · subst g2
            go_wp2
            go_quiet (fail)
            go_wp2
            go_roundw
            case rel => exact ⟨k + 1, by omega, by go_num, Lib.hid ⟨bdrawn H.out.1 _, by rw [H.out.2, HDE.out]; simp⟩⟩
            case measure => simp [intOf]; omega
          · go_wp2
            go_quiet (fail)
            go_wp2
            go_ret
            exact ⟨ret_bool (by rw [H.out.2, HDE.out]; simp [g2]), bdrawn H.out.1 _⟩
        · go_wp2
          go_quiet (fail)
          go_wp2
          go_ret
          exact ⟨ret_bool (by rw [H.out.2, HDE.out]; simp [g1]), bdrawn H.out.1 _⟩
      · have hkn : k = n := by omega
        subst hkn
        have HL := Lib.hid (show decide (l1 = l2) = true by rw [H.out.2, List.drop_of_length_le (by rw [Q.out.1]; exact Nat.le_refl _), List.drop_of_length_le (by rw [Q.out.2]; exact Nat.le_refl _)]; rfl)
        go_wp2
        go_ret
        exact ⟨ret_bool HL.out.symm, H.out.1⟩
  · have hs : decide (l1 = l2) = false := by
      simp only [decide_eq_false_iff_not]
      intro hh; apply hn; rw [← Q.out.1, ← Q.out.2, hh]
    have hb1 : ((n : Int) != (m : Int)) = true := by simp; omega
    have HS := Lib.hid hs
    clear hs hn
    go_enter Try.func62, Try.ntmps62
    go_wp2
    go_ret
    exact ⟨ret_bool HS.out.symm, Below.refl _ _⟩

set_option maxHeartbeats 1000000 in
theorem equalI_any (A B : Option Addr) (n c m d L1 L2 B1 B2 : Nat) (l1 l2 : List Int) (w : World)
    (h1 : Rd w L1 B1 1 A n (l1.map (Value.int .i64))) (h2 : Rd w L2 B2 1 B m (l2.map (Value.int .i64))) (e1 : n ≤ maxLen) (e2 : m ≤ maxLen) (z1 : B1 ≤ w.heap.size) (z2 : B2 ≤ w.heap.size) :
    Calls Try.prog 63 #[.slice A n c, .slice B m d] w fun e w' => e = .returned (.bool (decide (l1 = l2))) ∧ Below w.heap.size w w' := by
  unfold maxLen at e1 e2
  have q1 : l1.length = n := by have := h1.1; simpa using this
  have q2 : l2.length = m := by have := h2.1; simpa using this
  have Q := Lib.hid (And.intro q1 q2)
  have H1 := Lib.hid h1
  have H2 := Lib.hid h2
  clear q1 q2 h1 h2
  by_cases hn : n = m
  · subst hn
    have hb1 : ((n : Int) != (n : Int)) = false := by simp
    go_enter Try.func63, Try.ntmps63
    go_wp2
    go_loopw [13] (fun v wr => ∃ k : Nat, k ≤ n ∧ v = .int .i64 k ∧ Hid (Below w.heap.size w wr ∧ decide (l1 = l2) = decide (l1.drop k = l2.drop k))) (fun v _ => n - (intOf v).toNat)
    case atStart => exact ⟨0, by omega, rfl, Below.refl _ _, rfl⟩
    case round =>
      obtain ⟨k, hk, rfl, H⟩ := hrel
      by_cases hlt : k < n
      · obtain ⟨b, o, hl, rfl, hL, hB, p1⟩ := H1.out.one hlt
        obtain ⟨b', o', hl', rfl, hL', hB', p3⟩ := H2.out.one hlt
        generalize hx : l1[k] = x at p1
        generalize hy : l2[k] = y at p3
        have r1 := (H.out.1.cell (p := ⟨b, o + k, none⟩) (Nat.lt_of_lt_of_le hB z1)).trans p1
        have r3 := (H.out.1.cell (p := ⟨b', o' + k, none⟩) (Nat.lt_of_lt_of_le hB' z2)).trans p3
        have hde : decide (l1.drop k = l2.drop k) = (decide (x = y) && decide (l1.drop (k + 1) = l2.drop (k + 1))) := by
          rw [drop_at l1 k hl, drop_at l2 k hl', hx, hy]
          simp [List.cons.injEq]
        have HDE := Lib.hid hde
        have i1 : (0 : Int) ≤ (k : Int) := by omega
        have i2 : (k : Int) < (n : Int) := by omega
        clear hde hx hy p1 p3
        by_cases g1 : x = y
        · subst g1
          go_wp2
          go_quiet (fail)
          go_wp2
          go_roundw
          case rel => exact ⟨k + 1, by omega, by go_num, Lib.hid ⟨bdrawn H.out.1 _, by rw [H.out.2, HDE.out]; simp⟩⟩
          case measure => simp [intOf]; omega
        · have g1b : (x != y) = true := by simpa using g1
          go_wp2
          go_quiet (fail)
          go_wp2
          go_ret
          exact ⟨ret_bool (by rw [H.out.2, HDE.out]; simp [g1]), bdrawn H.out.1 _⟩
      · have hkn : k = n := by omega
        subst hkn
        have HL := Lib.hid (show decide (l1 = l2) = true by rw [H.out.2, List.drop_of_length_le (by rw [Q.out.1]; exact Nat.le_refl _), List.drop_of_length_le (by rw [Q.out.2]; exact Nat.le_refl _)]; rfl)
        go_wp2
        go_ret
        exact ⟨ret_bool HL.out.symm, H.out.1⟩
  · have hs : decide (l1 = l2) = false := by
      simp only [decide_eq_false_iff_not]
      intro hh; apply hn; rw [← Q.out.1, ← Q.out.2, hh]
    have hb1 : ((n : Int) != (m : Int)) = true := by simp; omega
    have HS := Lib.hid hs
    clear hs hn
    go_enter Try.func63, Try.ntmps63
    go_wp2
    go_ret
    exact ⟨ret_bool HS.out.symm, Below.refl _ _⟩
end Go.Proofs.Ytbjfbmienlojkaa
