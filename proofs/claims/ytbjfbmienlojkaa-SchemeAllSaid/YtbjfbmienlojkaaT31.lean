/- slices.Equal at the two element types, and the scheme's own Same.
   The scheme's own Same. -/
import Derived.Test.YtbjfbmienlojkaaT22
import Derived.Test.YtbjfbmienlojkaaT15
namespace Go.Proofs.Ytbjfbmienlojkaa
open Go.RowKit

set_option maxHeartbeats 1000000 in
theorem equalP_any (A B : Option Addr) (n c m d L1 L2 B1 B2 : Nat) (l1 l2 : List (Int × Int)) (w : World)
    (h1 : Rd w L1 B1 2 A n (prs l1)) (h2 : Rd w L2 B2 2 B m (prs l2)) (e1 : n ≤ maxLen) (e2 : m ≤ maxLen) (z1 : B1 ≤ w.heap.size) (z2 : B2 ≤ w.heap.size) :
    Calls Try.prog 62 #[.slice A n c, .slice B m d] w fun e w' => e = .returned (.bool (decide (l1 = l2))) ∧ Below w.heap.size w w' := by
  unfold maxLen at e1 e2
  have q1 : l1.length = n := by have := h1.1; rw [prs_len] at this; omega
  have q2 : l2.length = m := by have := h2.1; rw [prs_len] at this; omega
  have Q := Lib.hid (And.intro q1 q2)
  have H1 := Lib.hid h1
  have H2 := Lib.hid h2
  clear q1 q2 h1 h2
  by_cases hn : n = m
  · subst hn
    have hb1 : ((n : Int) != (n : Int)) = false := by simp
    go_enter Try.func62, Try.ntmps62
    go_wp2
    go_loopw [13] (fun v wr => ∃ k : Nat, k ≤ n ∧ v = .int .i64 k ∧ Hid (Below w.heap.size w wr ∧ decide (l1 = l2) = decide (l1.drop k = l2.drop k))) (fun v _ => n - (intOf v).toNat)
    case atStart => exact ⟨0, by omega, rfl, Below.refl _ _, rfl⟩
    case round =>
      obtain ⟨k, hk, rfl, H⟩ := hrel
      by_cases hlt : k < n
      · obtain ⟨b, o, hl, rfl, hL, hB, p1, p2⟩ := H1.out.two hlt
        obtain ⟨b', o', hl', rfl, hL', hB', p3, p4⟩ := H2.out.two hlt
        generalize hx : l1[k] = x at p1 p2
        generalize hy : l2[k] = y at p3 p4
        obtain ⟨x1, x2⟩ := x
        obtain ⟨y1, y2⟩ := y
        have r1 := (H.out.1.cell (p := ⟨b, o + k * 2, none⟩) (Nat.lt_of_lt_of_le hB z1)).trans p1
        have r2 := (H.out.1.cell (p := ⟨b, o + k * 2 + 1, none⟩) (Nat.lt_of_lt_of_le hB z1)).trans p2
        have r3 := (H.out.1.cell (p := ⟨b', o' + k * 2, none⟩) (Nat.lt_of_lt_of_le hB' z2)).trans p3
        have r4 := (H.out.1.cell (p := ⟨b', o' + k * 2 + 1, none⟩) (Nat.lt_of_lt_of_le hB' z2)).trans p4
        have hde : decide (l1.drop k = l2.drop k) = (decide ((x1, x2) = (y1, y2)) && decide (l1.drop (k + 1) = l2.drop (k + 1))) := by
          rw [drop_at l1 k hl, drop_at l2 k hl', hx, hy]
          simp [Bool.and_assoc, List.cons.injEq]
        have HDE := Lib.hid hde
        have i1 : (0 : Int) ≤ (k : Int) := by omega
        have i2 : (k : Int) < (n : Int) := by omega
        clear hde hx hy p1 p2 p3 p4
        by_cases g1 : x1 = y1
        · subst g1
          by_cases g2 : x2 = y2
          · subst g2
            go_wp2
            go_quiet (fail)
            go_wp2
            go_roundw
            case rel => exact ⟨k + 1, by omega, by go_num, Lib.hid ⟨bdrawn H.out.1 _, by rw [H.out.2, HDE.out]; simp⟩⟩
            case measure => simp [intOf]; omega
          · go_wp2
            go_quiet (fail)
            go_wp2
            go_ret
            exact ⟨ret_bool (by rw [H.out.2, HDE.out]; simp [g2]), bdrawn H.out.1 _⟩
        · go_wp2
          go_quiet (fail)
          go_wp2
          go_ret
          exact ⟨ret_bool (by rw [H.out.2, HDE.out]; simp [g1]), bdrawn H.out.1 _⟩
      · have hkn : k = n := by omega
        subst hkn
        have HL := Lib.hid (show decide (l1 = l2) = true by rw [H.out.2, List.drop_of_length_le (by rw [Q.out.1]; exact Nat.le_refl _), List.drop_of_length_le (by rw [Q.out.2]; exact Nat.le_refl _)]; rfl)
        go_wp2
        go_ret
        exact ⟨ret_bool HL.out.symm, H.out.1⟩
  · have hs : decide (l1 = l2) = false := by
      simp only [decide_eq_false_iff_not]
      intro hh; apply hn; rw [← Q.out.1, ← Q.out.2, hh]
    have hb1 : ((n : Int) != (m : Int)) = true := by simp; omega
    have HS := Lib.hid hs
    clear hs hn
    go_enter Try.func62, Try.ntmps62
    go_wp2
    go_ret
    exact ⟨ret_bool HS.out.symm, Below.refl _ _⟩

set_option maxHeartbeats 1000000 in
theorem equalI_any (A B : Option Addr) (n c m d L1 L2 B1 B2 : Nat) (l1 l2 : List Int) (w : World)
    (h1 : Rd w L1 B1 1 A n (l1.map (Value.int .i64))) (h2 : Rd w L2 B2 1 B m (l2.map (Value.int .i64))) (e1 : n ≤ maxLen) (e2 : m ≤ maxLen) (z1 : B1 ≤ w.heap.size) (z2 : B2 ≤ w.heap.size) :
    Calls Try.prog 63 #[.slice A n c, .slice B m d] w fun e w' => e = .returned (.bool (decide (l1 = l2))) ∧ Below w.heap.size w w' := by
  unfold maxLen at e1 e2
  have q1 : l1.length = n := by have := h1.1; simpa using this
  have q2 : l2.length = m := by have := h2.1; simpa using this
  have Q := Lib.hid (And.intro q1 q2)
  have H1 := Lib.hid h1
  have H2 := Lib.hid h2
  clear q1 q2 h1 h2
  by_cases hn : n = m
  · subst hn
    have hb1 : ((n : Int) != (n : Int)) = false := by simp
    go_enter Try.func63, Try.ntmps63
    go_wp2
    go_loopw [13] (fun v wr => ∃ k : Nat, k ≤ n ∧ v = .int .i64 k ∧ Hid (Below w.heap.size w wr ∧ decide (l1 = l2) = decide (l1.drop k = l2.drop k))) (fun v _ => n - (intOf v).toNat)
    case atStart => exact ⟨0, by omega, rfl, Below.refl _ _, rfl⟩
    case round =>
      obtain ⟨k, hk, rfl, H⟩ := hrel
      by_cases hlt : k < n
      · obtain ⟨b, o, hl, rfl, hL, hB, p1⟩ := H1.out.one hlt
        obtain ⟨b', o', hl', rfl, hL', hB', p3⟩ := H2.out.one hlt
        generalize hx : l1[k] = x at p1
        generalize hy : l2[k] = y at p3
        have r1 := (H.out.1.cell (p := ⟨b, o + k, none⟩) (Nat.lt_of_lt_of_le hB z1)).trans p1
        have r3 := (H.out.1.cell (p := ⟨b', o' + k, none⟩) (Nat.lt_of_lt_of_le hB' z2)).trans p3
        have hde : decide (l1.drop k = l2.drop k) = (decide (x = y) && decide (l1.drop (k + 1) = l2.drop (k + 1))) := by
          rw [drop_at l1 k hl, drop_at l2 k hl', hx, hy]
          simp [List.cons.injEq]
        have HDE := Lib.hid hde
        have i1 : (0 : Int) ≤ (k : Int) := by omega
        have i2 : (k : Int) < (n : Int) := by omega
        clear hde hx hy p1 p3
        by_cases g1 : x = y
        · subst g1
          go_wp2
          go_quiet (fail)
          go_wp2
          go_roundw
          case rel => exact ⟨k + 1, by omega, by go_num, Lib.hid ⟨bdrawn H.out.1 _, by rw [H.out.2, HDE.out]; simp⟩⟩
          case measure => simp [intOf]; omega
        · have g1b : (x != y) = true := by simpa using g1
          go_wp2
          go_quiet (fail)
          go_wp2
          go_ret
          exact ⟨ret_bool (by rw [H.out.2, HDE.out]; simp [g1]), bdrawn H.out.1 _⟩
      · have hkn : k = n := by omega
        subst hkn
        have HL := Lib.hid (show decide (l1 = l2) = true by rw [H.out.2, List.drop_of_length_le (by rw [Q.out.1]; exact Nat.le_refl _), List.drop_of_length_le (by rw [Q.out.2]; exact Nat.le_refl _)]; rfl)
        go_wp2
        go_ret
        exact ⟨ret_bool HL.out.symm, H.out.1⟩
  · have hs : decide (l1 = l2) = false := by
      simp only [decide_eq_false_iff_not]
      intro hh; apply hn; rw [← Q.out.1, ← Q.out.2, hh]
    have hb1 : ((n : Int) != (m : Int)) = true := by simp; omega
    have HS := Lib.hid hs
    clear hs hn
    go_enter Try.func63, Try.ntmps63
    go_wp2
    go_ret
    exact ⟨ret_bool HS.out.symm, Below.refl _ _⟩
end Go.Proofs.Ytbjfbmienlojkaa

namespace Go.Proofs.Ytbjfbmienlojkaa
open Go.RowKit

/-- two boxes of schemes, and what was below -/
structure TwoIn (w0 : World) (a1 a2 b1 b2 : Value) (w : World) : Prop where
  b0 : Blk w w0.heap.size 26 #[a1, a2]
  b1 : Blk w (w0.heap.size + 1) 26 #[b1, b2]
  below : Below w0.heap.size w0 w
theorem TwoIn.init (w : World) (a1 a2 b1 b2 : Value) : TwoIn w a1 a2 b1 b2 ((w.alloc (.cells #[a1, a2] 26)).alloc (.cells #[b1, b2] 26)) :=
  ⟨(Blk.new w _ _).alloc _, by simpa using Blk.new (w.alloc (.cells #[a1, a2] 26)) 26 #[b1, b2], ((Below.refl _ _).alloc (Nat.le_refl _) _).alloc (by simp) _⟩
theorem TwoIn.on {w0 : World} {a1 a2 b1 b2 : Value} {w w' : World} (h : TwoIn w0 a1 a2 b1 b2 w) (hb : Below w.heap.size w w') : TwoIn w0 a1 a2 b1 b2 w' :=
  ⟨h.b0.below hb h.b0.lt, h.b1.below hb h.b1.lt, h.below.trans (hb.mono h.below.size)⟩

def sameB (l1 l2 : List (Int × Int)) (s1 s2 : List Int) : Bool := may l1 s1 && (may l2 s2 && eqS l1 l2 s1 s2)

set_option maxHeartbeats 2000000 in
set_option maxRecDepth 100000 in
theorem same_any (A1 A2 B1 B2 : Option Addr) (n1 c1 n2 c2 m1 d1 m2 d2 L1 L2 L3 L4 : Nat) (l1 l2 : List (Int × Int)) (s1 s2 : List Int) (w : World)
    (h1 : Rd w L1 w.heap.size 2 A1 n1 (prs l1)) (h2 : Rd w L2 w.heap.size 1 A2 n2 (s1.map (Value.int .i64))) (h3 : Rd w L3 w.heap.size 2 B1 m1 (prs l2)) (h4 : Rd w L4 w.heap.size 1 B2 m2 (s2.map (Value.int .i64)))
    (e1 : n1 ≤ maxLen) (e2 : n2 ≤ maxLen) (e3 : m1 ≤ maxLen) (e4 : m2 ≤ maxLen) :
    Calls Try.prog 24 #[.agg #[.slice A1 n1 c1, .slice A2 n2 c2], .agg #[.slice B1 m1 d1, .slice B2 m2 d2]] w fun e w' => e = .returned (.bool (sameB l1 l2 s1 s2)) ∧ Below w.heap.size w w' := by
  have H1 := Lib.hid h1
  have H2 := Lib.hid h2
  have H3 := Lib.hid h3
  have H4 := Lib.hid h4
  clear h1 h2 h3 h4
  go_enter Try.func24, Try.ntmps24
  go_upto_region 1 with (fail)
  refine wp_abs (TwoIn w (.slice A1 n1 c1) (.slice A2 n2 c2) (.slice B1 m1 d1) (.slice B2 m2 d2)) (TwoIn.init w _ _ _ _) ?_
  intro w1 hw
  have c0 : w1.cell? ⟨w.heap.size, 0, none⟩ = some (.slice A1 n1 c1) := hw.b0.cell 0
  have c1' : w1.cell? ⟨w.heap.size, 1, none⟩ = some (.slice A2 n2 c2) := hw.b0.cell 1
  have HW := Lib.hid hw
  clear hw
  go_wp2_with fail
  refine (check_any A1 A2 n1 c1 n2 c2 L1 L2 l1 s1 w1 (H1.out.up HW.out.below HW.out.below.size) (H2.out.up HW.out.below HW.out.below.size) e2 e1).mono ?_
  rintro e w2 ⟨rfl, hb2⟩
  have HX := Lib.hid (HW.out.on hb2)
  clear c0 c1' hb2 HW
  cases hm1 : may l1 s1 with
  | false =>
    have HM1 := Lib.hid hm1
    clear hm1
    simp only [errOf]
    go_wp2
    go_ret
    exact ⟨ret_bool (by unfold sameB; rw [HM1.out]; rfl), HX.out.below⟩
  | true =>
    have HM1 := Lib.hid hm1
    clear hm1
    simp only [errOf]
    have c0 : w2.cell? ⟨w.heap.size + 1, 0, none⟩ = some (.slice B1 m1 d1) := HX.out.b1.cell 0
    have c1' : w2.cell? ⟨w.heap.size + 1, 1, none⟩ = some (.slice B2 m2 d2) := HX.out.b1.cell 1
    go_wp2_with fail
    refine (check_any B1 B2 m1 d1 m2 d2 L3 L4 l2 s2 w2 (H3.out.up HX.out.below HX.out.below.size) (H4.out.up HX.out.below HX.out.below.size) e4 e3).mono ?_
    rintro e w3 ⟨rfl, hb3⟩
    have HY := Lib.hid (HX.out.on hb3)
    clear c0 c1' hb3 HX
    cases hm2 : may l2 s2 with
    | false =>
      have HM2 := Lib.hid hm2
      clear hm2
      simp only [errOf]
      go_wp2
      go_ret
      exact ⟨ret_bool (by unfold sameB; rw [HM1.out, HM2.out]; rfl), HY.out.below⟩
    | true =>
      have HM2 := Lib.hid hm2
      clear hm2
      simp only [errOf]
      have c0 : w3.cell? ⟨w.heap.size, 0, none⟩ = some (.slice A1 n1 c1) := HY.out.b0.cell 0
      have c1' : w3.cell? ⟨w.heap.size + 1, 0, none⟩ = some (.slice B1 m1 d1) := HY.out.b1.cell 0
      go_wp2_with fail
      refine (equalP_any A1 B1 n1 c1 m1 d1 L1 L3 _ _ l1 l2 w3 (H1.out.up HY.out.below HY.out.below.size) (H3.out.up HY.out.below HY.out.below.size) e1 e3 (Nat.le_refl _) (Nat.le_refl _)).mono ?_
      rintro e w4 ⟨rfl, hb4⟩
      have HZ := Lib.hid (HY.out.on hb4)
      clear c0 c1' hb4 HY
      cases hl : decide (l1 = l2) with
      | false =>
        have HLE := Lib.hid hl
        clear hl
        go_wp2
        go_ret
        exact ⟨ret_bool (by unfold sameB eqS; rw [HM1.out, HM2.out, HLE.out]; rfl), HZ.out.below⟩
      | true =>
        have HLE := Lib.hid hl
        clear hl
        have c0 : w4.cell? ⟨w.heap.size, 1, none⟩ = some (.slice A2 n2 c2) := HZ.out.b0.cell 1
        have c1' : w4.cell? ⟨w.heap.size + 1, 1, none⟩ = some (.slice B2 m2 d2) := HZ.out.b1.cell 1
        go_wp2_with fail
        refine (equalI_any A2 B2 n2 c2 m2 d2 L2 L4 _ _ s1 s2 w4 (H2.out.up HZ.out.below HZ.out.below.size) (H4.out.up HZ.out.below HZ.out.below.size) e2 e4 (Nat.le_refl _) (Nat.le_refl _)).mono ?_
        rintro e w5 ⟨rfl, hb5⟩
        have HQ := Lib.hid (HZ.out.on hb5)
        clear c0 c1' hb5 HZ
        go_wp2
        go_ret
        exact ⟨ret_bool (by unfold sameB eqS; rw [HM1.out, HM2.out, HLE.out]; simp), HQ.out.below⟩
end Go.Proofs.Ytbjfbmienlojkaa
