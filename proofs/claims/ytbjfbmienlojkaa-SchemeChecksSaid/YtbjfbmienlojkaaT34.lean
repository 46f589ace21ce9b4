/- The scheme's own Same. -/
import Derived.Test.YtbjfbmienlojkaaT15
import Derived.Test.YtbjfbmienlojkaaT31
namespace Go.Proofs.Ytbjfbmienlojkaa
open Go.RowKit

/-- two boxes of schemes, and what was below -/
structure TwoIn (w0 : World) (a1 a2 b1 b2 : Value) (w : World) : Prop where
  b0 : Blk w w0.heap.size 26 #[a1, a2]
  b1 : Blk w (w0.heap.size + 1) 26 #[b1, b2]
  below : Below w0.heap.size w0 w
theorem TwoIn.init (w : World) (a1 a2 b1 b2 : Value) : TwoIn w a1 a2 b1 b2 ((w.alloc (.cells #[a1, a2] 26)).alloc (.cells #[b1, b2] 26)) :=
  ⟨(Blk.new w _ _).alloc _, by simpa using Blk.new (w.alloc (.cells #[a1, a2] 26)) 26 #[b1, b2], ((Below.refl _ _).alloc (Nat.le_refl _) _).alloc (by simp) _⟩
theorem TwoIn.on {w0 : World} {a1 a2 b1 b2 : Value} {w w' : World} (h : TwoIn w0 a1 a2 b1 b2 w) (hb : Below w.heap.size w w') : TwoIn w0 a1 a2 b1 b2 w' :=
  ⟨h.b0.below hb h.b0.lt, h.b1.below hb h.b1.lt, h.below.trans (hb.mono h.below.size)⟩

def sameB (l1 l2 : List (Int × Int)) (s1 s2 : List Int) : Bool := may l1 s1 && (may l2 s2 && eqS l1 l2 s1 s2)

set_option maxHeartbeats 2000000 in
set_option maxRecDepth 100000 in
theorem same_any (A1 A2 B1 B2 : Option Addr) (n1 c1 n2 c2 m1 d1 m2 d2 L1 L2 L3 L4 : Nat) (l1 l2 : List (Int × Int)) (s1 s2 : List Int) (w : World)
    (h1 : Rd w L1 w.heap.size 2 A1 n1 (prs l1)) (h2 : Rd w L2 w.heap.size 1 A2 n2 (s1.map (Value.int .i64))) (h3 : Rd w L3 w.heap.size 2 B1 m1 (prs l2)) (h4 : Rd w L4 w.heap.size 1 B2 m2 (s2.map (Value.int .i64)))
    (e1 : n1 ≤ maxLen) (e2 : n2 ≤ maxLen) (e3 : m1 ≤ maxLen) (e4 : m2 ≤ maxLen) :
    Calls Try.prog 24 #[.agg #[.slice A1 n1 c1, .slice A2 n2 c2], .agg #[.slice B1 m1 d1, .slice B2 m2 d2]] w fun e w' => e = .returned (.bool (sameB l1 l2 s1 s2)) ∧ Below w.heap.size w w' := by
  have H1 := Lib.hid h1
  have H2 := Lib.hid h2
  have H3 := Lib.hid h3
  have H4 := Lib.hid h4
  clear h1 h2 h3 h4
  go_enter Try.func24, Try.ntmps24
  go_upto_region 1 with (fail)
  refine wp_abs (TwoIn w (.slice A1 n1 c1) (.slice A2 n2 c2) (.slice B1 m1 d1) (.slice B2 m2 d2)) (TwoIn.init w _ _ _ _) ?_
  intro w1 hw
  have c0 : w1.cell? ⟨w.heap.size, 0, none⟩ = some (.slice A1 n1 c1) := hw.b0.cell 0
  have c1' : w1.cell? ⟨w.heap.size, 1, none⟩ = some (.slice A2 n2 c2) := hw.b0.cell 1
  have HW := Lib.hid hw
  clear hw
  go_wp2_with fail
  refine (check_any A1 A2 n1 c1 n2 c2 L1 L2 l1 s1 w1 (H1.out.up HW.out.below HW.out.below.size) (H2.out.up HW.out.below HW.out.below.size) e2 e1).mono ?_
  rintro e w2 ⟨rfl, hb2⟩
  have HX := Lib.hid (HW.out.on hb2)
  clear c0 c1' hb2 HW
  cases hm1 : may l1 s1 with
  | false =>
    have HM1 := Lib.hid hm1
    clear hm1
    simp only [errOf]
    go_wp2
    go_ret
    exact ⟨ret_bool (by unfold sameB; rw [HM1.out]; rfl), HX.out.below⟩
  | true =>
    have HM1 := Lib.hid hm1
    clear hm1
    simp only [errOf]
    have c0 : w2.cell? ⟨w.heap.size + 1, 0, none⟩ = some (.slice B1 m1 d1) := HX.out.b1.cell 0
    have c1' : w2.cell? ⟨w.heap.size + 1, 1, none⟩ = some (.slice B2 m2 d2) := HX.out.b1.cell 1
    go_wp2_with fail
    refine (check_any B1 B2 m1 d1 m2 d2 L3 L4 l2 s2 w2 (H3.out.up HX.out.below HX.out.below.size) (H4.out.up HX.out.below HX.out.below.size) e4 e3).mono ?_
    rintro e w3 ⟨rfl, hb3⟩
    have HY := Lib.hid (HX.out.on hb3)
    clear c0 c1' hb3 HX
    cases hm2 : may l2 s2 with
    | false =>
      have HM2 := Lib.hid hm2
      clear hm2
      simp only [errOf]
      go_wp2
      go_ret
      exact ⟨ret_bool (by unfold sameB; rw [HM1.out, HM2.out]; rfl), HY.out.below⟩
    | true =>
      have HM2 := Lib.hid hm2
      clear hm2
      simp only [errOf]
      have c0 : w3.cell? ⟨w.heap.size, 0, none⟩ = some (.slice A1 n1 c1) := HY.out.b0.cell 0
      have c1' : w3.cell? ⟨w.heap.size + 1, 0, none⟩ = some (.slice B1 m1 d1) := HY.out.b1.cell 0
      go_wp2_with fail
      refine (equalP_any A1 B1 n1 c1 m1 d1 L1 L3 _ _ l1 l2 w3 (H1.out.up HY.out.below HY.out.below.size) (H3.out.up HY.out.below HY.out.below.size) e1 e3 (Nat.le_refl _) (Nat.le_refl _)).mono ?_
      rintro e w4 ⟨rfl, hb4⟩
      have HZ := Lib.hid (HY.out.on hb4)
      clear c0 c1' hb4 HY
      cases hl : decide (l1 = l2) with
      | false =>
        have HLE := Lib.hid hl
        clear hl
        go_wp2
        go_ret
        exact ⟨ret_bool (by unfold sameB eqS; rw [HM1.out, HM2.out, HLE.out]; rfl), HZ.out.below⟩
      | true =>
        have HLE := Lib.hid hl
        clear hl
        have c0 : w4.cell? ⟨w.heap.size, 1, none⟩ = some (.slice A2 n2 c2) := HZ.out.b0.cell 1
        have c1' : w4.cell? ⟨w.heap.size + 1, 1, none⟩ = some (.slice B2 m2 d2) := HZ.out.b1.cell 1
        go_wp2_with fail
        refine (equalI_any A2 B2 n2 c2 m2 d2 L2 L4 _ _ s1 s2 w4 (H2.out.up HZ.out.below HZ.out.below.size) (H4.out.up HZ.out.below HZ.out.below.size) e2 e4 (Nat.le_refl _) (Nat.le_refl _)).mono ?_
        rintro e w5 ⟨rfl, hb5⟩
        have HQ := Lib.hid (HZ.out.on hb5)
        clear c0 c1' hb5 HZ
        go_wp2
        go_ret
        exact ⟨ret_bool (by unfold sameB eqS; rw [HM1.out, HM2.out, HLE.out]; simp), HQ.out.below⟩
end Go.Proofs.Ytbjfbmienlojkaa
