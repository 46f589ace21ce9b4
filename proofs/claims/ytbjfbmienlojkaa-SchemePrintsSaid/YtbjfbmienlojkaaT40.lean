/- SchemePrints: the walk of the law where the first scheme may not be. -/
import Derived.Test.YtbjfbmienlojkaaT12
import Derived.Test.YtbjfbmienlojkaaT19
import Derived.Test.YtbjfbmienlojkaaT34
namespace Go.Proofs.Ytbjfbmienlojkaa
open Go.RowKit

set_option maxHeartbeats 2000000 in
set_option maxRecDepth 100000 in
theorem schemePrints_bad (A1 A2 B1 B2 : Option Addr) (n1 c1 n2 c2 m1 d1 m2 d2 L1 L2 L3 L4 : Nat) (l1 l2 : List (Int × Int)) (s1 s2 : List Int) (w : World)
    (h1 : Rd w L1 w.heap.size 2 A1 n1 (prs l1)) (h2 : Rd w L2 w.heap.size 1 A2 n2 (s1.map (Value.int .i64))) (h3 : Rd w L3 w.heap.size 2 B1 m1 (prs l2)) (h4 : Rd w L4 w.heap.size 1 B2 m2 (s2.map (Value.int .i64)))
    (e1 : n1 ≤ maxLen) (e2 : n2 ≤ maxLen) (e3 : m1 ≤ maxLen) (e4 : m2 ≤ maxLen) (k1 : n1 ≤ c1) (k2 : c1 ≤ maxLen) (hm : may l1 s1 = false) :
    Calls Try.prog 6 #[.agg #[.slice A1 n1 c1, .slice A2 n2 c2], .agg #[.slice B1 m1 d1, .slice B2 m2 d2]] w fun e w' => e = .returned (.bool true) ∧ Below w.heap.size w w' := by
  have H1 := Lib.hid h1
  have H2 := Lib.hid h2
  have H3 := Lib.hid h3
  have H4 := Lib.hid h4
  have HM := Lib.hid hm
  clear h1 h2 h3 h4 hm
  go_enter Try.func6, Try.ntmps6
  go_upto_region 1 with (fail)
  refine wp_abs (TwoIn w (.slice A1 n1 c1) (.slice A2 n2 c2) (.slice B1 m1 d1) (.slice B2 m2 d2)) (TwoIn.init w _ _ _ _) ?_
  intro w1 hw
  have HW := Lib.hid hw
  clear hw
  go_wp2_with fail
  refine (wakes_any w1).mono ?_
  rintro e w2 ⟨rfl, hb⟩
  have HX := Lib.hid (HW.out.on hb)
  clear hb HW
  have c0 : w2.cell? ⟨w.heap.size, 0, none⟩ = some (.slice A1 n1 c1) := HX.out.b0.cell 0
  have c1' : w2.cell? ⟨w.heap.size, 1, none⟩ = some (.slice A2 n2 c2) := HX.out.b0.cell 1
  go_wp2_with fail
  refine (refMay_any A1 A2 n1 c1 n2 c2 L1 L2 l1 s1 w2 (H1.out.up HX.out.below HX.out.below.size) (H2.out.up HX.out.below HX.out.below.size) e2 e1).mono ?_
  rintro e w3 ⟨rfl, hb⟩
  have HY := Lib.hid (HX.out.on hb)
  clear hb HX c0 c1'
  rw [HM.out]
  have c0 : w3.cell? ⟨w.heap.size, 0, none⟩ = some (.slice A1 n1 c1) := HY.out.b0.cell 0
  have c1' : w3.cell? ⟨w.heap.size, 1, none⟩ = some (.slice A2 n2 c2) := HY.out.b0.cell 1
  have d0 : w3.cell? ⟨w.heap.size + 1, 0, none⟩ = some (.slice B1 m1 d1) := HY.out.b1.cell 0
  have d1' : w3.cell? ⟨w.heap.size + 1, 1, none⟩ = some (.slice B2 m2 d2) := HY.out.b1.cell 1
  go_wp2_with fail
  refine (same_any A1 A2 B1 B2 n1 c1 n2 c2 m1 d1 m2 d2 L1 L2 L3 L4 l1 l2 s1 s2 w3 (H1.out.up HY.out.below HY.out.below.size) (H2.out.up HY.out.below HY.out.below.size) (H3.out.up HY.out.below HY.out.below.size) (H4.out.up HY.out.below HY.out.below.size) e1 e2 e3 e4).mono ?_
  rintro e w4 ⟨rfl, hb⟩
  have HZ := Lib.hid (HY.out.on hb)
  clear hb HY c0 c1' d0 d1'
  rw [show sameB l1 l2 s1 s2 = false by unfold sameB; rw [HM.out]; rfl]
  have c0 : w4.cell? ⟨w.heap.size, 0, none⟩ = some (.slice A1 n1 c1) := HZ.out.b0.cell 0
  have c1' : w4.cell? ⟨w.heap.size, 1, none⟩ = some (.slice A2 n2 c2) := HZ.out.b0.cell 1
  go_wp2_with fail
  refine (print_any A1 A2 n1 c1 n2 c2 L1 L2 l1 s1 w4 (H1.out.up HZ.out.below HZ.out.below.size) (H2.out.up HZ.out.below HZ.out.below.size) e2 e1 k1 k2).mono ?_
  rw [HM.out]
  rintro e w5 ⟨rfl, hb⟩
  have HQ := Lib.hid (HZ.out.on hb)
  clear hb HZ c0 c1'
  simp only [errOf]
  go_wp2_with fail
  refine (wakes_any w5).mono ?_
  rintro e w6 ⟨rfl, hb⟩
  have HR := Lib.hid (HQ.out.on hb)
  clear hb HQ
  go_wp2
  go_ret
  exact ⟨rfl, HR.out.below⟩
end Go.Proofs.Ytbjfbmienlojkaa
