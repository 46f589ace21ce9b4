/- SchemeClasses: the walk of the law. -/
import Derived.Test.YtbjfbmienlojkaaT12
import Derived.Test.YtbjfbmienlojkaaT18
import Derived.Test.YtbjfbmienlojkaaT19
import Derived.Test.YtbjfbmienlojkaaT28
namespace Go.Proofs.Ytbjfbmienlojkaa
open Go.RowKit

set_option maxHeartbeats 2000000 in
set_option maxRecDepth 100000 in
theorem schemeClasses_bad (A1 A2 : Option Addr) (n1 c1 n2 c2 L1 L2 : Nat) (ls : List (Int × Int)) (st : List Int) (w : World)
    (h1 : Rd w L1 w.heap.size 2 A1 n1 (prs ls)) (h2 : Rd w L2 w.heap.size 1 A2 n2 (st.map (Value.int .i64))) (hn2 : n2 ≤ maxLen) (hn1 : n1 ≤ maxLen) (hm : may ls st = false) :
    Calls Try.prog 5 #[.agg #[.slice A1 n1 c1, .slice A2 n2 c2]] w fun e w' => e = .returned (.bool true) ∧ Below w.heap.size w w' := by
  have H1 := Lib.hid h1
  have H2 := Lib.hid h2
  have HM := Lib.hid hm
  clear h1 h2 hm
  go_enter Try.func5, Try.ntmps5
  go_upto_region 1 with (fail)
  refine wp_abs (fun wx => Blk wx w.heap.size 26 #[.slice A1 n1 c1, .slice A2 n2 c2] ∧ Below w.heap.size w wx) ⟨(Blk.new _ _ _), ((Below.refl _ _).alloc (Nat.le_refl _) _)⟩ ?_
  rintro wx ⟨k0, hb⟩
  have HK := Lib.hid (And.intro k0 hb)
  clear k0 hb
  go_wp2_with fail
  refine (wakes_any wx).mono ?_
  rintro e w1 ⟨rfl, hb1⟩
  have HA := Lib.hid (show Blk w1 w.heap.size 26 #[.slice A1 n1 c1, .slice A2 n2 c2] ∧ Below w.heap.size w w1 from ⟨HK.out.1.below hb1 HK.out.1.lt, HK.out.2.trans (hb1.mono HK.out.2.size)⟩)
  clear hb1 HK
  have c00 : w1.cell? ⟨w.heap.size, 0, none⟩ = some (.slice A1 n1 c1) := HA.out.1.cell 0
  have c01 : w1.cell? ⟨w.heap.size, 1, none⟩ = some (.slice A2 n2 c2) := HA.out.1.cell 1
  go_wp2_with fail
  refine (refMay_any A1 A2 n1 c1 n2 c2 L1 L2 ls st w1 (H1.out.up HA.out.2 HA.out.2.size) (H2.out.up HA.out.2 HA.out.2.size) hn2 hn1).mono ?_
  rintro e w2 ⟨rfl, hb2⟩
  have HB := Lib.hid (show Blk w2 w.heap.size 26 #[.slice A1 n1 c1, .slice A2 n2 c2] ∧ Below w.heap.size w w2 from ⟨HA.out.1.below hb2 HA.out.1.lt, HA.out.2.trans (hb2.mono HA.out.2.size)⟩)
  clear hb2 HA c00 c01
  have c00 : w2.cell? ⟨w.heap.size, 0, none⟩ = some (.slice A1 n1 c1) := HB.out.1.cell 0
  have c01 : w2.cell? ⟨w.heap.size, 1, none⟩ = some (.slice A2 n2 c2) := HB.out.1.cell 1
  rw [HM.out]
  go_wp2_with fail
  refine (classes_bad A1 A2 n1 c1 n2 c2 L1 L2 ls st w2 (H1.out.up HB.out.2 HB.out.2.size) (H2.out.up HB.out.2 HB.out.2.size) hn2 hn1 HM.out).mono ?_
  rintro e w3 ⟨rfl, hb3⟩
  have HC := Lib.hid (HB.out.2.trans (hb3.mono HB.out.2.size))
  clear hb3 HB c00 c01
  go_wp2_with fail
  refine (wakes_any w3).mono ?_
  rintro e w4 ⟨rfl, hb4⟩
  have HD := Lib.hid (HC.out.trans (hb4.mono HC.out.size))
  clear hb4 HC
  go_wp2
  go_ret
  exact ⟨rfl, HD.out⟩
end Go.Proofs.Ytbjfbmienlojkaa
