/- The scheme's own copied: a scheme in memory of its own. -/
import Derived.Test.YtbjfbmienlojkaaT15
import Derived.Deep.RegionWith
namespace Go.Proofs.Ytbjfbmienlojkaa
open Go.RowKit

theorem Rd.up {w w' : World} {L B sz n : Nat} {A : Option Addr} {xs : List Value} (h : Rd w L B sz A n xs) (hb : Below B w w') (hB : B ≤ w'.heap.size) : Rd w' L w'.heap.size sz A n xs :=
  (h.below hb (Nat.le_refl _)).more (Nat.le_refl _) hB

theorem Rd.drew {w : World} {L B sz n : Nat} {A : Option Addr} {xs : List Value} (h : Rd w L B sz A n xs) : Rd w.drew L B sz A n xs := h

set_option maxHeartbeats 1000000 in
set_option maxRecDepth 100000 in
theorem copied_any (A1 A2 : Option Addr) (n1 c1 n2 c2 L1 L2 : Nat) (ls : List (Int × Int)) (st : List Int) (w : World)
    (h1 : Rd w L1 w.heap.size 2 A1 n1 (prs ls)) (h2 : Rd w L2 w.heap.size 1 A2 n2 (st.map (Value.int .i64))) (hn1 : n1 ≤ 100000) (hn2 : n2 ≤ 100000) :
    Calls Try.prog 66 #[.agg #[.slice A1 n1 c1, .slice A2 n2 c2]] w fun e w' => ∃ B1 d1 B2 d2, e = .returned (.agg #[.slice B1 n1 d1, .slice B2 n2 d2]) ∧
      w'.ownsRow w.heap.size 66 2 (.slice B1 n1 d1) n1 (prs ls) ∧ w'.ownsRow w.heap.size 3 1 (.slice B2 n2 d2) n2 (st.map (Value.int .i64)) ∧ Below w.heap.size w w' := by
  have H1 := Lib.hid h1
  have H2 := Lib.hid h2
  clear h1 h2
  go_enter Try.func66, Try.ntmps66
  go_wp2
  refine wp_abs (fun wx => Blk wx w.heap.size 26 #[.slice A1 n1 c1, .slice A2 n2 c2] ∧ Blk wx (w.heap.size + 1) 26 #[.slice none 0 0, .slice none 0 0] ∧ Below w.heap.size w wx) ⟨(Blk.new _ _ _).alloc _, by simpa using Blk.new (w.alloc (.cells #[.slice A1 n1 c1, .slice A2 n2 c2] 26)) 26 #[.slice none 0 0, .slice none 0 0], ((Below.refl _ _).alloc (Nat.le_refl _) _).alloc (by simp) _⟩ ?_
  rintro wx ⟨k0, k1, hb⟩
  have c00 : wx.cell? ⟨w.heap.size, 0, none⟩ = some (.slice A1 n1 c1) := k0.cell 0
  have c01 : wx.cell? ⟨w.heap.size, 1, none⟩ = some (.slice A2 n2 c2) := k0.cell 1
  have z1 := k1.lt
  have HK := Lib.hid (And.intro k0 (And.intro k1 hb))
  clear k0 k1 hb
  go_region_with (first
    | (go_at_call 58
       refine (cloneP_any A1 n1 c1 L1 wx.heap.size ls _ (H1.out.up HK.out.2.2 HK.out.2.2.size).drew hn1).mono ?_
       rintro e wa ⟨B1, d1, rfl, o1, hba⟩
       have hbx : Below wx.heap.size wx wa := ⟨hba.os, hba.tape, hba.output, hba.size, hba.block⟩
       have HA := Lib.hid (show Blk wa w.heap.size 26 #[.slice A1 n1 c1, .slice A2 n2 c2] ∧ Blk wa (w.heap.size + 1) 26 #[.slice none 0 0, .slice none 0 0] ∧ Below w.heap.size w wa ∧ wx.heap.size ≤ wa.heap.size ∧ wa.ownsRow wx.heap.size 66 2 (.slice B1 n1 d1) n1 (prs ls) from
         ⟨HK.out.1.below hbx (by omega), HK.out.2.1.below hbx (by omega), HK.out.2.2.trans (hbx.mono (by omega)), hbx.size, o1⟩)
       have c11 : wa.cell? ⟨w.heap.size, 1, none⟩ = some (.slice A2 n2 c2) := HA.out.1.cell 1
       clear hba hbx o1)
    | (go_at_call 76
       refine (cloneI_any A2 n2 c2 L2 wa.heap.size st _ (H2.out.up HA.out.2.2.1 HA.out.2.2.1.size) hn2).mono ?_
       rintro e wb ⟨B2, d2, rfl, o2, hbb⟩
       have HB := Lib.hid (show Blk wb (w.heap.size + 1) 26 #[.slice none 0 0, .slice none 0 0] ∧ Below w.heap.size w wb ∧ wb.ownsRow wx.heap.size 66 2 (.slice B1 n1 d1) n1 (prs ls) ∧ wb.ownsRow wx.heap.size 3 1 (.slice B2 n2 d2) n2 (st.map (Value.int .i64)) from
         ⟨HA.out.2.1.below hbb HA.out.2.1.lt, HA.out.2.2.1.trans (hbb.mono HA.out.2.2.1.size), own_only HA.out.2.2.2.2 (Only.of_below hbb (fun _ => False)) (fun _ _ _ _ h => h), own_more o2 HA.out.2.2.2.1⟩)
       have e0 : wb.cell? ⟨w.heap.size + 1, 0, none⟩ = some (.slice none 0 0) := HB.out.1.cell 0
       have e1 : wb.cell? ⟨w.heap.size + 1, 1, none⟩ = some (.slice none 0 0) := HB.out.1.cell 1
       have f0 : wb.frozen? ⟨w.heap.size + 1, 0, none⟩ = false := HB.out.1.frozen 0
       have f1 : wb.frozen? ⟨w.heap.size + 1, 1, none⟩ = false := HB.out.1.frozen 1
       clear hbb o2))
  all_goals
    go_wp2
    have HF := (HB.out.1.set_ 0 (.slice B1 n1 d1)).set_ 1 (.slice B2 n2 d2)
    have g0 := HF.cell 0
    have g1 := HF.cell 1
    simp at g0 g1
    refine bodyPost_ret (v := .agg #[.slice B1 n1 d1, .slice B2 n2 d2]) (by simp [results, Try.results66, go_sem, g0, g1]) rfl ?_
    have zz : w.heap.size + 1 < wx.heap.size := z1
    refine ⟨B1, d1, B2, d2, rfl, own_more (own_setCell (own_setCell HB.out.2.2.1 zz _) zz _) (by omega), own_more (own_setCell (own_setCell HB.out.2.2.2 zz _) zz _) (by omega), (HB.out.2.1.setCell (by simp) _).setCell (by simp) _⟩
end Go.Proofs.Ytbjfbmienlojkaa
