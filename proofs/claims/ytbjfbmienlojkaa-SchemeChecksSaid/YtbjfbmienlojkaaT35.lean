/- The reference's Copy: a scheme in memory of its own, with room behind its lists. -/
import Derived.Test.YtbjfbmienlojkaaSteps
import Derived.Deep.RegionLaw
namespace Go.Proofs.Ytbjfbmienlojkaa
open Go.RowKit

set_option maxHeartbeats 4000000 in
set_option maxRecDepth 100000 in
theorem refCopy_any (A1 A2 : Option Addr) (n1 c1 n2 c2 L1 L2 : Nat) (ls : List (Int × Int)) (st : List Int) (w : World)
    (h1 : Rd w L1 w.heap.size 2 A1 n1 (prs ls)) (h2 : Rd w L2 w.heap.size 1 A2 n2 (st.map (Value.int .i64))) (hn1 : n1 ≤ 100000) (hn2 : n2 ≤ 100000) :
    Calls Try.prog 26 #[.agg #[.slice A1 n1 c1, .slice A2 n2 c2]] w fun e w' => ∃ B1 d1 B2 d2, e = .returned (.agg #[.slice B1 n1 d1, .slice B2 n2 d2]) ∧
      w'.ownsRow w.heap.size 66 2 (.slice B1 n1 d1) n1 (prs ls) ∧ w'.ownsRow w.heap.size 3 1 (.slice B2 n2 d2) n2 (st.map (Value.int .i64)) ∧ Below w.heap.size w w' := by
  have H1 := Lib.hid h1
  have H2 := Lib.hid h2
  clear h1 h2
  have hinfo : (Try.prog.info? 66).map (fun i => (i.zero, i.size, i.bytes)) = some (some (.agg #[.int .i64 0, .int .i64 0]), 2, 16) := by kernel_rfl
  obtain ⟨i0, hi, hz0, hz1, hz2⟩ := info_parts hinfo
  have HI := Lib.hid (And.intro hi (And.intro hz0 (And.intro hz1 hz2)))
  have hinfo3 : (Try.prog.info? 3).map (fun i => (i.zero, i.size, i.bytes)) = some (some (.int .i64 0), 1, 8) := by kernel_rfl
  obtain ⟨j0, hj', jz0, jz1, jz2⟩ := info_parts hinfo3
  have HJ := Lib.hid (And.intro hj' (And.intro jz0 (And.intro jz1 jz2)))
  obtain ⟨Z1, hZ1, m1⟩ := made_eq 23 66 i0 _ 2 Try.underlying23 hi hz0 hz1 (n1 + 3) (by rw [hz2]; omega) (by unfold maxLen; omega)
  obtain ⟨Z2, hZ2, m2⟩ := made_eq 24 3 j0 _ 1 Try.underlying24 hj' jz0 jz1 (n2 + 3) (by rw [jz2]; omega) (by unfold maxLen; omega)
  have hC1 : ((n1 + 3 : Nat) : Int) = (n1 : Int) + 3 := by omega
  have hC2 : ((n2 + 3 : Nat) : Int) = (n2 : Int) + 3 := by omega
  rw [hC1] at m1
  rw [hC2] at m2
  have HZ1 := Lib.hid hZ1
  have HZ2 := Lib.hid hZ2
  clear hi hz0 hz1 hz2 hinfo hinfo3 hj' jz0 jz1 jz2 hZ1 hZ2 hC1 hC2
  go_enter Try.func26, Try.ntmps26
  go_upto_region 1 with (fail)
  refine wp_abs (fun wx => Blk wx w.heap.size 26 #[.slice A1 n1 c1, .slice A2 n2 c2] ∧ Blk wx (w.heap.size + 1) 26 #[.slice none 0 0, .slice none 0 0] ∧ Only (fun _ => False) w wx) ⟨(Blk.new _ _ _).alloc _, by simpa using Blk.new (w.alloc (.cells #[.slice A1 n1 c1, .slice A2 n2 c2] 26)) 26 #[.slice none 0 0, .slice none 0 0], ((Only.refl _ _).alloc _).alloc _⟩ ?_
  rintro wx ⟨k0, k1, ho⟩
  have c00 : wx.cell? ⟨w.heap.size, 0, none⟩ = some (.slice A1 n1 c1) := k0.cell 0
  have c01 : wx.cell? ⟨w.heap.size, 1, none⟩ = some (.slice A2 n2 c2) := k0.cell 1
  have zz : w.heap.size + 1 < wx.heap.size := k1.lt
  have HK := Lib.hid (And.intro k0 (And.intro k1 ho))
  clear k0 k1 ho
  have i1 : IntKind.i64.wrap ((n1 : Int) + 3) = (n1 : Int) + 3 := IntWalk.i64_in _ (by omega)
  have i2 : IntKind.i64.wrap ((n2 : Int) + 3) = (n2 : Int) + 3 := IntWalk.i64_in _ (by omega)
  go_region_held3 (fun w' => w'.cell? ⟨w.heap.size, 0, none⟩ = some (.slice A1 n1 c1) ∧ w'.cell? ⟨w.heap.size, 1, none⟩ = some (.slice A2 n2 c2)) ((first | (refine keep_box HK.out.1 ?_; (repeat (first | (with_reducible exact Only.refl _ _) | (with_reducible exact HOA.out.1) | (with_reducible exact HOB.out.1) | (with_reducible refine Only.drew ?_) | (with_reducible refine Only.alloc ?_ _))); done) | go_keep))
    (first
      | ((refine step_append_rd _ (by rfl) _ _ 23 (by rfl) wx.heap.size 66 i0 (.agg #[.int .i64 0, .int .i64 0]) 2 16 Try.underlying23 HI.out.1 HI.out.2.1 HI.out.2.2.1 HI.out.2.2.2 rfl (by omega) (.slice (some ⟨_, 0, none⟩) 0 (n1 + 3)) 0 [] (by rfl) ?_ L1 w.heap.size A1 n1 c1 (prs ls) (by rfl) ?_ (prs_one ls) ?_ ?_ ?_ ?_; (refine own_made HZ1.out (by unfold maxLen; omega) ?_ ?_; (first | exact Nat.le_refl _ | omega | (have := hgrowB.size; simp at this ⊢; omega)); (repeat (first | ((with_reducible refine blk_new_eq ?_); (first | (with_reducible rfl) | exact (by simp))) | (with_reducible refine Blk.drew ?_) | (with_reducible refine Blk.alloc ?_ _) | (with_reducible refine Blk.grown_ ?_ hgrowB (by simp [Value.ownBlock]))))); (refine rd_via H1.out HK.out.2.2 ?_; (repeat (first | (with_reducible exact Only.refl _ _) | (with_reducible exact HOA.out.1) | (with_reducible exact HOB.out.1) | (with_reducible refine Only.drew ?_) | (with_reducible refine Only.alloc ?_ _)))); (unfold maxLen; omega); omega; (refine Only.size (S := fun _ => False) ?_; (repeat (first | (with_reducible exact Only.refl _ _) | (with_reducible exact HOA.out.1) | (with_reducible exact HOB.out.1) | (with_reducible refine Only.drew ?_) | (with_reducible refine Only.alloc ?_ _)))); intro vA wA hpreA hownA hgrowA hatA; obtain ⟨XA, CA, rfl⟩ := own_slice hownA; simp only [Nat.zero_add, List.nil_append] at hownA; have hoA : Only (fun _ => False) wx wA := (by (repeat (first | (with_reducible exact Only.refl _ _) | (with_reducible exact HOA.out.1) | (with_reducible exact HOB.out.1) | (with_reducible refine Only.drew ?_) | (with_reducible refine Only.alloc ?_ _) | (with_reducible refine Only.grown ?_ hgrowA (fun g hg => Or.inr (hpreA.lt g hg).1))))); have e0A : wA.cell? ⟨w.heap.size + 1, 0, none⟩ = some (.slice none 0 0) := (HK.out.2.1.only hoA (fun h => h)).cell 0; have e1A : wA.cell? ⟨w.heap.size + 1, 1, none⟩ = some (.slice none 0 0) := (HK.out.2.1.only hoA (fun h => h)).cell 1; have f0A : wA.frozen? ⟨w.heap.size + 1, 0, none⟩ = false := (HK.out.2.1.only hoA (fun h => h)).frozen 0; have f1A : wA.frozen? ⟨w.heap.size + 1, 1, none⟩ = false := (HK.out.2.1.only hoA (fun h => h)).frozen 1; have HOA := Lib.hid (And.intro hoA (And.intro hpreA hownA)); clear hoA hatA))
      | ((refine step_append_rd _ (by rfl) _ _ 24 (by rfl) wx.heap.size 3 j0 (.int .i64 0) 1 8 Try.underlying24 HJ.out.1 HJ.out.2.1 HJ.out.2.2.1 HJ.out.2.2.2 rfl (by omega) (.slice (some ⟨_, 0, none⟩) 0 (n2 + 3)) 0 [] (by rfl) ?_ L2 w.heap.size A2 n2 c2 (st.map (Value.int .i64)) (by rfl) ?_ (ints_one st) ?_ ?_ ?_ ?_; (refine own_made HZ2.out (by unfold maxLen; omega) ?_ ?_; (first | exact Nat.le_refl _ | omega | (have := hgrowA.size; simp at this ⊢; omega)); (repeat (first | ((with_reducible refine blk_new_eq ?_); (first | (with_reducible rfl) | exact (by simp))) | (with_reducible refine Blk.drew ?_) | (with_reducible refine Blk.alloc ?_ _) | (with_reducible refine Blk.grown_ ?_ hgrowA (by simp [Value.ownBlock]))))); (refine rd_via H2.out HK.out.2.2 ?_; (repeat (first | (with_reducible exact Only.refl _ _) | (with_reducible exact HOA.out.1) | (with_reducible exact HOB.out.1) | (with_reducible refine Only.drew ?_) | (with_reducible refine Only.alloc ?_ _)))); (unfold maxLen; omega); omega; (refine Only.size (S := fun _ => False) ?_; (repeat (first | (with_reducible exact Only.refl _ _) | (with_reducible exact HOA.out.1) | (with_reducible exact HOB.out.1) | (with_reducible refine Only.drew ?_) | (with_reducible refine Only.alloc ?_ _)))); intro vB wB hpreB hownB hgrowB hatB; obtain ⟨XB, CB, rfl⟩ := own_slice hownB; simp only [Nat.zero_add, List.nil_append] at hownB; have hoB : Only (fun _ => False) wx wB := (by (repeat (first | (with_reducible exact Only.refl _ _) | (with_reducible exact HOA.out.1) | (with_reducible exact HOB.out.1) | (with_reducible refine Only.drew ?_) | (with_reducible refine Only.alloc ?_ _) | (with_reducible refine Only.grown ?_ hgrowB (fun g hg => Or.inr (hpreB.lt g hg).1))))); have e0B : wB.cell? ⟨w.heap.size + 1, 0, none⟩ = some (.slice none 0 0) := (HK.out.2.1.only hoB (fun h => h)).cell 0; have e1B : wB.cell? ⟨w.heap.size + 1, 1, none⟩ = some (.slice none 0 0) := (HK.out.2.1.only hoB (fun h => h)).cell 1; have f0B : wB.frozen? ⟨w.heap.size + 1, 0, none⟩ = false := (HK.out.2.1.only hoB (fun h => h)).frozen 0; have f1B : wB.frozen? ⟨w.heap.size + 1, 1, none⟩ = false := (HK.out.2.1.only hoB (fun h => h)).frozen 1; have HOB := Lib.hid (And.intro hoB (And.intro hpreB hownB)); clear hoB hatB)))
  all_goals
    have hA2 := fin_keep HOA.out.2.2 (by (repeat (first | (with_reducible exact Only.refl _ _) | (with_reducible refine Only.drew ?_) | (with_reducible refine Only.alloc ?_ _)))) HOB.out.2.1 hgrowB (by decide)
    have hkb := HK.out.2.1.only HOB.out.1 (fun h => h)
    have HF := (hkb.set_ 0 (.slice XA n1 CA)).set_ 1 (.slice XB n2 CB)
    have g0 := HF.cell 0
    have g1 := HF.cell 1
    simp at g0 g1
    have HE := Lib.hid (And.intro hA2 (And.intro HOB.out.2.2 (HK.out.2.2.trans HOB.out.1)))
    clear hA2 hkb HF
    go_wp2
    refine bodyPost_ret (v := .agg #[.slice XA n1 CA, .slice XB n2 CB]) (by simp [results, Try.results26, go_sem, g0, g1]) rfl ?_
    exact ⟨XA, CA, XB, CB, rfl, own_more (own_setCell (own_setCell HE.out.1 zz _) zz _) (by omega), own_more (own_setCell (own_setCell HE.out.2.1 zz _) zz _) (by omega), ((HE.out.2.2.below (Nat.le_refl _) (fun _ _ h => h)).setCell (by simp) _).setCell (by simp) _⟩
end Go.Proofs.Ytbjfbmienlojkaa
