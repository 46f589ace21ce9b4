/- The reference's Copy, at any length that memory holds.
   The reference's May: whether a scheme may be; it answers as Check does. -/
import Derived.Test.YtbjfbmienlojkaaSteps
import Derived.Deep.RegionLaw
import Derived.Test.YtbjfbmienlojkaaT1
namespace Go.Proofs.Ytbjfbmienlojkaa
open Go.RowKit

set_option maxHeartbeats 4000000 in
set_option maxRecDepth 100000 in
theorem refCopy_big (A1 A2 : Option Addr) (n1 c1 n2 c2 L1 L2 : Nat) (ls : List (Int × Int)) (st : List Int) (w : World)
    (h1 : Rd w L1 w.heap.size 2 A1 n1 (prs ls)) (h2 : Rd w L2 w.heap.size 1 A2 n2 (st.map (Value.int .i64))) (hn1 : n1 * 16 ≤ 140737488351232) (hn2 : n2 * 8 ≤ 140737488351232) :
    Calls Try.prog 26 #[.agg #[.slice A1 n1 c1, .slice A2 n2 c2]] w fun e w' => ∃ B1 d1 B2 d2, e = .returned (.agg #[.slice B1 n1 d1, .slice B2 n2 d2]) ∧
      w'.ownsRow w.heap.size 66 2 (.slice B1 n1 d1) n1 (prs ls) ∧ w'.ownsRow w.heap.size 3 1 (.slice B2 n2 d2) n2 (st.map (Value.int .i64)) ∧ Below w.heap.size w w' := by
  have H1 := Lib.hid h1
  have H2 := Lib.hid h2
  clear h1 h2
  have hinfo : (Try.prog.info? 66).map (fun i => (i.zero, i.size, i.bytes)) = some (some (.agg #[.int .i64 0, .int .i64 0]), 2, 16) := by kernel_rfl
  obtain ⟨i0, hi, hz0, hz1, hz2⟩ := info_parts hinfo
  have HI := Lib.hid (And.intro hi (And.intro hz0 (And.intro hz1 hz2)))
  have hinfo3 : (Try.prog.info? 3).map (fun i => (i.zero, i.size, i.bytes)) = some (some (.int .i64 0), 1, 8) := by kernel_rfl
  obtain ⟨j0, hj', jz0, jz1, jz2⟩ := info_parts hinfo3
  have HJ := Lib.hid (And.intro hj' (And.intro jz0 (And.intro jz1 jz2)))
  obtain ⟨Z1, hZ1, m1⟩ := made_eq 23 66 i0 _ 2 Try.underlying23 hi hz0 hz1 (n1 + 3) (by rw [hz2]; omega) (by unfold maxLen; omega)
  obtain ⟨Z2, hZ2, m2⟩ := made_eq 24 3 j0 _ 1 Try.underlying24 hj' jz0 jz1 (n2 + 3) (by rw [jz2]; omega) (by unfold maxLen; omega)
  have hC1 : ((n1 + 3 : Nat) : Int) = (n1 : Int) + 3 := by omega
  have hC2 : ((n2 + 3 : Nat) : Int) = (n2 : Int) + 3 := by omega
  rw [hC1] at m1
  rw [hC2] at m2
  have HZ1 := Lib.hid hZ1
  have HZ2 := Lib.hid hZ2
  clear hi hz0 hz1 hz2 hinfo hinfo3 hj' jz0 jz1 jz2 hZ1 hZ2 hC1 hC2
  go_enter Try.func26, Try.ntmps26
  go_upto_region 1 with (fail)
  refine wp_abs (fun wx => Blk wx w.heap.size 26 #[.slice A1 n1 c1, .slice A2 n2 c2] ∧ Blk wx (w.heap.size + 1) 26 #[.slice none 0 0, .slice none 0 0] ∧ Only (fun _ => False) w wx) ⟨(Blk.new _ _ _).alloc _, by simpa using Blk.new (w.alloc (.cells #[.slice A1 n1 c1, .slice A2 n2 c2] 26)) 26 #[.slice none 0 0, .slice none 0 0], ((Only.refl _ _).alloc _).alloc _⟩ ?_
  rintro wx ⟨k0, k1, ho⟩
  have c00 : wx.cell? ⟨w.heap.size, 0, none⟩ = some (.slice A1 n1 c1) := k0.cell 0
  have c01 : wx.cell? ⟨w.heap.size, 1, none⟩ = some (.slice A2 n2 c2) := k0.cell 1
  have zz : w.heap.size + 1 < wx.heap.size := k1.lt
  have HK := Lib.hid (And.intro k0 (And.intro k1 ho))
  clear k0 k1 ho
  have i1 : IntKind.i64.wrap ((n1 : Int) + 3) = (n1 : Int) + 3 := IntWalk.i64_in _ (by omega)
  have i2 : IntKind.i64.wrap ((n2 : Int) + 3) = (n2 : Int) + 3 := IntWalk.i64_in _ (by omega)
  go_region_held3 (fun w' => w'.cell? ⟨w.heap.size, 0, none⟩ = some (.slice A1 n1 c1) ∧ w'.cell? ⟨w.heap.size, 1, none⟩ = some (.slice A2 n2 c2)) ((first | (refine keep_box HK.out.1 ?_; (repeat (first | (with_reducible exact Only.refl _ _) | (with_reducible exact HOA.out.1) | (with_reducible exact HOB.out.1) | (with_reducible refine Only.drew ?_) | (with_reducible refine Only.alloc ?_ _))); done) | go_keep))
    (first
      | ((refine step_append_rd _ (by rfl) _ _ 23 (by rfl) wx.heap.size 66 i0 (.agg #[.int .i64 0, .int .i64 0]) 2 16 Try.underlying23 HI.out.1 HI.out.2.1 HI.out.2.2.1 HI.out.2.2.2 rfl (by omega) (.slice (some ⟨_, 0, none⟩) 0 (n1 + 3)) 0 [] (by rfl) ?_ L1 w.heap.size A1 n1 c1 (prs ls) (by rfl) ?_ (prs_one ls) ?_ ?_ ?_ ?_; (refine own_made HZ1.out (by unfold maxLen; omega) ?_ ?_; (first | exact Nat.le_refl _ | omega | (have := hgrowB.size; simp at this ⊢; omega)); (repeat (first | ((with_reducible refine blk_new_eq ?_); (first | (with_reducible rfl) | exact (by simp))) | (with_reducible refine Blk.drew ?_) | (with_reducible refine Blk.alloc ?_ _) | (with_reducible refine Blk.grown_ ?_ hgrowB (by simp [Value.ownBlock]))))); (refine rd_via H1.out HK.out.2.2 ?_; (repeat (first | (with_reducible exact Only.refl _ _) | (with_reducible exact HOA.out.1) | (with_reducible exact HOB.out.1) | (with_reducible refine Only.drew ?_) | (with_reducible refine Only.alloc ?_ _)))); (unfold maxLen; omega); omega; (refine Only.size (S := fun _ => False) ?_; (repeat (first | (with_reducible exact Only.refl _ _) | (with_reducible exact HOA.out.1) | (with_reducible exact HOB.out.1) | (with_reducible refine Only.drew ?_) | (with_reducible refine Only.alloc ?_ _)))); intro vA wA hpreA hownA hgrowA hatA; obtain ⟨XA, CA, rfl⟩ := own_slice hownA; simp only [Nat.zero_add, List.nil_append] at hownA; have hoA : Only (fun _ => False) wx wA := (by (repeat (first | (with_reducible exact Only.refl _ _) | (with_reducible exact HOA.out.1) | (with_reducible exact HOB.out.1) | (with_reducible refine Only.drew ?_) | (with_reducible refine Only.alloc ?_ _) | (with_reducible refine Only.grown ?_ hgrowA (fun g hg => Or.inr (hpreA.lt g hg).1))))); have e0A : wA.cell? ⟨w.heap.size + 1, 0, none⟩ = some (.slice none 0 0) := (HK.out.2.1.only hoA (fun h => h)).cell 0; have e1A : wA.cell? ⟨w.heap.size + 1, 1, none⟩ = some (.slice none 0 0) := (HK.out.2.1.only hoA (fun h => h)).cell 1; have f0A : wA.frozen? ⟨w.heap.size + 1, 0, none⟩ = false := (HK.out.2.1.only hoA (fun h => h)).frozen 0; have f1A : wA.frozen? ⟨w.heap.size + 1, 1, none⟩ = false := (HK.out.2.1.only hoA (fun h => h)).frozen 1; have HOA := Lib.hid (And.intro hoA (And.intro hpreA hownA)); clear hoA hatA))
      | ((refine step_append_rd _ (by rfl) _ _ 24 (by rfl) wx.heap.size 3 j0 (.int .i64 0) 1 8 Try.underlying24 HJ.out.1 HJ.out.2.1 HJ.out.2.2.1 HJ.out.2.2.2 rfl (by omega) (.slice (some ⟨_, 0, none⟩) 0 (n2 + 3)) 0 [] (by rfl) ?_ L2 w.heap.size A2 n2 c2 (st.map (Value.int .i64)) (by rfl) ?_ (ints_one st) ?_ ?_ ?_ ?_; (refine own_made HZ2.out (by unfold maxLen; omega) ?_ ?_; (first | exact Nat.le_refl _ | omega | (have := hgrowA.size; simp at this ⊢; omega)); (repeat (first | ((with_reducible refine blk_new_eq ?_); (first | (with_reducible rfl) | exact (by simp))) | (with_reducible refine Blk.drew ?_) | (with_reducible refine Blk.alloc ?_ _) | (with_reducible refine Blk.grown_ ?_ hgrowA (by simp [Value.ownBlock]))))); (refine rd_via H2.out HK.out.2.2 ?_; (repeat (first | (with_reducible exact Only.refl _ _) | (with_reducible exact HOA.out.1) | (with_reducible exact HOB.out.1) | (with_reducible refine Only.drew ?_) | (with_reducible refine Only.alloc ?_ _)))); (unfold maxLen; omega); omega; (refine Only.size (S := fun _ => False) ?_; (repeat (first | (with_reducible exact Only.refl _ _) | (with_reducible exact HOA.out.1) | (with_reducible exact HOB.out.1) | (with_reducible refine Only.drew ?_) | (with_reducible refine Only.alloc ?_ _)))); intro vB wB hpreB hownB hgrowB hatB; obtain ⟨XB, CB, rfl⟩ := own_slice hownB; simp only [Nat.zero_add, List.nil_append] at hownB; have hoB : Only (fun _ => False) wx wB := (by (repeat (first | (with_reducible exact Only.refl _ _) | (with_reducible exact HOA.out.1) | (with_reducible exact HOB.out.1) | (with_reducible refine Only.drew ?_) | (with_reducible refine Only.alloc ?_ _) | (with_reducible refine Only.grown ?_ hgrowB (fun g hg => Or.inr (hpreB.lt g hg).1))))); have e0B : wB.cell? ⟨w.heap.size + 1, 0, none⟩ = some (.slice none 0 0) := (HK.out.2.1.only hoB (fun h => h)).cell 0; have e1B : wB.cell? ⟨w.heap.size + 1, 1, none⟩ = some (.slice none 0 0) := (HK.out.2.1.only hoB (fun h => h)).cell 1; have f0B : wB.frozen? ⟨w.heap.size + 1, 0, none⟩ = false := (HK.out.2.1.only hoB (fun h => h)).frozen 0; have f1B : wB.frozen? ⟨w.heap.size + 1, 1, none⟩ = false := (HK.out.2.1.only hoB (fun h => h)).frozen 1; have HOB := Lib.hid (And.intro hoB (And.intro hpreB hownB)); clear hoB hatB)))
  all_goals
    have hA2 := fin_keep HOA.out.2.2 (by (repeat (first | (with_reducible exact Only.refl _ _) | (with_reducible refine Only.drew ?_) | (with_reducible refine Only.alloc ?_ _)))) HOB.out.2.1 hgrowB (by decide)
    have hkb := HK.out.2.1.only HOB.out.1 (fun h => h)
    have HF := (hkb.set_ 0 (.slice XA n1 CA)).set_ 1 (.slice XB n2 CB)
    have g0 := HF.cell 0
    have g1 := HF.cell 1
    simp at g0 g1
    have HE := Lib.hid (And.intro hA2 (And.intro HOB.out.2.2 (HK.out.2.2.trans HOB.out.1)))
    clear hA2 hkb HF
    go_wp2
    refine bodyPost_ret (v := .agg #[.slice XA n1 CA, .slice XB n2 CB]) (by simp [results, Try.results26, go_sem, g0, g1]) rfl ?_
    exact ⟨XA, CA, XB, CB, rfl, own_more (own_setCell (own_setCell HE.out.1 zz _) zz _) (by omega), own_more (own_setCell (own_setCell HE.out.2.1 zz _) zz _) (by omega), ((HE.out.2.2.below (Nat.le_refl _) (fun _ _ h => h)).setCell (by simp) _).setCell (by simp) _⟩
end Go.Proofs.Ytbjfbmienlojkaa

namespace Go.Proofs.Ytbjfbmienlojkaa
open Go.RowKit

set_option maxHeartbeats 400000 in
theorem refMay_any (A1 A2 : Option Addr) (n1 c1 n2 c2 L1 L2 : Nat) (ls : List (Int × Int)) (st : List Int) (w : World)
    (h1 : Rd w L1 w.heap.size 2 A1 n1 (prs ls)) (h2 : Rd w L2 w.heap.size 1 A2 n2 (st.map (Value.int .i64))) (hn2 : n2 ≤ maxLen) (hn1 : n1 ≤ maxLen) :
    Calls Try.prog 21 #[.agg #[.slice A1 n1 c1, .slice A2 n2 c2]] w fun e w' => e = .returned (.bool (may ls st)) ∧ Below w.heap.size w w' := by
  unfold maxLen at hn1 hn2
  have l1 : ls.length = n1 := by have := h1.1; rw [prs_len] at this; omega
  have l2 : st.length = n2 := by have := h2.1; simpa using this
  have H1 := Lib.hid l1
  have H2 := Lib.hid l2
  clear l1 l2
  by_cases hbig : n1 ≤ 512
  · go_enter Try.func21, Try.ntmps21
    go_wp2
    go_loop [3, 5, 18] (fun a c i => ∃ (k : Nat) (left : Int), k ≤ n2 ∧ i = .int .i64 k ∧ a = .int .i64 left ∧ 0 ≤ left ∧ left ≤ 512 ∧ Hid (stanzasLeft ls.length st = stanzasLeft left (st.drop k))) (fun _ _ i => n2 - (intOf i).toNat)
    case atStart => exact ⟨0, n1, by omega, rfl, rfl, by omega, by omega, by rw [H1.out]; rfl⟩
    case round =>
      obtain ⟨k, left, hk, rfl, rfl, hl0, hl1, HR⟩ := hrel
      by_cases hlt : k < n2
      · obtain ⟨b, o, hkl, rfl, hL, hB, hc⟩ := h2.one hlt
        generalize hx : st[k] = x at hc
        have HX := Lib.hid hx
        clear hx
        have hst : stanzasLeft left (st.drop k) = if x < 1 ∨ left < x then none else stanzasLeft (left - x) (st.drop (k + 1)) := by
          rw [drop_at st k hkl, HX.out]; rfl
        have HS := Lib.hid hst
        clear hst
        go_wp2
        · go_ret
          refine ⟨?_, ?_⟩
          · have hcond : x < 1 ∨ left < x := by omega
            have := HR.out.trans HS.out
            rw [if_pos hcond] at this
            simp [may, this]
          · exact (Below.refl _ _).alloc (Nat.le_refl _) _
        · go_round
          case rel => exact ⟨k + 1, left - x, by omega, by go_num, rfl, by omega, by omega, by rw [HR.out, HS.out, if_neg (by omega)]; rfl⟩
          case measure => simp [intOf]; omega
        · go_ret
          refine ⟨?_, ?_⟩
          · have hcond : x < 1 ∨ left < x := by omega
            have := HR.out.trans HS.out
            rw [if_pos hcond] at this
            simp [may, this]
          · exact (Below.refl _ _).alloc (Nat.le_refl _) _
      · have hk2 : st.drop k = [] := List.drop_of_length_le (by rw [H2.out]; omega)
        have HK := Lib.hid hk2
        clear hk2
        go_wp2
        go_loopw [36] (fun i wr => ∃ j : Nat, j ≤ n1 ∧ i = .int .i64 j ∧ Below (w.heap.size + 1) (w.alloc (Obj.cells #[Value.slice A1 n1 c1, Value.slice A2 n2 c2] 26)) wr ∧ Hid (ls.all lineOk = (ls.drop j).all lineOk)) (fun i _ => n1 - (intOf i).toNat)
        case atStart => exact ⟨0, by omega, rfl, Below.refl _ _, rfl⟩
        case round =>
          obtain ⟨j, hj, rfl, hb, HA⟩ := hrel
          have hfin : Below w.heap.size w wr := ((Below.refl _ _).alloc (Nat.le_refl _) _).trans (hb.mono (by omega))
          by_cases hjlt : j < n1
          · obtain ⟨b, o, hjl, rfl, hL, hB, hc1, hc2⟩ := h1.two hjlt
            generalize hx : ls[j] = x at hc1 hc2
            obtain ⟨c, r⟩ := x
            have HX := Lib.hid hx
            clear hx
            simp only at hc1 hc2
            have hd1 : wr.cell? ⟨b, o + j * 2, none⟩ = some (.int .i64 c) := (hfin.cell (p := ⟨b, o + j * 2, none⟩) hB).trans hc1
            have hd2 : wr.cell? ⟨b, o + j * 2 + 1, none⟩ = some (.int .i64 r) := (hfin.cell (p := ⟨b, o + j * 2 + 1, none⟩) hB).trans hc2
            have hall : (ls.drop j).all lineOk = (lineOk (c, r) && (ls.drop (j + 1)).all lineOk) := by
              rw [drop_at ls j hjl, HX.out]; rfl
            have HL := Lib.hid hall
            clear hall
            go_wp2
            all_goals first
              | (go_ret
                 refine ⟨?_, hfin.alloc hfin.size _⟩
                 have hbad : lineOk (c, r) = false := Bool.eq_false_iff.2 fun hg => by
                   have := (lineOk_iff (c, r)).1 hg
                   go_light; omega
                 simp [may, HA.out, HL.out, hbad])
              | (have hgood : lineOk (c, r) = true := (lineOk_iff (c, r)).2 (by go_light; omega)
                 go_roundw
                 case rel => exact ⟨j + 1, by omega, by go_num, hb.alloc (by have := hb.size; simpa using this) _, HA.out.trans (by rw [HL.out, hgood, Bool.true_and])⟩
                 case measure => simp [intOf]; omega)
          · have hj2 : ls.drop j = [] := List.drop_of_length_le (by rw [H1.out]; omega)
            have HJ := Lib.hid hj2
            clear hj2
            go_wp2
            all_goals
              go_ret
              have e : stanzasLeft ls.length st = some left := HR.out.trans (by rw [HK.out]; rfl)
              have ea : ls.all lineOk = true := HA.out.trans (by rw [HJ.out]; rfl)
              refine ⟨ret_bool ?_, hfin⟩
              unfold may
              rw [e, ea, decide_eq_true (by rw [H1.out]; exact hbig)]
              simp
  · go_enter Try.func21, Try.ntmps21
    go_wp2
    go_ret
    refine ⟨?_, ?_⟩
    · simp [may, H1.out, hbig]
    · exact (Below.refl _ _).alloc (Nat.le_refl _) _
end Go.Proofs.Ytbjfbmienlojkaa
