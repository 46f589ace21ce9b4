/- RhymeTails: forms that are none.
   RhymeTails: forms that may be. -/
import Derived.Test.YtogofchpocoebaaY11
import Derived.Test.YtogofchpocoebaaS15
namespace Go.Proofs.Ytogofchpocoebaa
open Go.RowKit Go.Maps

set_option maxHeartbeats 4000000 in
set_option maxRecDepth 100000 in
theorem rhymeTails_bad (x : Sd) (BB : Nat) (w : World) (hx : SdIn w BB x) (hBB : BB ≤ w.heap.size) (hm : mayB x = false) :
    Calls Try.prog 3 #[.agg #[.slice x.A x.n x.c, .slice x.D x.m x.d]] w fun e w' => e = .returned (.bool true) ∧ Below w.heap.size w w' := by
  have HX := Lib.hid hx
  have HM := Lib.hid hm
  clear hx hm
  go_enter Try.func3, Try.ntmps3
  go_upto_region 1 with (fail)
  refine wp_abs (fun wx => Below w.heap.size w wx ∧ Blk wx w.heap.size 25 #[.slice x.A x.n x.c, .slice x.D x.m x.d]) ⟨(Below.refl _ _).alloc (Nat.le_refl _) _, Blk.new _ _ _⟩ ?_
  rintro w1 ⟨hb, hB1⟩
  have e1 : w1.cell? ⟨w.heap.size, 0, none⟩ = some (.slice x.A x.n x.c) := hB1.cell 0
  have f1 : w1.cell? ⟨w.heap.size, 1, none⟩ = some (.slice x.D x.m x.d) := hB1.cell 1
  have L1 : w.heap.size < w1.heap.size := hB1.lt
  have H1 := Lib.hid hb
  clear hb hB1
  go_wp2_with fail
  refine (wakes15_any w1).mono ?_
  rintro e w2 ⟨rfl, hb⟩
  have e2 := (hb.cell (p := ⟨w.heap.size, 0, none⟩) L1).trans e1
  have f2 := (hb.cell (p := ⟨w.heap.size, 1, none⟩) L1).trans f1
  have L2 := Nat.lt_of_lt_of_le L1 hb.size
  have H2 := Lib.hid (H1.out.trans (hb.mono H1.out.size))
  clear hb e1 f1
  go_wp2_with fail
  refine (startUp_any x BB w2 (HX.out.below H2.out hBB) (Nat.le_trans hBB H2.out.size)).mono ?_
  rintro e w3 ⟨rfl, hb⟩
  have e3 := (hb.cell (p := ⟨w.heap.size, 0, none⟩) L2).trans e2
  have f3 := (hb.cell (p := ⟨w.heap.size, 1, none⟩) L2).trans f2
  have L3 := Nat.lt_of_lt_of_le L2 hb.size
  have H3 := Lib.hid (H2.out.trans (hb.mono H2.out.size))
  clear hb e2 f2
  simp only [HM.out, Bool.false_eq_true, if_false]
  go_wp2_with fail
  refine (tailUp_any x BB w3 (HX.out.below H3.out hBB) (Nat.le_trans hBB H3.out.size)).mono ?_
  rintro e w4 ⟨_, _, rfl, _, hb⟩
  have e4 := (hb.cell (p := ⟨w.heap.size, 0, none⟩) L3).trans e3
  have f4 := (hb.cell (p := ⟨w.heap.size, 1, none⟩) L3).trans f3
  have L4 := Nat.lt_of_lt_of_le L3 hb.size
  have H4 := Lib.hid (H3.out.trans (hb.mono H3.out.size))
  clear hb e3 f3
  simp only [HM.out, Bool.false_eq_true, if_false]
  go_wp2_with fail
  refine (headUp_any x BB w4 (HX.out.below H4.out hBB) (Nat.le_trans hBB H4.out.size)).mono ?_
  rintro e w5 ⟨_, _, rfl, _, hb⟩
  have e5 := (hb.cell (p := ⟨w.heap.size, 0, none⟩) L4).trans e4
  have f5 := (hb.cell (p := ⟨w.heap.size, 1, none⟩) L4).trans f4
  have L5 := Nat.lt_of_lt_of_le L4 hb.size
  have H5 := Lib.hid (H4.out.trans (hb.mono H4.out.size))
  clear hb e4 f4
  simp only [HM.out, Bool.false_eq_true, if_false]
  go_wp2_with fail
  refine (keyUp_any x BB w5 (HX.out.below H5.out hBB) (Nat.le_trans hBB H5.out.size)).mono ?_
  rintro e w6 ⟨rfl, hb⟩
  have e6 := (hb.cell (p := ⟨w.heap.size, 0, none⟩) L5).trans e5
  have f6 := (hb.cell (p := ⟨w.heap.size, 1, none⟩) L5).trans f5
  have L6 := Nat.lt_of_lt_of_le L5 hb.size
  have H6 := Lib.hid (H5.out.trans (hb.mono H5.out.size))
  clear hb e5 f5
  simp only [HM.out, Bool.false_eq_true, if_false]
  rw [show bts [] = ⟨#[]⟩ from rfl]
  go_wp2_with fail
  refine (femUp_any x BB w6 (HX.out.below H6.out hBB) (Nat.le_trans hBB H6.out.size)).mono ?_
  rintro e w7 ⟨rfl, hb⟩
  have e7 := (hb.cell (p := ⟨w.heap.size, 0, none⟩) L6).trans e6
  have f7 := (hb.cell (p := ⟨w.heap.size, 1, none⟩) L6).trans f6
  have L7 := Nat.lt_of_lt_of_le L6 hb.size
  have H7 := Lib.hid (H6.out.trans (hb.mono H6.out.size))
  clear hb e6 f6
  simp only [HM.out, Bool.false_eq_true, if_false]
  go_wp2_with fail
  refine (refMayR_any x BB w7 (HX.out.below H7.out hBB) (Nat.le_trans hBB H7.out.size)).mono ?_
  rintro e w8 ⟨rfl, hb⟩
  have e8 := (hb.cell (p := ⟨w.heap.size, 0, none⟩) L7).trans e7
  have f8 := (hb.cell (p := ⟨w.heap.size, 1, none⟩) L7).trans f7
  have L8 := Nat.lt_of_lt_of_le L7 hb.size
  have H8 := Lib.hid (H7.out.trans (hb.mono H7.out.size))
  clear hb e7 f7
  rw [HM.out]
  go_wp2
  go_ret
  exact ⟨rfl, H8.out⟩
end Go.Proofs.Ytogofchpocoebaa

namespace Go.Proofs.Ytogofchpocoebaa
open Go.RowKit Go.Maps

theorem own_ge {w : World} {base : Nat} {e : TypeId} {sz n : Nat} {v : Value} {xs : List Value} {k : Nat} (h : w.ownsRow base e sz v n xs) (hk : v.ownBlock = some k) : base ≤ k := by
  rcases h.2 with ⟨hv, _⟩ | ⟨g, cap, cur, hv, hb, _⟩
  · rw [hv] at hk; cases hk
  · rw [hv] at hk
    simp only [Value.ownBlock, Option.some.injEq] at hk
    omega
theorem spoil_below {w w' : World} {base B : Nat} {e : TypeId} {sz n : Nat} {v : Value} {xs : List Value} (h : w.ownsRow base e sz v n xs) (ho : Only (fun k => v.ownBlock = some k) w w') (hB : B ≤ base) (hw : B ≤ w.heap.size) : Below B w w' :=
  ho.below hw (fun k hk hs => by have := own_ge h hs; omega)

set_option maxHeartbeats 4000000 in
set_option maxRecDepth 100000 in
theorem rhymeTails_ok (x : Sd) (BB : Nat) (w : World) (hx : SdIn w BB x) (hBB : BB ≤ w.heap.size) (hm : mayB x = true) :
    Calls Try.prog 3 #[.agg #[.slice x.A x.n x.c, .slice x.D x.m x.d]] w fun e w' => e = .returned (.bool true) ∧ Below w.heap.size w w' := by
  have HX := Lib.hid hx
  have HM := Lib.hid hm
  have HF := Lib.hid (form_of (by have := hm; unfold mayB at this; exact eq_of_beq this))
  clear hx hm
  go_enter Try.func3, Try.ntmps3
  go_upto_region 1 with (fail)
  refine wp_abs (fun wx => Below w.heap.size w wx ∧ Blk wx w.heap.size 25 #[.slice x.A x.n x.c, .slice x.D x.m x.d]) ⟨(Below.refl _ _).alloc (Nat.le_refl _) _, Blk.new _ _ _⟩ ?_
  rintro w1 ⟨hb, hB1⟩
  have e1 : w1.cell? ⟨w.heap.size, 0, none⟩ = some (.slice x.A x.n x.c) := hB1.cell 0
  have f1 : w1.cell? ⟨w.heap.size, 1, none⟩ = some (.slice x.D x.m x.d) := hB1.cell 1
  have L1 : w.heap.size < w1.heap.size := hB1.lt
  have H0 := Lib.hid hb
  have hX : SdIn w1 BB x := HX.out.below hb hBB
  have HX1 := Lib.hid hX
  have HB1 := Lib.hid (Nat.le_trans hBB hb.size)
  clear hb hB1 hX
  have H1 : Hid (Below w1.heap.size w1 w1) := Lib.hid (Below.refl _ _)
  go_wp2_with fail
  refine (wakes15_any w1).mono ?_
  rintro e w2 ⟨rfl, hb⟩
  have e2 := (hb.cell (p := ⟨w.heap.size, 0, none⟩) L1).trans e1
  have f2 := (hb.cell (p := ⟨w.heap.size, 1, none⟩) L1).trans f1
  have L2 := Nat.lt_of_lt_of_le L1 hb.size
  have H2 := Lib.hid (H1.out.trans (hb.mono H1.out.size))
  clear hb e1 f1
  go_wp2_with fail
  refine (startUp_any x BB w2 (HX1.out.below H2.out HB1.out) (Nat.le_trans HB1.out H2.out.size)).mono ?_
  rintro e w3 ⟨rfl, hb⟩
  have e3 := (hb.cell (p := ⟨w.heap.size, 0, none⟩) L2).trans e2
  have f3 := (hb.cell (p := ⟨w.heap.size, 1, none⟩) L2).trans f2
  have L3 := Nat.lt_of_lt_of_le L2 hb.size
  have H3 := Lib.hid (H2.out.trans (hb.mono H2.out.size))
  clear hb e2 f2
  simp only [HM.out, if_true]
  go_wp2_with fail
  refine (tailUp_any x BB w3 (HX1.out.below H3.out HB1.out) (Nat.le_trans HB1.out H3.out.size)).mono ?_
  rintro e w4 ⟨T, TC, rfl, hT, hb⟩
  have e4 := (hb.cell (p := ⟨w.heap.size, 0, none⟩) L3).trans e3
  have f4 := (hb.cell (p := ⟨w.heap.size, 1, none⟩) L3).trans f3
  have L4 := Nat.lt_of_lt_of_le L3 hb.size
  have H4 := Lib.hid (H3.out.trans (hb.mono H3.out.size))
  have HT := Lib.hid (hT HM.out)
  clear hT
  clear hb e3 f3
  simp only [HM.out, if_true]
  go_wp2_with fail
  refine (headUp_any x BB w4 (HX1.out.below H4.out HB1.out) (Nat.le_trans HB1.out H4.out.size)).mono ?_
  rintro e w5 ⟨G, GC, rfl, hG, hb⟩
  have e5 := (hb.cell (p := ⟨w.heap.size, 0, none⟩) L4).trans e4
  have f5 := (hb.cell (p := ⟨w.heap.size, 1, none⟩) L4).trans f4
  have L5 := Nat.lt_of_lt_of_le L4 hb.size
  have H5 := Lib.hid (H4.out.trans (hb.mono H4.out.size))
  have J5 := Lib.hid hb
  have HG := Lib.hid (hG HM.out)
  clear hG
  clear hb e4 f4
  simp only [HM.out, if_true]
  go_wp2_with fail
  refine (keyUp_any x BB w5 (HX1.out.below H5.out HB1.out) (Nat.le_trans HB1.out H5.out.size)).mono ?_
  rintro e w6 ⟨rfl, hb⟩
  have e6 := (hb.cell (p := ⟨w.heap.size, 0, none⟩) L5).trans e5
  have f6 := (hb.cell (p := ⟨w.heap.size, 1, none⟩) L5).trans f5
  have L6 := Nat.lt_of_lt_of_le L5 hb.size
  have H6 := Lib.hid (H5.out.trans (hb.mono H5.out.size))
  have J6 := Lib.hid (J5.out.trans (hb.mono J5.out.size))
  have K6 := Lib.hid hb
  clear hb e5 f5
  simp only [HM.out, if_true]
  go_wp2_with fail
  refine (femUp_any x BB w6 (HX1.out.below H6.out HB1.out) (Nat.le_trans HB1.out H6.out.size)).mono ?_
  rintro e w7 ⟨rfl, hb⟩
  have e7 := (hb.cell (p := ⟨w.heap.size, 0, none⟩) L6).trans e6
  have f7 := (hb.cell (p := ⟨w.heap.size, 1, none⟩) L6).trans f6
  have L7 := Nat.lt_of_lt_of_le L6 hb.size
  have H7 := Lib.hid (H6.out.trans (hb.mono H6.out.size))
  have J7 := Lib.hid (J6.out.trans (hb.mono J6.out.size))
  have K7 := Lib.hid (K6.out.trans (hb.mono K6.out.size))
  clear hb e6 f6
  simp only [HM.out, if_true]
  go_wp2_with fail
  refine (refMayR_any x BB w7 (HX1.out.below H7.out HB1.out) (Nat.le_trans HB1.out H7.out.size)).mono ?_
  rintro e w8 ⟨rfl, hb⟩
  have e8 := (hb.cell (p := ⟨w.heap.size, 0, none⟩) L7).trans e7
  have f8 := (hb.cell (p := ⟨w.heap.size, 1, none⟩) L7).trans f7
  have L8 := Nat.lt_of_lt_of_le L7 hb.size
  have H8 := Lib.hid (H7.out.trans (hb.mono H7.out.size))
  have J8 := Lib.hid (J7.out.trans (hb.mono J7.out.size))
  have K8 := Lib.hid (K7.out.trans (hb.mono K7.out.size))
  clear hb e7 f7
  rw [HM.out]
  go_wp2_with fail
  refine (refLastF_any x BB w8 (HX1.out.below H8.out HB1.out) (Nat.le_trans HB1.out H8.out.size) HF.out).mono ?_
  rintro e w9 ⟨rfl, hb⟩
  have e9 := (hb.cell (p := ⟨w.heap.size, 0, none⟩) L8).trans e8
  have f9 := (hb.cell (p := ⟨w.heap.size, 1, none⟩) L8).trans f8
  have L9 := Nat.lt_of_lt_of_le L8 hb.size
  have H9 := Lib.hid (H8.out.trans (hb.mono H8.out.size))
  have J9 := Lib.hid (J8.out.trans (hb.mono J8.out.size))
  have K9 := Lib.hid (K8.out.trans (hb.mono K8.out.size))
  clear hb e8 f8
  have eM := HX1.out.sy.len_sy
  have hm64 : x.m ≤ 64 := by have := HF.out.m64; omega
  have hlen := (form_parts HF.out).2.2
  rw [eM]
  obtain ⟨i, hi⟩ : ∃ i, i = lastF x.ss := ⟨_, rfl⟩
  have him : i < x.m := by have := lastF_lt HF.out.pos; omega
  rw [← hi]
  obtain ⟨b, o, hl, eD, _, hlt, y0, y1, y2, y3, y4⟩ := (HX1.out.below H9.out HB1.out).sy.sy (k := i) him
  have hls : lastS x.ss = x.ss[i] := by unfold lastS; rw [← hi, List.getD_eq_getElem?_getD, List.getElem?_eq_getElem hl]; rfl
  rw [← hls] at y1
  clear y0 y2 y3 y4 hls hi hlt
  rw [eD] at f9
  have q1 : ((lastS x.ss).nu != (lastS x.ss).nu) = false := by simp
  have q2 : (((x.m : Int) - 1 - (i : Int)) != ((x.m : Int) - 1 - (i : Int))) = false := by simp
  have i1 : (0 : Int) ≤ (i : Int) := by omega
  have i2 : (i : Int) < (x.m : Int) := by omega
  have i3 : IntKind.i64.wrap ((x.m : Int) - 1) = (x.m : Int) - 1 := IntWalk.i64_in _ (by omega)
  have i4 : IntKind.i64.wrap ((x.m : Int) - 1 - (i : Int)) = (x.m : Int) - 1 - (i : Int) := IntWalk.i64_in _ (by omega)
  go_wp2_with fail
  rw [← eD] at f9 ⊢
  clear eD y1
  refine (refTail_any x BB w9 (HX1.out.below H9.out HB1.out) (Nat.le_trans HB1.out H9.out.size) HF.out).mono ?_
  rintro e w10 ⟨X, XC, rfl, hR, hC, hb⟩
  have e10 := (hb.cell (p := ⟨w.heap.size, 0, none⟩) L9).trans e9
  have f10 := (hb.cell (p := ⟨w.heap.size, 1, none⟩) L9).trans f9
  have L10 := Nat.lt_of_lt_of_le L9 hb.size
  have H10 := Lib.hid (H9.out.trans (hb.mono H9.out.size))
  have J10 := Lib.hid (J9.out.trans (hb.mono J9.out.size))
  have K10 := Lib.hid (K9.out.trans (hb.mono K9.out.size))
  have HR10 := Lib.hid hR
  clear hR hC
  clear hb e9 f9
  go_wp2_with fail
  refine (refSame_any T X _ TC _ XC _ _ _ _ (tailF x.l x.ss) (tailF x.l x.ss) w10 ((own_rd HT.out).below J10.out (Nat.le_refl _)) (HR10.out) (by unfold maxLen; omega) (by unfold maxLen; omega) (J10.out.size) (Nat.le_trans HB1.out H10.out.size)).mono ?_
  rintro e w11 ⟨rfl, hb⟩
  have e11 := (hb.cell (p := ⟨w.heap.size, 0, none⟩) L10).trans e10
  have f11 := (hb.cell (p := ⟨w.heap.size, 1, none⟩) L10).trans f10
  have L11 := Nat.lt_of_lt_of_le L10 hb.size
  have H11 := Lib.hid (H10.out.trans (hb.mono H10.out.size))
  have J11 := Lib.hid (J10.out.trans (hb.mono J10.out.size))
  have K11 := Lib.hid (K10.out.trans (hb.mono K10.out.size))
  clear hb e10 f10
  rw [show decide (tailF x.l x.ss = tailF x.l x.ss) = true from decide_eq_true rfl]
  go_wp2_with fail
  refine (refHead_any x BB w11 (HX1.out.below H11.out HB1.out) (Nat.le_trans HB1.out H11.out.size) HF.out).mono ?_
  rintro e w12 ⟨Y, YC, rfl, hR, hC, hb⟩
  have e12 := (hb.cell (p := ⟨w.heap.size, 0, none⟩) L11).trans e11
  have f12 := (hb.cell (p := ⟨w.heap.size, 1, none⟩) L11).trans f11
  have L12 := Nat.lt_of_lt_of_le L11 hb.size
  have H12 := Lib.hid (H11.out.trans (hb.mono H11.out.size))
  have J12 := Lib.hid (J11.out.trans (hb.mono J11.out.size))
  have K12 := Lib.hid (K11.out.trans (hb.mono K11.out.size))
  have HR12 := Lib.hid hR
  clear hR hC
  clear hb e11 f11
  go_wp2_with fail
  refine (refSame_any G Y _ GC _ YC _ _ _ _ (headF x.l x.ss) (headF x.l x.ss) w12 ((own_rd HG.out).below K12.out (Nat.le_refl _)) (HR12.out) (by unfold maxLen; omega) (by unfold maxLen; omega) (K12.out.size) (Nat.le_trans HB1.out H12.out.size)).mono ?_
  rintro e w13 ⟨rfl, hb⟩
  have e13 := (hb.cell (p := ⟨w.heap.size, 0, none⟩) L12).trans e12
  have f13 := (hb.cell (p := ⟨w.heap.size, 1, none⟩) L12).trans f12
  have L13 := Nat.lt_of_lt_of_le L12 hb.size
  have H13 := Lib.hid (H12.out.trans (hb.mono H12.out.size))
  have J13 := Lib.hid (J12.out.trans (hb.mono J12.out.size))
  have K13 := Lib.hid (K12.out.trans (hb.mono K12.out.size))
  clear hb e12 f12
  rw [show decide (headF x.l x.ss = headF x.l x.ss) = true from decide_eq_true rfl]
  go_wp2_with fail
  refine (refKey_any x BB w13 (HX1.out.below H13.out HB1.out) (Nat.le_trans HB1.out H13.out.size) HF.out).mono ?_
  rintro e w14 ⟨rfl, hb⟩
  have e14 := (hb.cell (p := ⟨w.heap.size, 0, none⟩) L13).trans e13
  have f14 := (hb.cell (p := ⟨w.heap.size, 1, none⟩) L13).trans f13
  have L14 := Nat.lt_of_lt_of_le L13 hb.size
  have H14 := Lib.hid (H13.out.trans (hb.mono H13.out.size))
  have J14 := Lib.hid (J13.out.trans (hb.mono J13.out.size))
  have K14 := Lib.hid (K13.out.trans (hb.mono K13.out.size))
  clear hb e13 f13
  go_wp2_with fail
  have ho14 := own_only HT.out (Only.of_below J14.out (fun _ => False)) (fun _ _ _ _ h => h)
  refine (spoil_any _ T _ TC _ w14 ho14).mono ?_
  rintro e w15 ⟨rfl, ho⟩
  have hb : Below w1.heap.size w14 w15 := spoil_below ho14 ho H3.out.size H14.out.size
  have e15 := (hb.cell (p := ⟨w.heap.size, 0, none⟩) L1).trans e14
  have f15 := (hb.cell (p := ⟨w.heap.size, 1, none⟩) L1).trans f14
  have L15 := Nat.lt_of_lt_of_le L14 hb.size
  have H15 := Lib.hid (H14.out.trans hb)
  have HO15 := Lib.hid ho
  clear hb ho ho14 e14 f14
  go_wp2_with fail
  have ho15 := own_only (own_only HG.out (Only.of_below K14.out (fun _ => False)) (fun _ _ _ _ h => h)) HO15.out (fun k hk _ _ hs => by obtain ⟨cs, hB⟩ := own_blk HT.out hs; have := hB.lt; omega)
  refine (spoil_any _ G _ GC _ w15 ho15).mono ?_
  rintro e w16 ⟨rfl, ho⟩
  have hb : Below w1.heap.size w15 w16 := spoil_below ho15 ho H4.out.size H15.out.size
  have e16 := (hb.cell (p := ⟨w.heap.size, 0, none⟩) L1).trans e15
  have f16 := (hb.cell (p := ⟨w.heap.size, 1, none⟩) L1).trans f15
  have L16 := Nat.lt_of_lt_of_le L15 hb.size
  have H16 := Lib.hid (H15.out.trans hb)
  have HO16 := Lib.hid ho
  clear hb ho ho15 e15 f15
  go_wp2_with fail
  refine (tailUp_any x BB w16 (HX1.out.below H16.out HB1.out) (Nat.le_trans HB1.out H16.out.size)).mono ?_
  rintro e w17 ⟨T2, TC2, rfl, hT, hb⟩
  have e17 := (hb.cell (p := ⟨w.heap.size, 0, none⟩) L16).trans e16
  have f17 := (hb.cell (p := ⟨w.heap.size, 1, none⟩) L16).trans f16
  have L17 := Nat.lt_of_lt_of_le L16 hb.size
  have H17 := Lib.hid (H16.out.trans (hb.mono H16.out.size))
  have HT2 := Lib.hid (hT HM.out)
  clear hT
  clear hb e16 f16
  simp only [HM.out, if_true]
  go_wp2_with fail
  refine (headUp_any x BB w17 (HX1.out.below H17.out HB1.out) (Nat.le_trans HB1.out H17.out.size)).mono ?_
  rintro e w18 ⟨G2, GC2, rfl, hG, hb⟩
  have e18 := (hb.cell (p := ⟨w.heap.size, 0, none⟩) L17).trans e17
  have f18 := (hb.cell (p := ⟨w.heap.size, 1, none⟩) L17).trans f17
  have L18 := Nat.lt_of_lt_of_le L17 hb.size
  have H18 := Lib.hid (H17.out.trans (hb.mono H17.out.size))
  have J18 := Lib.hid hb
  have HG2 := Lib.hid (hG HM.out)
  clear hG
  clear hb e17 f17
  simp only [HM.out, if_true]
  go_wp2_with fail
  refine (refTail_any x BB w18 (HX1.out.below H18.out HB1.out) (Nat.le_trans HB1.out H18.out.size) HF.out).mono ?_
  rintro e w19 ⟨X2, XC2, rfl, hR, hC, hb⟩
  have e19 := (hb.cell (p := ⟨w.heap.size, 0, none⟩) L18).trans e18
  have f19 := (hb.cell (p := ⟨w.heap.size, 1, none⟩) L18).trans f18
  have L19 := Nat.lt_of_lt_of_le L18 hb.size
  have H19 := Lib.hid (H18.out.trans (hb.mono H18.out.size))
  have J19 := Lib.hid (J18.out.trans (hb.mono J18.out.size))
  have K19 := Lib.hid hb
  have HR19 := Lib.hid hR
  clear hR hC
  clear hb e18 f18
  go_wp2_with fail
  refine (refSame_any T2 X2 _ TC2 _ XC2 _ _ _ _ (tailF x.l x.ss) (tailF x.l x.ss) w19 ((own_rd HT2.out).below J19.out (Nat.le_refl _)) (HR19.out) (by unfold maxLen; omega) (by unfold maxLen; omega) (J19.out.size) (Nat.le_trans HB1.out H19.out.size)).mono ?_
  rintro e w20 ⟨rfl, hb⟩
  have e20 := (hb.cell (p := ⟨w.heap.size, 0, none⟩) L19).trans e19
  have f20 := (hb.cell (p := ⟨w.heap.size, 1, none⟩) L19).trans f19
  have L20 := Nat.lt_of_lt_of_le L19 hb.size
  have H20 := Lib.hid (H19.out.trans (hb.mono H19.out.size))
  have J20 := Lib.hid (J19.out.trans (hb.mono J19.out.size))
  have K20 := Lib.hid (K19.out.trans (hb.mono K19.out.size))
  clear hb e19 f19
  rw [show decide (tailF x.l x.ss = tailF x.l x.ss) = true from decide_eq_true rfl]
  go_wp2_with fail
  refine (refHead_any x BB w20 (HX1.out.below H20.out HB1.out) (Nat.le_trans HB1.out H20.out.size) HF.out).mono ?_
  rintro e w21 ⟨Y2, YC2, rfl, hR, hC, hb⟩
  have e21 := (hb.cell (p := ⟨w.heap.size, 0, none⟩) L20).trans e20
  have f21 := (hb.cell (p := ⟨w.heap.size, 1, none⟩) L20).trans f20
  have L21 := Nat.lt_of_lt_of_le L20 hb.size
  have H21 := Lib.hid (H20.out.trans (hb.mono H20.out.size))
  have J21 := Lib.hid (J20.out.trans (hb.mono J20.out.size))
  have K21 := Lib.hid (K20.out.trans (hb.mono K20.out.size))
  have HR21 := Lib.hid hR
  clear hR hC
  clear hb e20 f20
  go_wp2_with fail
  refine (refSame_any G2 Y2 _ GC2 _ YC2 _ _ _ _ (headF x.l x.ss) (headF x.l x.ss) w21 ((own_rd HG2.out).below K21.out (Nat.le_refl _)) (HR21.out) (by unfold maxLen; omega) (by unfold maxLen; omega) (K21.out.size) (Nat.le_trans HB1.out H21.out.size)).mono ?_
  rintro e w22 ⟨rfl, hb⟩
  have e22 := (hb.cell (p := ⟨w.heap.size, 0, none⟩) L21).trans e21
  have f22 := (hb.cell (p := ⟨w.heap.size, 1, none⟩) L21).trans f21
  have L22 := Nat.lt_of_lt_of_le L21 hb.size
  have H22 := Lib.hid (H21.out.trans (hb.mono H21.out.size))
  have J22 := Lib.hid (J21.out.trans (hb.mono J21.out.size))
  have K22 := Lib.hid (K21.out.trans (hb.mono K21.out.size))
  clear hb e21 f21
  rw [show decide (headF x.l x.ss = headF x.l x.ss) = true from decide_eq_true rfl]
  go_wp2
  go_ret
  exact ⟨rfl, H0.out.trans (H22.out.mono H0.out.size)⟩

theorem rhymeTails_any (x : Sd) (BB : Nat) (w : World) (hx : SdIn w BB x) (hBB : BB ≤ w.heap.size) :
    Calls Try.prog 3 #[.agg #[.slice x.A x.n x.c, .slice x.D x.m x.d]] w fun e w' => e = .returned (.bool true) ∧ Below w.heap.size w w' := by
  cases hm : mayB x with
  | false => exact rhymeTails_bad x BB w hx hBB hm
  | true => exact rhymeTails_ok x BB w hx hBB hm
end Go.Proofs.Ytogofchpocoebaa
