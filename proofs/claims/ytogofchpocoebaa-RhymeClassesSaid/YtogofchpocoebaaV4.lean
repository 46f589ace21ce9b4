/- rhyme.Kind. -/
import Derived.Test.YtogofchpocoebaaV3
namespace Go.Proofs.Ytogofchpocoebaa
open Go.RowKit Go.Maps

set_option maxHeartbeats 4000000 in
set_option maxRecDepth 100000 in
theorem kind_bad (x y : Sd) (BB : Nat) (w : World) (hx : SdIn w BB x) (hy : SdIn w BB y) (hBB : BB ≤ w.heap.size) (hm : (mayB x && mayB y) = false) :
    Calls Try.prog 76 #[.agg #[.slice x.A x.n x.c, .slice x.D x.m x.d], .agg #[.slice y.A y.n y.c, .slice y.D y.m y.d]] w fun e w' => e = .returned (.tuple #[.int .i64 0, .int .i64 2]) ∧ Below w.heap.size w w' := by
  have HX := Lib.hid hx
  have HY := Lib.hid hy
  clear hx hy
  have HM := Lib.hid hm
  clear hm
  go_enter Try.func76, Try.ntmps76
  go_upto_region 1 with (fail)
  refine wp_abs (fun wx => Below w.heap.size w wx ∧ Blk wx w.heap.size 25 #[.slice x.A x.n x.c, .slice x.D x.m x.d] ∧ Blk wx (w.heap.size + 1) 25 #[.slice y.A y.n y.c, .slice y.D y.m y.d]) ⟨((Below.refl _ _).alloc (Nat.le_refl _) _).alloc (by simp) _, (Blk.new _ _ _).alloc _, blk_new_eq (by simp)⟩ ?_
  rintro w1 ⟨hb, hB1, hB2⟩
  have e1 : w1.cell? ⟨w.heap.size, 0, none⟩ = some (.slice x.A x.n x.c) := hB1.cell 0
  have f1 : w1.cell? ⟨w.heap.size, 1, none⟩ = some (.slice x.D x.m x.d) := hB1.cell 1
  have g1 : w1.cell? ⟨w.heap.size + 1, 0, none⟩ = some (.slice y.A y.n y.c) := hB2.cell 0
  have k1 : w1.cell? ⟨w.heap.size + 1, 1, none⟩ = some (.slice y.D y.m y.d) := hB2.cell 1
  have L1 : w.heap.size + 1 < w1.heap.size := hB2.lt
  have H1 := Lib.hid hb
  clear hb hB1 hB2
  go_wp2_with fail
  refine (mayTwo_any x y BB w1 (HX.out.below H1.out hBB) (HY.out.below H1.out hBB) (Nat.le_trans hBB H1.out.size)).mono ?_
  rintro e w2 ⟨rfl, hb⟩
  have e2 := (hb.cell (p := ⟨w.heap.size, 0, none⟩) (show w.heap.size < w1.heap.size by have := L1; omega)).trans e1
  have f2 := (hb.cell (p := ⟨w.heap.size, 1, none⟩) (show w.heap.size < w1.heap.size by have := L1; omega)).trans f1
  have g2 := (hb.cell (p := ⟨w.heap.size + 1, 0, none⟩) L1).trans g1
  have k2 := (hb.cell (p := ⟨w.heap.size + 1, 1, none⟩) L1).trans k1
  have L2 := Nat.lt_of_lt_of_le L1 hb.size
  have H2 := Lib.hid (H1.out.trans (hb.mono H1.out.size))
  clear hb e1 f1 g1 k1
  rw [HM.out]
  clear HM
  go_wp2
  go_ret2
  exact ⟨rfl, H2.out⟩
set_option maxHeartbeats 4000000 in
set_option maxRecDepth 100000 in
theorem kind_ok (x y : Sd) (BB : Nat) (w : World) (hx : SdIn w BB x) (hy : SdIn w BB y) (hBB : BB ≤ w.heap.size) (hm : mayB x = true ∧ mayB y = true) :
    Calls Try.prog 76 #[.agg #[.slice x.A x.n x.c, .slice x.D x.m x.d], .agg #[.slice y.A y.n y.c, .slice y.D y.m y.d]] w fun e w' => e = .returned (.tuple #[.int .i64 (kindF x.l y.l (tailF x.l x.ss) (tailF y.l y.ss) (headF x.l x.ss) (headF y.l y.ss)), .int .i64 0]) ∧ Below w.heap.size w w' := by
  have HX := Lib.hid hx
  have HY := Lib.hid hy
  clear hx hy
  have HF := Lib.hid (form_of (by have := hm.1; unfold mayB at this; exact eq_of_beq this))
  have HG := Lib.hid (form_of (by have := hm.2; unfold mayB at this; exact eq_of_beq this))
  have HM := Lib.hid hm
  clear hm
  go_enter Try.func76, Try.ntmps76
  go_upto_region 1 with (fail)
  refine wp_abs (fun wx => Below w.heap.size w wx ∧ Blk wx w.heap.size 25 #[.slice x.A x.n x.c, .slice x.D x.m x.d] ∧ Blk wx (w.heap.size + 1) 25 #[.slice y.A y.n y.c, .slice y.D y.m y.d]) ⟨((Below.refl _ _).alloc (Nat.le_refl _) _).alloc (by simp) _, (Blk.new _ _ _).alloc _, blk_new_eq (by simp)⟩ ?_
  rintro w1 ⟨hb, hB1, hB2⟩
  have e1 : w1.cell? ⟨w.heap.size, 0, none⟩ = some (.slice x.A x.n x.c) := hB1.cell 0
  have f1 : w1.cell? ⟨w.heap.size, 1, none⟩ = some (.slice x.D x.m x.d) := hB1.cell 1
  have g1 : w1.cell? ⟨w.heap.size + 1, 0, none⟩ = some (.slice y.A y.n y.c) := hB2.cell 0
  have k1 : w1.cell? ⟨w.heap.size + 1, 1, none⟩ = some (.slice y.D y.m y.d) := hB2.cell 1
  have L1 : w.heap.size + 1 < w1.heap.size := hB2.lt
  have H1 := Lib.hid hb
  clear hb hB1 hB2
  go_wp2_with fail
  refine (mayTwo_any x y BB w1 (HX.out.below H1.out hBB) (HY.out.below H1.out hBB) (Nat.le_trans hBB H1.out.size)).mono ?_
  rintro e w2 ⟨rfl, hb⟩
  have e2 := (hb.cell (p := ⟨w.heap.size, 0, none⟩) (show w.heap.size < w1.heap.size by have := L1; omega)).trans e1
  have f2 := (hb.cell (p := ⟨w.heap.size, 1, none⟩) (show w.heap.size < w1.heap.size by have := L1; omega)).trans f1
  have g2 := (hb.cell (p := ⟨w.heap.size + 1, 0, none⟩) L1).trans g1
  have k2 := (hb.cell (p := ⟨w.heap.size + 1, 1, none⟩) L1).trans k1
  have L2 := Nat.lt_of_lt_of_le L1 hb.size
  have H2 := Lib.hid (H1.out.trans (hb.mono H1.out.size))
  clear hb e1 f1 g1 k1
  rw [HM.out.1, HM.out.2, Bool.true_and]
  go_wp2_with fail
  refine (of_any x false BB w2 (HX.out.below H2.out hBB) (Nat.le_trans hBB H2.out.size) HF.out).mono ?_
  rintro e w3 ⟨KA, KC, rfl, ho, hb⟩
  have e3 := (hb.cell (p := ⟨w.heap.size, 0, none⟩) (show w.heap.size < w2.heap.size by have := L2; omega)).trans e2
  have f3 := (hb.cell (p := ⟨w.heap.size, 1, none⟩) (show w.heap.size < w2.heap.size by have := L2; omega)).trans f2
  have g3 := (hb.cell (p := ⟨w.heap.size + 1, 0, none⟩) L2).trans g2
  have k3 := (hb.cell (p := ⟨w.heap.size + 1, 1, none⟩) L2).trans k2
  have L3 := Nat.lt_of_lt_of_le L2 hb.size
  have H3 := Lib.hid (H2.out.trans (hb.mono H2.out.size))
  have J3 : Hid (Below w3.heap.size w3 w3) := Lib.hid (Below.refl _ _)
  have HO := Lib.hid ho
  clear ho
  clear hb e2 f2 g2 k2
  go_wp2
  have hmx : (tailF x.l x.ss).length ≤ maxLen := by have := ((form_parts HF.out).2.2.1); unfold maxLen; omega
  have hmy : (tailF y.l y.ss).length ≤ maxLen := by have := ((form_parts HG.out).2.2.1); unfold maxLen; omega
  have Ye := e3
  have Yf := f3
  have Yg := g3
  have Yk := k3
  have Xe := Bel.cell e3
  have Xf := Bel.cell f3
  have Xg := Bel.cell g3
  have Xk := Bel.cell k3
  clear e3 f3 g3 k3
  have wf : ∀ k, Fence.wide.fn k := fun _ => trivial
  have wd : Fence.wide.depth = none := rfl
  refine wp_bel (by kernel_rfl) (by kernel_rfl) ?_
  repeat (gi_big_quiet_step (fail))
  gi_big_quiet_want
  gi_big_quiet_op
  refine ⟨.slice (tailA x) (tailF x.l x.ss).length (tailC x), fun z => ?_, ?_⟩
  · exact callsIn_wide.2 ((tail_det x BB z.1 ((HX.out.below H3.out hBB).below z.2 (Nat.le_trans hBB H3.out.size)) (Nat.le_trans (Nat.le_trans hBB H3.out.size) z.2.size) HF.out).mono (fun e w' h => ⟨h.1, z.next h.2⟩))
  go_big_quiet_on
  repeat (gi_big_quiet_step (fail))
  gi_big_quiet_want
  gi_big_quiet_op
  refine ⟨.slice (tailA y) (tailF y.l y.ss).length (tailC y), fun z => ?_, ?_⟩
  · exact callsIn_wide.2 ((tail_det y BB z.1 ((HY.out.below H3.out hBB).below z.2 (Nat.le_trans hBB H3.out.size)) (Nat.le_trans (Nat.le_trans hBB H3.out.size) z.2.size) HG.out).mono (fun e w' h => ⟨h.1, z.next h.2⟩))
  go_big_quiet_on
  repeat (gi_big_quiet_step (fail))
  gi_big_quiet_want
  gi_big_quiet_op
  refine ⟨.bool (decide (tailF x.l x.ss = tailF y.l y.ss)), fun z => ?_, ?_⟩
  · exact callsIn_wide.2 ((equalH_any (tailA x) (tailA y) _ _ _ _ _ _ _ _ (tailF x.l x.ss) (tailF y.l y.ss) z.1 (tail_rd ((HX.out.below H3.out hBB).below z.2 (Nat.le_trans hBB H3.out.size)) HF.out).1 (tail_rd ((HY.out.below H3.out hBB).below z.2 (Nat.le_trans hBB H3.out.size)) HG.out).1 hmx hmy (Nat.le_trans (Nat.le_trans hBB H3.out.size) z.2.size) (Nat.le_trans (Nat.le_trans hBB H3.out.size) z.2.size)).mono (fun e w' h => ⟨h.1, z.next h.2⟩))
  go_big_quiet_on
  repeat (gi_big_quiet_step (fail))
  refine wpQuietIn_nil ?_
  intro _ hw'
  obtain ⟨zW, hw''⟩ := hw'
  subst hw''
  have hb : Below w3.heap.size w3 zW.1 := zW.2
  generalize zW.1 = w4 at *
  clear Xe Xf Xg Xk wf wd
  have e3 := Ye
  have f3 := Yf
  have g3 := Yg
  have k3 := Yk
  clear Ye Yf Yg Yk
  have e4 := (hb.cell (p := ⟨w.heap.size, 0, none⟩) (show w.heap.size < w3.heap.size by have := L3; omega)).trans e3
  have f4 := (hb.cell (p := ⟨w.heap.size, 1, none⟩) (show w.heap.size < w3.heap.size by have := L3; omega)).trans f3
  have g4 := (hb.cell (p := ⟨w.heap.size + 1, 0, none⟩) L3).trans g3
  have k4 := (hb.cell (p := ⟨w.heap.size + 1, 1, none⟩) L3).trans k3
  have L4 := Nat.lt_of_lt_of_le L3 hb.size
  have H4 := Lib.hid (H3.out.trans (hb.mono H3.out.size))
  have J4 := Lib.hid (J3.out.trans (hb.mono J3.out.size))
  clear hb e3 f3 g3 k3
  clear hmx hmy
  by_cases ht : tailF x.l x.ss = tailF y.l y.ss
  · rw [decide_eq_true ht]
    have HT := Lib.hid ht
    clear ht
    go_wp2_with fail
    refine (equalH_any x.A y.A _ _ _ _ _ _ _ _ x.l y.l w4 ((HX.out.below H4.out hBB).ph) ((HY.out.below H4.out hBB).ph) (by have := HX.out.ph.len_ph; have := HF.out.n128; unfold maxLen; omega) (by have := HY.out.ph.len_ph; have := HG.out.n128; unfold maxLen; omega) (Nat.le_trans hBB H4.out.size) (Nat.le_trans hBB H4.out.size)).mono ?_
    rintro e w5 ⟨rfl, hb⟩
    have e5 := (hb.cell (p := ⟨w.heap.size, 0, none⟩) (show w.heap.size < w4.heap.size by have := L4; omega)).trans e4
    have f5 := (hb.cell (p := ⟨w.heap.size, 1, none⟩) (show w.heap.size < w4.heap.size by have := L4; omega)).trans f4
    have g5 := (hb.cell (p := ⟨w.heap.size + 1, 0, none⟩) L4).trans g4
    have k5 := (hb.cell (p := ⟨w.heap.size + 1, 1, none⟩) L4).trans k4
    have L5 := Nat.lt_of_lt_of_le L4 hb.size
    have H5 := Lib.hid (H4.out.trans (hb.mono H4.out.size))
    clear hb e4 f4 g4 k4
    by_cases hp : x.l = y.l
    · rw [decide_eq_true hp]
      have HV := Lib.hid (show kindF x.l y.l (tailF x.l x.ss) (tailF y.l y.ss) (headF x.l x.ss) (headF y.l y.ss) = 5 by unfold kindF; rw [if_pos HT.out, if_pos hp])
      clear hp
      go_wp2
      go_ret2
      exact ⟨by rw [HV.out]; rfl, H5.out⟩
    rw [decide_eq_false hp]
    go_wp2
    have hmx : (headF x.l x.ss).length ≤ maxLen := by have := (form_parts HF.out).2.2.2; unfold maxLen; omega
    have hmy : (headF y.l y.ss).length ≤ maxLen := by have := (form_parts HG.out).2.2.2; unfold maxLen; omega
    have Ye := e5
    have Yf := f5
    have Yg := g5
    have Yk := k5
    have Xe := Bel.cell e5
    have Xf := Bel.cell f5
    have Xg := Bel.cell g5
    have Xk := Bel.cell k5
    clear e5 f5 g5 k5
    have wf : ∀ k, Fence.wide.fn k := fun _ => trivial
    have wd : Fence.wide.depth = none := rfl
    refine wp_bel (by kernel_rfl) (by kernel_rfl) ?_
    repeat (gi_big_quiet_step (fail))
    gi_big_quiet_want
    gi_big_quiet_op
    refine ⟨.slice (headA x) (headF x.l x.ss).length (headC x), fun z => ?_, ?_⟩
    · exact callsIn_wide.2 ((head_det x BB z.1 ((HX.out.below H5.out hBB).below z.2 (Nat.le_trans hBB H5.out.size)) (Nat.le_trans (Nat.le_trans hBB H5.out.size) z.2.size) HF.out).mono (fun e w' h => ⟨h.1, z.next h.2⟩))
    go_big_quiet_on
    repeat (gi_big_quiet_step (fail))
    gi_big_quiet_want
    gi_big_quiet_op
    refine ⟨.slice (headA y) (headF y.l y.ss).length (headC y), fun z => ?_, ?_⟩
    · exact callsIn_wide.2 ((head_det y BB z.1 ((HY.out.below H5.out hBB).below z.2 (Nat.le_trans hBB H5.out.size)) (Nat.le_trans (Nat.le_trans hBB H5.out.size) z.2.size) HG.out).mono (fun e w' h => ⟨h.1, z.next h.2⟩))
    go_big_quiet_on
    repeat (gi_big_quiet_step (fail))
    gi_big_quiet_want
    gi_big_quiet_op
    refine ⟨.bool (decide (headF x.l x.ss = headF y.l y.ss)), fun z => ?_, ?_⟩
    · exact callsIn_wide.2 ((equalH_any (headA x) (headA y) _ _ _ _ _ _ _ _ (headF x.l x.ss) (headF y.l y.ss) z.1 (head_rd ((HX.out.below H5.out hBB).below z.2 (Nat.le_trans hBB H5.out.size)) HF.out).1 (head_rd ((HY.out.below H5.out hBB).below z.2 (Nat.le_trans hBB H5.out.size)) HG.out).1 hmx hmy (Nat.le_trans (Nat.le_trans hBB H5.out.size) z.2.size) (Nat.le_trans (Nat.le_trans hBB H5.out.size) z.2.size)).mono (fun e w' h => ⟨h.1, z.next h.2⟩))
    go_big_quiet_on
    repeat (gi_big_quiet_step (fail))
    refine wpQuietIn_nil ?_
    intro _ hw'
    obtain ⟨zW, hw''⟩ := hw'
    subst hw''
    have hb : Below w5.heap.size w5 zW.1 := zW.2
    generalize zW.1 = w6 at *
    clear Xe Xf Xg Xk wf wd
    have e5 := Ye
    have f5 := Yf
    have g5 := Yg
    have k5 := Yk
    clear Ye Yf Yg Yk
    have e6 := (hb.cell (p := ⟨w.heap.size, 0, none⟩) (show w.heap.size < w5.heap.size by have := L5; omega)).trans e5
    have f6 := (hb.cell (p := ⟨w.heap.size, 1, none⟩) (show w.heap.size < w5.heap.size by have := L5; omega)).trans f5
    have g6 := (hb.cell (p := ⟨w.heap.size + 1, 0, none⟩) L5).trans g5
    have k6 := (hb.cell (p := ⟨w.heap.size + 1, 1, none⟩) L5).trans k5
    have L6 := Nat.lt_of_lt_of_le L5 hb.size
    have H6 := Lib.hid (H5.out.trans (hb.mono H5.out.size))
    clear hb e5 f5 g5 k5
    clear hmx hmy
    by_cases hh : headF x.l x.ss = headF y.l y.ss
    · rw [decide_eq_true hh]
      have HV := Lib.hid (show kindF x.l y.l (tailF x.l x.ss) (tailF y.l y.ss) (headF x.l x.ss) (headF y.l y.ss) = 4 by unfold kindF; rw [if_pos HT.out, if_neg hp, if_pos hh])
      clear hh hp
      go_wp2
      go_ret2
      exact ⟨by rw [HV.out]; rfl, H6.out⟩
    · rw [decide_eq_false hh]
      have HV := Lib.hid (show kindF x.l y.l (tailF x.l x.ss) (tailF y.l y.ss) (headF x.l x.ss) (headF y.l y.ss) = 3 by unfold kindF; rw [if_pos HT.out, if_neg hp, if_neg hh])
      clear hh hp
      go_wp2
      go_ret2
      exact ⟨by rw [HV.out]; rfl, H6.out⟩
  · rw [decide_eq_false ht]
    have HN := Lib.hid ht
    clear ht
    have hXW : ∀ W', Below w4.heap.size w4 W' → SdIn W' BB x ∧ SdIn W' BB y ∧ BB ≤ W'.heap.size ∧ (W'.cell? ⟨w.heap.size, 0, none⟩ = some (.slice x.A x.n x.c) ∧ W'.cell? ⟨w.heap.size, 1, none⟩ = some (.slice x.D x.m x.d) ∧ W'.cell? ⟨w.heap.size + 1, 0, none⟩ = some (.slice y.A y.n y.c) ∧ W'.cell? ⟨w.heap.size + 1, 1, none⟩ = some (.slice y.D y.m y.d)) := fun W' hb =>
      ⟨(HX.out.below H4.out hBB).below hb (Nat.le_trans hBB H4.out.size), (HY.out.below H4.out hBB).below hb (Nat.le_trans hBB H4.out.size), Nat.le_trans (Nat.le_trans hBB H4.out.size) hb.size,
        (hb.cell (p := ⟨w.heap.size, 0, none⟩) (show w.heap.size < w4.heap.size by have := L4; omega)).trans e4, (hb.cell (p := ⟨w.heap.size, 1, none⟩) (show w.heap.size < w4.heap.size by have := L4; omega)).trans f4, (hb.cell (p := ⟨w.heap.size + 1, 0, none⟩) L4).trans g4, (hb.cell (p := ⟨w.heap.size + 1, 1, none⟩) L4).trans k4⟩
    have HW := Lib.hid hXW
    clear hXW
    have HXF := Lib.hid (show ∀ z : Sd, z = x ∨ z = y → Form z.l z.ss from fun z hz => by rcases hz with rfl | rfl; exact HF.out; exact HG.out)
    go_wp2
    go_region_held3 (fun W' => W'.cell? ⟨w.heap.size, 0, none⟩ = some (.slice x.A x.n x.c) ∧ W'.cell? ⟨w.heap.size, 1, none⟩ = some (.slice x.D x.m x.d) ∧ W'.cell? ⟨w.heap.size + 1, 0, none⟩ = some (.slice y.A y.n y.c) ∧ W'.cell? ⟨w.heap.size + 1, 1, none⟩ = some (.slice y.D y.m y.d))
      ((refine (HW.out _ ?_).2.2.2; repeat (first | exact HZ.out | exact Below.refl _ _ | (with_reducible refine bdrew ?_))))
      (first
        | (go_at_call 136
           refine (of_any _ true BB _ (by first | exact (HW.out _ (by repeat (first | exact HZ.out | exact Below.refl _ _ | (with_reducible refine bdrew ?_)))).1 | exact (HW.out _ (by repeat (first | exact HZ.out | exact Below.refl _ _ | (with_reducible refine bdrew ?_)))).2.1) (HW.out _ (by repeat (first | exact HZ.out | exact Below.refl _ _ | (with_reducible refine bdrew ?_)))).2.2.1 (HXF.out _ (by first | exact .inl rfl | exact .inr rfl))).mono ?_
           rintro e wz ⟨X1, C1, rfl, ho, hb⟩
           have HZ : Hid (Below w4.heap.size w4 wz) := Lib.hid (by first | exact HZ.out.trans (hb.mono HZ.out.size) | exact Below.trans (by repeat (first | exact HZ.out | exact Below.refl _ _ | (with_reducible refine bdrew ?_))) (hb.mono (by first | exact Nat.le_refl _ | exact HZ.out.size)))
           first
             | (have HOX : Hid (Rd wz 0 wz.heap.size 3 X1 (onlyF true (tailF x.l x.ss)).length (phs (onlyF true (tailF x.l x.ss)))) := Lib.hid ((own_rd ho).more (Nat.zero_le _) (Nat.le_refl _)))
             | (have HOY : Hid (Rd wz 0 wz.heap.size 3 X1 (onlyF true (tailF y.l y.ss)).length (phs (onlyF true (tailF y.l y.ss)))) := Lib.hid ((own_rd ho).more (Nat.zero_le _) (Nat.le_refl _))
                have HOX := Lib.hid (HOX.out.up (hb.mono (by simp)) (by first | exact hb.size)))
           clear ho hb)
        | (go_at_call 49
           refine (equalH_any _ _ _ _ _ _ _ _ _ _ (onlyF true (tailF x.l x.ss)) (onlyF true (tailF y.l y.ss)) _ HOX.out HOY.out (only_max true HF.out) (only_max true HG.out) (by first | exact Nat.le_refl _) (by first | exact Nat.le_refl _)).mono ?_
           rintro e wz ⟨rfl, hb⟩
           have HZ : Hid (Below w4.heap.size w4 wz) := Lib.hid (HZ.out.trans (hb.mono HZ.out.size))
           clear hb HOX HOY))
    refine exit_abs (fun wx => Below w4.heap.size w4 wx) HZ.out ?_
    clear HZ
    intro w5 hb
    have e5 := (hb.cell (p := ⟨w.heap.size, 0, none⟩) (show w.heap.size < w4.heap.size by have := L4; omega)).trans e4
    have f5 := (hb.cell (p := ⟨w.heap.size, 1, none⟩) (show w.heap.size < w4.heap.size by have := L4; omega)).trans f4
    have g5 := (hb.cell (p := ⟨w.heap.size + 1, 0, none⟩) L4).trans g4
    have k5 := (hb.cell (p := ⟨w.heap.size + 1, 1, none⟩) L4).trans k4
    have L5 := Nat.lt_of_lt_of_le L4 hb.size
    have H5 := Lib.hid (H4.out.trans (hb.mono H4.out.size))
    have J5 := Lib.hid (J4.out.trans (hb.mono J4.out.size))
    clear hb e4 f4 g4 k4
    by_cases hv : onlyF true (tailF x.l x.ss) = onlyF true (tailF y.l y.ss)
    · rw [decide_eq_true hv]
      have HV := Lib.hid (show kindF x.l y.l (tailF x.l x.ss) (tailF y.l y.ss) (headF x.l x.ss) (headF y.l y.ss) = 2 by unfold kindF; rw [if_neg HN.out, if_pos hv])
      clear hv
      go_wp2
      go_ret2
      exact ⟨by rw [HV.out]; rfl, H5.out⟩
    rw [decide_eq_false hv]
    have HU := Lib.hid hv
    clear hv
    by_cases hc : (onlyF false (tailF x.l x.ss)).length = 0
    · have HV := Lib.hid (show kindF x.l y.l (tailF x.l x.ss) (tailF y.l y.ss) (headF x.l x.ss) (headF y.l y.ss) = 0 by unfold kindF; rw [if_neg HN.out, if_neg HU.out, if_neg (by omega)])
      rw [hc]
      go_wp2
      go_ret2
      exact ⟨by rw [HV.out]; rfl, H5.out⟩
    obtain ⟨nc, hnc⟩ : ∃ nc, nc = (onlyF false (tailF x.l x.ss)).length := ⟨_, rfl⟩
    rw [← hnc]
    have d1 : decide ((0 : Int) < (nc : Int)) = true := by simp; omega
    have d2 : (0 : Int) < (nc : Int) := by omega
    have HC := Lib.hid (And.intro hc hnc)
    clear hc hnc
    go_wp2_with fail
    refine (of_any y false BB w5 (HY.out.below H5.out hBB) (Nat.le_trans hBB H5.out.size) HG.out).mono ?_
    rintro e w6 ⟨P4, D4, rfl, ho, hb⟩
    have e6 := (hb.cell (p := ⟨w.heap.size, 0, none⟩) (show w.heap.size < w5.heap.size by have := L5; omega)).trans e5
    have f6 := (hb.cell (p := ⟨w.heap.size, 1, none⟩) (show w.heap.size < w5.heap.size by have := L5; omega)).trans f5
    have g6 := (hb.cell (p := ⟨w.heap.size + 1, 0, none⟩) L5).trans g5
    have k6 := (hb.cell (p := ⟨w.heap.size + 1, 1, none⟩) L5).trans k5
    have L6 := Nat.lt_of_lt_of_le L5 hb.size
    have H6 := Lib.hid (H5.out.trans (hb.mono H5.out.size))
    have J6 := Lib.hid (J5.out.trans (hb.mono J5.out.size))
    have HO4 := Lib.hid ho
    clear ho
    clear hb e5 f5 g5 k5
    have HIJ := J6.out
    rw [HC.out.2]
    go_wp2_with fail
    refine (equalH_any KA P4 _ _ _ _ _ _ _ _ (onlyF false (tailF x.l x.ss)) (onlyF false (tailF y.l y.ss)) w6 ((own_rd HO.out).below HIJ (Nat.le_refl _)) (own_rd HO4.out) (only_max false HF.out) (only_max false HG.out) HIJ.size (Nat.le_refl _)).mono ?_
    rintro e w7 ⟨rfl, hb⟩
    have e7 := (hb.cell (p := ⟨w.heap.size, 0, none⟩) (show w.heap.size < w6.heap.size by have := L6; omega)).trans e6
    have f7 := (hb.cell (p := ⟨w.heap.size, 1, none⟩) (show w.heap.size < w6.heap.size by have := L6; omega)).trans f6
    have g7 := (hb.cell (p := ⟨w.heap.size + 1, 0, none⟩) L6).trans g6
    have k7 := (hb.cell (p := ⟨w.heap.size + 1, 1, none⟩) L6).trans k6
    have L7 := Nat.lt_of_lt_of_le L6 hb.size
    have H7 := Lib.hid (H6.out.trans (hb.mono H6.out.size))
    have J7 := Lib.hid (J6.out.trans (hb.mono J6.out.size))
    clear HIJ
    clear hb e6 f6 g6 k6
    by_cases hv : onlyF false (tailF x.l x.ss) = onlyF false (tailF y.l y.ss)
    · rw [decide_eq_true hv]
      have HV := Lib.hid (show kindF x.l y.l (tailF x.l x.ss) (tailF y.l y.ss) (headF x.l x.ss) (headF y.l y.ss) = 1 by unfold kindF; rw [if_neg HN.out, if_neg HU.out, if_pos ⟨Nat.pos_of_ne_zero HC.out.1, hv⟩])
      clear hv
      go_wp2
      go_ret2
      exact ⟨by rw [HV.out]; rfl, H7.out⟩
    · rw [decide_eq_false hv]
      have HV := Lib.hid (show kindF x.l y.l (tailF x.l x.ss) (tailF y.l y.ss) (headF x.l x.ss) (headF y.l y.ss) = 0 by unfold kindF; rw [if_neg HN.out, if_neg HU.out, if_neg (fun h => hv h.2)])
      clear hv
      go_wp2
      go_ret2
      exact ⟨by rw [HV.out]; rfl, H7.out⟩
end Go.Proofs.Ytogofchpocoebaa
