/- RhymeKinds: the law walked. -/
import Derived.Test.YtogofchpocoebaaV4
import Derived.Test.YtogofchpocoebaaV5
namespace Go.Proofs.Ytogofchpocoebaa
open Go.RowKit Go.Maps

set_option maxHeartbeats 4000000 in
set_option maxRecDepth 100000 in
theorem rhymeKinds_bad (x y : Sd) (BB : Nat) (w : World) (hx : SdIn w BB x) (hy : SdIn w BB y) (hBB : BB ≤ w.heap.size) (hm : (mayB x && mayB y) = false) :
    Calls Try.prog 17 #[.agg #[.slice x.A x.n x.c, .slice x.D x.m x.d], .agg #[.slice y.A y.n y.c, .slice y.D y.m y.d]] w fun e w' => e = .returned (.bool true) ∧ Below w.heap.size w w' := by
  have HX := Lib.hid hx
  have HY := Lib.hid hy
  clear hx hy
  have HM := Lib.hid hm
  clear hm
  go_enter Try.func17, Try.ntmps17
  go_upto_region 1 with (fail)
  refine wp_abs (fun wx => Below w.heap.size w wx ∧ Blk wx w.heap.size 25 #[.slice x.A x.n x.c, .slice x.D x.m x.d] ∧ Blk wx (w.heap.size + 1) 25 #[.slice y.A y.n y.c, .slice y.D y.m y.d]) ⟨((Below.refl _ _).alloc (Nat.le_refl _) _).alloc (by simp) _, (Blk.new _ _ _).alloc _, blk_new_eq (by simp)⟩ ?_
  rintro w1 ⟨hb, hB1, hB2⟩
  have e1 : w1.cell? ⟨w.heap.size, 0, none⟩ = some (.slice x.A x.n x.c) := hB1.cell 0
  have f1 : w1.cell? ⟨w.heap.size, 1, none⟩ = some (.slice x.D x.m x.d) := hB1.cell 1
  have g1 : w1.cell? ⟨w.heap.size + 1, 0, none⟩ = some (.slice y.A y.n y.c) := hB2.cell 0
  have k1 : w1.cell? ⟨w.heap.size + 1, 1, none⟩ = some (.slice y.D y.m y.d) := hB2.cell 1
  have L1 : w.heap.size + 1 < w1.heap.size := hB2.lt
  have H1 := Lib.hid hb
  clear hb hB1 hB2
  go_wp2_with fail
  refine (wakes15_any w1).mono ?_
  rintro e w2 ⟨rfl, hb⟩
  have e2 := (hb.cell (p := ⟨w.heap.size, 0, none⟩) (show w.heap.size < w1.heap.size by have := L1; omega)).trans e1
  have f2 := (hb.cell (p := ⟨w.heap.size, 1, none⟩) (show w.heap.size < w1.heap.size by have := L1; omega)).trans f1
  have g2 := (hb.cell (p := ⟨w.heap.size + 1, 0, none⟩) L1).trans g1
  have k2 := (hb.cell (p := ⟨w.heap.size + 1, 1, none⟩) L1).trans k1
  have L2 := Nat.lt_of_lt_of_le L1 hb.size
  have H2 := Lib.hid (H1.out.trans (hb.mono H1.out.size))
  clear hb e1 f1 g1 k1
  go_wp2_with fail
  refine (kind_bad x y BB w2 (HX.out.below H2.out hBB) (HY.out.below H2.out hBB) (Nat.le_trans hBB H2.out.size) HM.out).mono ?_
  rintro e w3 ⟨rfl, hb⟩
  have e3 := (hb.cell (p := ⟨w.heap.size, 0, none⟩) (show w.heap.size < w2.heap.size by have := L2; omega)).trans e2
  have f3 := (hb.cell (p := ⟨w.heap.size, 1, none⟩) (show w.heap.size < w2.heap.size by have := L2; omega)).trans f2
  have g3 := (hb.cell (p := ⟨w.heap.size + 1, 0, none⟩) L2).trans g2
  have k3 := (hb.cell (p := ⟨w.heap.size + 1, 1, none⟩) L2).trans k2
  have L3 := Nat.lt_of_lt_of_le L2 hb.size
  have H3 := Lib.hid (H2.out.trans (hb.mono H2.out.size))
  clear hb e2 f2 g2 k2
  go_wp2_with fail
  refine (allit_bad x y BB w3 (HX.out.below H3.out hBB) (HY.out.below H3.out hBB) (Nat.le_trans hBB H3.out.size) HM.out).mono ?_
  rintro e w4 ⟨rfl, hb⟩
  have e4 := (hb.cell (p := ⟨w.heap.size, 0, none⟩) (show w.heap.size < w3.heap.size by have := L3; omega)).trans e3
  have f4 := (hb.cell (p := ⟨w.heap.size, 1, none⟩) (show w.heap.size < w3.heap.size by have := L3; omega)).trans f3
  have g4 := (hb.cell (p := ⟨w.heap.size + 1, 0, none⟩) L3).trans g3
  have k4 := (hb.cell (p := ⟨w.heap.size + 1, 1, none⟩) L3).trans k3
  have L4 := Nat.lt_of_lt_of_le L3 hb.size
  have H4 := Lib.hid (H3.out.trans (hb.mono H3.out.size))
  clear hb e3 f3 g3 k3
  go_wp2_with fail
  refine (near_bad x y BB w4 (HX.out.below H4.out hBB) (HY.out.below H4.out hBB) (Nat.le_trans hBB H4.out.size) HM.out).mono ?_
  rintro e w5 ⟨rfl, hb⟩
  have e5 := (hb.cell (p := ⟨w.heap.size, 0, none⟩) (show w.heap.size < w4.heap.size by have := L4; omega)).trans e4
  have f5 := (hb.cell (p := ⟨w.heap.size, 1, none⟩) (show w.heap.size < w4.heap.size by have := L4; omega)).trans f4
  have g5 := (hb.cell (p := ⟨w.heap.size + 1, 0, none⟩) L4).trans g4
  have k5 := (hb.cell (p := ⟨w.heap.size + 1, 1, none⟩) L4).trans k4
  have L5 := Nat.lt_of_lt_of_le L4 hb.size
  have H5 := Lib.hid (H4.out.trans (hb.mono H4.out.size))
  clear hb e4 f4 g4 k4
  go_wp2_with fail
  refine (refMayR_any x BB w5 (HX.out.below H5.out hBB) (Nat.le_trans hBB H5.out.size)).mono ?_
  rintro e w6 ⟨rfl, hb⟩
  have e6 := (hb.cell (p := ⟨w.heap.size, 0, none⟩) (show w.heap.size < w5.heap.size by have := L5; omega)).trans e5
  have f6 := (hb.cell (p := ⟨w.heap.size, 1, none⟩) (show w.heap.size < w5.heap.size by have := L5; omega)).trans f5
  have g6 := (hb.cell (p := ⟨w.heap.size + 1, 0, none⟩) L5).trans g5
  have k6 := (hb.cell (p := ⟨w.heap.size + 1, 1, none⟩) L5).trans k5
  have L6 := Nat.lt_of_lt_of_le L5 hb.size
  have H6 := Lib.hid (H5.out.trans (hb.mono H5.out.size))
  clear hb e5 f5 g5 k5
  cases hX : mayB x with
  | false =>
    go_wp2
    go_ret
    exact ⟨rfl, H6.out⟩
  | true =>
    have hY : mayB y = false := by have := HM.out; rw [hX] at this; simpa using this
    go_wp2_with fail
    refine (refMayR_any y BB w6 (HY.out.below H6.out hBB) (Nat.le_trans hBB H6.out.size)).mono ?_
    rintro e w7 ⟨rfl, hb⟩
    have e7 := (hb.cell (p := ⟨w.heap.size, 0, none⟩) (show w.heap.size < w6.heap.size by have := L6; omega)).trans e6
    have f7 := (hb.cell (p := ⟨w.heap.size, 1, none⟩) (show w.heap.size < w6.heap.size by have := L6; omega)).trans f6
    have g7 := (hb.cell (p := ⟨w.heap.size + 1, 0, none⟩) L6).trans g6
    have k7 := (hb.cell (p := ⟨w.heap.size + 1, 1, none⟩) L6).trans k6
    have L7 := Nat.lt_of_lt_of_le L6 hb.size
    have H7 := Lib.hid (H6.out.trans (hb.mono H6.out.size))
    clear hb e6 f6 g6 k6
    rw [hY]
    go_wp2
    go_ret
    exact ⟨rfl, H7.out⟩
set_option maxHeartbeats 4000000 in
set_option maxRecDepth 100000 in
theorem rhymeKinds_ok (x y : Sd) (BB : Nat) (w : World) (hx : SdIn w BB x) (hy : SdIn w BB y) (hBB : BB ≤ w.heap.size) (hm : mayB x = true ∧ mayB y = true) :
    Calls Try.prog 17 #[.agg #[.slice x.A x.n x.c, .slice x.D x.m x.d], .agg #[.slice y.A y.n y.c, .slice y.D y.m y.d]] w fun e w' => e = .returned (.bool true) ∧ Below w.heap.size w w' := by
  have HX := Lib.hid hx
  have HY := Lib.hid hy
  clear hx hy
  have HF := Lib.hid (form_of (by have := hm.1; unfold mayB at this; exact eq_of_beq this))
  have HG := Lib.hid (form_of (by have := hm.2; unfold mayB at this; exact eq_of_beq this))
  have HM := Lib.hid hm
  clear hm
  go_enter Try.func17, Try.ntmps17
  go_upto_region 1 with (fail)
  refine wp_abs (fun wx => Below w.heap.size w wx ∧ Blk wx w.heap.size 25 #[.slice x.A x.n x.c, .slice x.D x.m x.d] ∧ Blk wx (w.heap.size + 1) 25 #[.slice y.A y.n y.c, .slice y.D y.m y.d]) ⟨((Below.refl _ _).alloc (Nat.le_refl _) _).alloc (by simp) _, (Blk.new _ _ _).alloc _, blk_new_eq (by simp)⟩ ?_
  rintro w1 ⟨hb, hB1, hB2⟩
  have e1 : w1.cell? ⟨w.heap.size, 0, none⟩ = some (.slice x.A x.n x.c) := hB1.cell 0
  have f1 : w1.cell? ⟨w.heap.size, 1, none⟩ = some (.slice x.D x.m x.d) := hB1.cell 1
  have g1 : w1.cell? ⟨w.heap.size + 1, 0, none⟩ = some (.slice y.A y.n y.c) := hB2.cell 0
  have k1 : w1.cell? ⟨w.heap.size + 1, 1, none⟩ = some (.slice y.D y.m y.d) := hB2.cell 1
  have L1 : w.heap.size + 1 < w1.heap.size := hB2.lt
  have H1 := Lib.hid hb
  clear hb hB1 hB2
  go_wp2_with fail
  refine (wakes15_any w1).mono ?_
  rintro e w2 ⟨rfl, hb⟩
  have e2 := (hb.cell (p := ⟨w.heap.size, 0, none⟩) (show w.heap.size < w1.heap.size by have := L1; omega)).trans e1
  have f2 := (hb.cell (p := ⟨w.heap.size, 1, none⟩) (show w.heap.size < w1.heap.size by have := L1; omega)).trans f1
  have g2 := (hb.cell (p := ⟨w.heap.size + 1, 0, none⟩) L1).trans g1
  have k2 := (hb.cell (p := ⟨w.heap.size + 1, 1, none⟩) L1).trans k1
  have L2 := Nat.lt_of_lt_of_le L1 hb.size
  have H2 := Lib.hid (H1.out.trans (hb.mono H1.out.size))
  clear hb e1 f1 g1 k1
  go_wp2_with fail
  refine (kind_ok x y BB w2 (HX.out.below H2.out hBB) (HY.out.below H2.out hBB) (Nat.le_trans hBB H2.out.size) HM.out).mono ?_
  rintro e w3 ⟨rfl, hb⟩
  have e3 := (hb.cell (p := ⟨w.heap.size, 0, none⟩) (show w.heap.size < w2.heap.size by have := L2; omega)).trans e2
  have f3 := (hb.cell (p := ⟨w.heap.size, 1, none⟩) (show w.heap.size < w2.heap.size by have := L2; omega)).trans f2
  have g3 := (hb.cell (p := ⟨w.heap.size + 1, 0, none⟩) L2).trans g2
  have k3 := (hb.cell (p := ⟨w.heap.size + 1, 1, none⟩) L2).trans k2
  have L3 := Nat.lt_of_lt_of_le L2 hb.size
  have H3 := Lib.hid (H2.out.trans (hb.mono H2.out.size))
  clear hb e2 f2 g2 k2
  go_wp2_with fail
  refine (allit_ok x y BB w3 (HX.out.below H3.out hBB) (HY.out.below H3.out hBB) (Nat.le_trans hBB H3.out.size) HM.out).mono ?_
  rintro e w4 ⟨rfl, hb⟩
  have e4 := (hb.cell (p := ⟨w.heap.size, 0, none⟩) (show w.heap.size < w3.heap.size by have := L3; omega)).trans e3
  have f4 := (hb.cell (p := ⟨w.heap.size, 1, none⟩) (show w.heap.size < w3.heap.size by have := L3; omega)).trans f3
  have g4 := (hb.cell (p := ⟨w.heap.size + 1, 0, none⟩) L3).trans g3
  have k4 := (hb.cell (p := ⟨w.heap.size + 1, 1, none⟩) L3).trans k3
  have L4 := Nat.lt_of_lt_of_le L3 hb.size
  have H4 := Lib.hid (H3.out.trans (hb.mono H3.out.size))
  clear hb e3 f3 g3 k3
  go_wp2_with fail
  refine (near_ok x y BB w4 (HX.out.below H4.out hBB) (HY.out.below H4.out hBB) (Nat.le_trans hBB H4.out.size) HM.out).mono ?_
  rintro e w5 ⟨rfl, hb⟩
  have e5 := (hb.cell (p := ⟨w.heap.size, 0, none⟩) (show w.heap.size < w4.heap.size by have := L4; omega)).trans e4
  have f5 := (hb.cell (p := ⟨w.heap.size, 1, none⟩) (show w.heap.size < w4.heap.size by have := L4; omega)).trans f4
  have g5 := (hb.cell (p := ⟨w.heap.size + 1, 0, none⟩) L4).trans g4
  have k5 := (hb.cell (p := ⟨w.heap.size + 1, 1, none⟩) L4).trans k4
  have L5 := Nat.lt_of_lt_of_le L4 hb.size
  have H5 := Lib.hid (H4.out.trans (hb.mono H4.out.size))
  clear hb e4 f4 g4 k4
  obtain ⟨K, hK⟩ : ∃ K, K = kindF x.l y.l (tailF x.l x.ss) (tailF y.l y.ss) (headF x.l x.ss) (headF y.l y.ss) := ⟨_, rfl⟩
  have hK2 : kindF y.l x.l (tailF y.l y.ss) (tailF x.l x.ss) (headF y.l y.ss) (headF x.l x.ss) = K := by rw [kind_comm]; exact hK.symm
  have HK := Lib.hid (And.intro hK hK2)
  rw [← hK]
  clear hK hK2
  go_wp2_with fail
  refine (refMayR_any x BB w5 (HX.out.below H5.out hBB) (Nat.le_trans hBB H5.out.size)).mono ?_
  rintro e w6 ⟨rfl, hb⟩
  have e6 := (hb.cell (p := ⟨w.heap.size, 0, none⟩) (show w.heap.size < w5.heap.size by have := L5; omega)).trans e5
  have f6 := (hb.cell (p := ⟨w.heap.size, 1, none⟩) (show w.heap.size < w5.heap.size by have := L5; omega)).trans f5
  have g6 := (hb.cell (p := ⟨w.heap.size + 1, 0, none⟩) L5).trans g5
  have k6 := (hb.cell (p := ⟨w.heap.size + 1, 1, none⟩) L5).trans k5
  have L6 := Nat.lt_of_lt_of_le L5 hb.size
  have H6 := Lib.hid (H5.out.trans (hb.mono H5.out.size))
  clear hb e5 f5 g5 k5
  rw [HM.out.1]
  go_wp2_with fail
  refine (refMayR_any y BB w6 (HY.out.below H6.out hBB) (Nat.le_trans hBB H6.out.size)).mono ?_
  rintro e w7 ⟨rfl, hb⟩
  have e7 := (hb.cell (p := ⟨w.heap.size, 0, none⟩) (show w.heap.size < w6.heap.size by have := L6; omega)).trans e6
  have f7 := (hb.cell (p := ⟨w.heap.size, 1, none⟩) (show w.heap.size < w6.heap.size by have := L6; omega)).trans f6
  have g7 := (hb.cell (p := ⟨w.heap.size + 1, 0, none⟩) L6).trans g6
  have k7 := (hb.cell (p := ⟨w.heap.size + 1, 1, none⟩) L6).trans k6
  have L7 := Nat.lt_of_lt_of_le L6 hb.size
  have H7 := Lib.hid (H6.out.trans (hb.mono H6.out.size))
  clear hb e6 f6 g6 k6
  rw [HM.out.2]
  go_wp2
  have Ye := e7
  have Yf := f7
  have Yg := g7
  have Yk := k7
  have Xe := Bel.cell e7
  have Xf := Bel.cell f7
  have Xg := Bel.cell g7
  have Xk := Bel.cell k7
  clear e7 f7 g7 k7
  have wf : ∀ k, Fence.wide.fn k := fun _ => trivial
  have wd : Fence.wide.depth = none := rfl
  refine wp_bel (by kernel_rfl) (by kernel_rfl) ?_
  repeat (gi_big_quiet_step (fail))
  gi_big_quiet_want
  gi_big_quiet_op
  refine ⟨.slice (headA x) (headF x.l x.ss).length (headC x), fun z => ?_, ?_⟩
  · exact callsIn_wide.2 ((refHead_det x BB z.1 ((HX.out.below H7.out hBB).below z.2 (Nat.le_trans hBB H7.out.size)) (Nat.le_trans (Nat.le_trans hBB H7.out.size) z.2.size) HF.out).mono (fun e w' h => ⟨h.1, z.next h.2⟩))
  go_big_quiet_on
  repeat (gi_big_quiet_step (fail))
  gi_big_quiet_want
  gi_big_quiet_op
  refine ⟨.slice (headA y) (headF y.l y.ss).length (headC y), fun z => ?_, ?_⟩
  · exact callsIn_wide.2 ((refHead_det y BB z.1 ((HY.out.below H7.out hBB).below z.2 (Nat.le_trans hBB H7.out.size)) (Nat.le_trans (Nat.le_trans hBB H7.out.size) z.2.size) HG.out).mono (fun e w' h => ⟨h.1, z.next h.2⟩))
  go_big_quiet_on
  repeat (gi_big_quiet_step (fail))
  refine wpQuietIn_nil ?_
  intro _ hw'
  obtain ⟨zW, hw''⟩ := hw'
  subst hw''
  have hb : Below w7.heap.size w7 zW.1 := zW.2
  generalize zW.1 = w8 at *
  clear Xe Xf Xg Xk wf wd
  have e7 := Ye
  have f7 := Yf
  have g7 := Yg
  have k7 := Yk
  clear Ye Yf Yg Yk
  have e8 := (hb.cell (p := ⟨w.heap.size, 0, none⟩) (show w.heap.size < w7.heap.size by have := L7; omega)).trans e7
  have f8 := (hb.cell (p := ⟨w.heap.size, 1, none⟩) (show w.heap.size < w7.heap.size by have := L7; omega)).trans f7
  have g8 := (hb.cell (p := ⟨w.heap.size + 1, 0, none⟩) L7).trans g7
  have k8 := (hb.cell (p := ⟨w.heap.size + 1, 1, none⟩) L7).trans k7
  have L8 := Nat.lt_of_lt_of_le L7 hb.size
  have H8 := Lib.hid (H7.out.trans (hb.mono H7.out.size))
  clear hb e7 f7 g7 k7
  have hRx := (head_rd (HX.out.below H8.out hBB) HF.out).1
  have hRy := (head_rd (HY.out.below H8.out hBB) HG.out).1
  obtain ⟨n1, hn1⟩ : ∃ k, k = (headF x.l x.ss).length := ⟨_, rfl⟩
  obtain ⟨n2, hn2⟩ : ∃ k, k = (headF y.l y.ss).length := ⟨_, rfl⟩
  have h1 : n1 ≤ 128 := by have := (form_parts HF.out).2.2.2; omega
  have h2 : n2 ≤ 128 := by have := (form_parts HG.out).2.2.2; omega
  rw [← hn1, ← hn2]
  rw [← hn1] at hRx
  rw [← hn2] at hRy
  have hcs : (n1 = 0 ∧ allitF x y = false) ∨ (0 < n1 ∧ n2 = 0 ∧ allitF x y = false) ∨ (0 < n1 ∧ 0 < n2 ∧ ∃ p q : Ph, (∃ b o, headA x = some ⟨b, o, none⟩ ∧ w8.cell? ⟨b, o, none⟩ = some (.int .i32 p.1) ∧ w8.cell? ⟨b, o + 1, none⟩ = some (.bool p.2.1) ∧ w8.cell? ⟨b, o + 2, none⟩ = some (.int .i32 p.2.2)) ∧
      (∃ b o, headA y = some ⟨b, o, none⟩ ∧ w8.cell? ⟨b, o, none⟩ = some (.int .i32 q.1) ∧ w8.cell? ⟨b, o + 1, none⟩ = some (.bool q.2.1) ∧ w8.cell? ⟨b, o + 2, none⟩ = some (.int .i32 q.2.2)) ∧ allitF x y = decide (p = q)) := by
    rcases allit_cases x y with ⟨hx0, ha⟩ | ⟨p, r, hx1, hy0, ha⟩ | ⟨p, r, q, t, hx1, hy1, ha⟩
    · exact .inl ⟨by rw [hn1, hx0]; rfl, ha⟩
    · exact .inr (.inl ⟨by rw [hn1, hx1]; simp, by rw [hn2, hy0]; rfl, ha⟩)
    · have z1 : 0 < n1 := by rw [hn1, hx1]; simp
      have z2 : 0 < n2 := by rw [hn2, hy1]; simp
      obtain ⟨b1, o1, hl1, a1, _, _, p0, p1, p2⟩ := hRx.ph (k := 0) z1
      obtain ⟨b2, o2, hl2, a2, _, _, q0, q1, q2⟩ := hRy.ph (k := 0) z2
      have ep : (headF x.l x.ss)[0] = p := by simp [hx1]
      have eq : (headF y.l y.ss)[0] = q := by simp [hy1]
      rw [ep, Nat.zero_mul, Nat.add_zero] at p0 p1 p2
      rw [eq, Nat.zero_mul, Nat.add_zero] at q0 q1 q2
      exact .inr (.inr ⟨z1, z2, p, q, ⟨b1, o1, a1, p0, p1, p2⟩, ⟨b2, o2, a2, q0, q1, q2⟩, ha⟩)
  clear hRx hRy hn1 hn2
  have ways : ∃ (g : Bool), Hid (allitF x y = g) ∧ ((n1 = 0 ∧ g = false) ∨ (0 < n1 ∧ n2 = 0 ∧ g = false) ∨ (0 < n1 ∧ 0 < n2 ∧ ∃ p q : Ph, (∃ b o, headA x = some ⟨b, o, none⟩ ∧ w8.cell? ⟨b, o, none⟩ = some (.int .i32 p.1) ∧ w8.cell? ⟨b, o + 1, none⟩ = some (.bool p.2.1) ∧ w8.cell? ⟨b, o + 2, none⟩ = some (.int .i32 p.2.2)) ∧
      (∃ b o, headA y = some ⟨b, o, none⟩ ∧ w8.cell? ⟨b, o, none⟩ = some (.int .i32 q.1) ∧ w8.cell? ⟨b, o + 1, none⟩ = some (.bool q.2.1) ∧ w8.cell? ⟨b, o + 2, none⟩ = some (.int .i32 q.2.2)) ∧ g = decide (p = q))) := ⟨allitF x y, Lib.hid rfl, hcs⟩
  clear hcs
  obtain ⟨g, HA, hcs⟩ := ways
  rw [HA.out]
  rcases hcs with ⟨rfl, rfl⟩ | ⟨z1, rfl, rfl⟩ | ⟨z1, z2, p, q, ⟨b1, o1, a1, p0, p1, p2⟩, ⟨b2, o2, a2, q0, q1, q2⟩, hg⟩
  rotate_left 1
  · have d1 : (0 : Int) < (n1 : Int) := by omega
    have d2 : decide ((0 : Int) < (n1 : Int)) = true := by simpa using d1
    go_wp2
    go_quiet (fail)
    clear d1 d2
    refine exit_abs (fun wx => Below w8.heap.size w8 wx) (bdrawn (Below.refl _ _) _) ?_
    intro w9 hb
    have e9 := (hb.cell (p := ⟨w.heap.size, 0, none⟩) (show w.heap.size < w8.heap.size by have := L8; omega)).trans e8
    have f9 := (hb.cell (p := ⟨w.heap.size, 1, none⟩) (show w.heap.size < w8.heap.size by have := L8; omega)).trans f8
    have g9 := (hb.cell (p := ⟨w.heap.size + 1, 0, none⟩) L8).trans g8
    have k9 := (hb.cell (p := ⟨w.heap.size + 1, 1, none⟩) L8).trans k8
    have L9 := Nat.lt_of_lt_of_le L8 hb.size
    have H9 := Lib.hid (H8.out.trans (hb.mono H8.out.size))
    clear hb e8 f8 g8 k8
    go_wp2_with fail
    refine (kind_ok y x BB w9 (HY.out.below H9.out hBB) (HX.out.below H9.out hBB) (Nat.le_trans hBB H9.out.size) ⟨HM.out.2, HM.out.1⟩).mono ?_
    rintro e w10 ⟨rfl, hb⟩
    have e10 := (hb.cell (p := ⟨w.heap.size, 0, none⟩) (show w.heap.size < w9.heap.size by have := L9; omega)).trans e9
    have f10 := (hb.cell (p := ⟨w.heap.size, 1, none⟩) (show w.heap.size < w9.heap.size by have := L9; omega)).trans f9
    have g10 := (hb.cell (p := ⟨w.heap.size + 1, 0, none⟩) L9).trans g9
    have k10 := (hb.cell (p := ⟨w.heap.size + 1, 1, none⟩) L9).trans k9
    have L10 := Nat.lt_of_lt_of_le L9 hb.size
    have H10 := Lib.hid (H9.out.trans (hb.mono H9.out.size))
    clear hb e9 f9 g9 k9
    rw [HK.out.2]
    go_wp2_with fail
    refine (refKind_any x y BB w10 (HX.out.below H10.out hBB) (HY.out.below H10.out hBB) (Nat.le_trans hBB H10.out.size) HM.out).mono ?_
    rintro e w11 ⟨rfl, hb⟩
    have e11 := (hb.cell (p := ⟨w.heap.size, 0, none⟩) (show w.heap.size < w10.heap.size by have := L10; omega)).trans e10
    have f11 := (hb.cell (p := ⟨w.heap.size, 1, none⟩) (show w.heap.size < w10.heap.size by have := L10; omega)).trans f10
    have g11 := (hb.cell (p := ⟨w.heap.size + 1, 0, none⟩) L10).trans g10
    have k11 := (hb.cell (p := ⟨w.heap.size + 1, 1, none⟩) L10).trans k10
    have L11 := Nat.lt_of_lt_of_le L10 hb.size
    have H11 := Lib.hid (H10.out.trans (hb.mono H10.out.size))
    clear hb e10 f10 g10 k10
    rw [← HK.out.1]
    go_wp2_with fail
    refine (refNear_any x y BB w11 (HX.out.below H11.out hBB) (HY.out.below H11.out hBB) (Nat.le_trans hBB H11.out.size) HM.out).mono ?_
    rintro e w12 ⟨rfl, hb⟩
    have e12 := (hb.cell (p := ⟨w.heap.size, 0, none⟩) (show w.heap.size < w11.heap.size by have := L11; omega)).trans e11
    have f12 := (hb.cell (p := ⟨w.heap.size, 1, none⟩) (show w.heap.size < w11.heap.size by have := L11; omega)).trans f11
    have g12 := (hb.cell (p := ⟨w.heap.size + 1, 0, none⟩) L11).trans g11
    have k12 := (hb.cell (p := ⟨w.heap.size + 1, 1, none⟩) L11).trans k11
    have L12 := Nat.lt_of_lt_of_le L11 hb.size
    have H12 := Lib.hid (H11.out.trans (hb.mono H11.out.size))
    clear hb e11 f11 g11 k11
    go_wp2
    go_ret
    exact ⟨rfl, H12.out⟩
  · have d1 : (0 : Int) < (n1 : Int) := by omega
    have d2 : decide ((0 : Int) < (n1 : Int)) = true := by simpa using d1
    have d3 : (0 : Int) < (n2 : Int) := by omega
    have d4 : decide ((0 : Int) < (n2 : Int)) = true := by simpa using d3
    rw [a1, a2]
    obtain ⟨x1, x2, x3⟩ := p
    obtain ⟨y1, y2, y3⟩ := q
    by_cases g1 : x1 = y1
    · subst g1
      by_cases g2 : x2 = y2
      · subst g2
        by_cases g3 : x3 = y3
        · subst g3
          obtain rfl : g = true := by rw [hg]; simp
          clear hg HA
          go_wp2
          go_quiet (fail)
          clear d1 d2 d3 d4 p0 p1 p2 q0 q1 q2
          refine exit_abs (fun wx => Below w8.heap.size w8 wx) (bdrawn (Below.refl _ _) _) ?_
          intro w9 hb
          have e9 := (hb.cell (p := ⟨w.heap.size, 0, none⟩) (show w.heap.size < w8.heap.size by have := L8; omega)).trans e8
          have f9 := (hb.cell (p := ⟨w.heap.size, 1, none⟩) (show w.heap.size < w8.heap.size by have := L8; omega)).trans f8
          have g9 := (hb.cell (p := ⟨w.heap.size + 1, 0, none⟩) L8).trans g8
          have k9 := (hb.cell (p := ⟨w.heap.size + 1, 1, none⟩) L8).trans k8
          have L9 := Nat.lt_of_lt_of_le L8 hb.size
          have H9 := Lib.hid (H8.out.trans (hb.mono H8.out.size))
          clear hb e8 f8 g8 k8
          go_wp2_with fail
          refine (kind_ok y x BB w9 (HY.out.below H9.out hBB) (HX.out.below H9.out hBB) (Nat.le_trans hBB H9.out.size) ⟨HM.out.2, HM.out.1⟩).mono ?_
          rintro e w10 ⟨rfl, hb⟩
          have e10 := (hb.cell (p := ⟨w.heap.size, 0, none⟩) (show w.heap.size < w9.heap.size by have := L9; omega)).trans e9
          have f10 := (hb.cell (p := ⟨w.heap.size, 1, none⟩) (show w.heap.size < w9.heap.size by have := L9; omega)).trans f9
          have g10 := (hb.cell (p := ⟨w.heap.size + 1, 0, none⟩) L9).trans g9
          have k10 := (hb.cell (p := ⟨w.heap.size + 1, 1, none⟩) L9).trans k9
          have L10 := Nat.lt_of_lt_of_le L9 hb.size
          have H10 := Lib.hid (H9.out.trans (hb.mono H9.out.size))
          clear hb e9 f9 g9 k9
          rw [HK.out.2]
          go_wp2_with fail
          refine (refKind_any x y BB w10 (HX.out.below H10.out hBB) (HY.out.below H10.out hBB) (Nat.le_trans hBB H10.out.size) HM.out).mono ?_
          rintro e w11 ⟨rfl, hb⟩
          have e11 := (hb.cell (p := ⟨w.heap.size, 0, none⟩) (show w.heap.size < w10.heap.size by have := L10; omega)).trans e10
          have f11 := (hb.cell (p := ⟨w.heap.size, 1, none⟩) (show w.heap.size < w10.heap.size by have := L10; omega)).trans f10
          have g11 := (hb.cell (p := ⟨w.heap.size + 1, 0, none⟩) L10).trans g10
          have k11 := (hb.cell (p := ⟨w.heap.size + 1, 1, none⟩) L10).trans k10
          have L11 := Nat.lt_of_lt_of_le L10 hb.size
          have H11 := Lib.hid (H10.out.trans (hb.mono H10.out.size))
          clear hb e10 f10 g10 k10
          rw [← HK.out.1]
          go_wp2_with fail
          refine (refNear_any x y BB w11 (HX.out.below H11.out hBB) (HY.out.below H11.out hBB) (Nat.le_trans hBB H11.out.size) HM.out).mono ?_
          rintro e w12 ⟨rfl, hb⟩
          have e12 := (hb.cell (p := ⟨w.heap.size, 0, none⟩) (show w.heap.size < w11.heap.size by have := L11; omega)).trans e11
          have f12 := (hb.cell (p := ⟨w.heap.size, 1, none⟩) (show w.heap.size < w11.heap.size by have := L11; omega)).trans f11
          have g12 := (hb.cell (p := ⟨w.heap.size + 1, 0, none⟩) L11).trans g11
          have k12 := (hb.cell (p := ⟨w.heap.size + 1, 1, none⟩) L11).trans k11
          have L12 := Nat.lt_of_lt_of_le L11 hb.size
          have H12 := Lib.hid (H11.out.trans (hb.mono H11.out.size))
          clear hb e11 f11 g11 k11
          go_wp2
          go_ret
          exact ⟨rfl, H12.out⟩
        · obtain rfl : g = false := by rw [hg]; simp [g3]
          clear hg HA
          go_wp2
          go_quiet (fail)
          clear d1 d2 d3 d4 p0 p1 p2 q0 q1 q2
          refine exit_abs (fun wx => Below w8.heap.size w8 wx) (bdrawn (Below.refl _ _) _) ?_
          intro w9 hb
          have e9 := (hb.cell (p := ⟨w.heap.size, 0, none⟩) (show w.heap.size < w8.heap.size by have := L8; omega)).trans e8
          have f9 := (hb.cell (p := ⟨w.heap.size, 1, none⟩) (show w.heap.size < w8.heap.size by have := L8; omega)).trans f8
          have g9 := (hb.cell (p := ⟨w.heap.size + 1, 0, none⟩) L8).trans g8
          have k9 := (hb.cell (p := ⟨w.heap.size + 1, 1, none⟩) L8).trans k8
          have L9 := Nat.lt_of_lt_of_le L8 hb.size
          have H9 := Lib.hid (H8.out.trans (hb.mono H8.out.size))
          clear hb e8 f8 g8 k8
          go_wp2_with fail
          refine (kind_ok y x BB w9 (HY.out.below H9.out hBB) (HX.out.below H9.out hBB) (Nat.le_trans hBB H9.out.size) ⟨HM.out.2, HM.out.1⟩).mono ?_
          rintro e w10 ⟨rfl, hb⟩
          have e10 := (hb.cell (p := ⟨w.heap.size, 0, none⟩) (show w.heap.size < w9.heap.size by have := L9; omega)).trans e9
          have f10 := (hb.cell (p := ⟨w.heap.size, 1, none⟩) (show w.heap.size < w9.heap.size by have := L9; omega)).trans f9
          have g10 := (hb.cell (p := ⟨w.heap.size + 1, 0, none⟩) L9).trans g9
          have k10 := (hb.cell (p := ⟨w.heap.size + 1, 1, none⟩) L9).trans k9
          have L10 := Nat.lt_of_lt_of_le L9 hb.size
          have H10 := Lib.hid (H9.out.trans (hb.mono H9.out.size))
          clear hb e9 f9 g9 k9
          rw [HK.out.2]
          go_wp2_with fail
          refine (refKind_any x y BB w10 (HX.out.below H10.out hBB) (HY.out.below H10.out hBB) (Nat.le_trans hBB H10.out.size) HM.out).mono ?_
          rintro e w11 ⟨rfl, hb⟩
          have e11 := (hb.cell (p := ⟨w.heap.size, 0, none⟩) (show w.heap.size < w10.heap.size by have := L10; omega)).trans e10
          have f11 := (hb.cell (p := ⟨w.heap.size, 1, none⟩) (show w.heap.size < w10.heap.size by have := L10; omega)).trans f10
          have g11 := (hb.cell (p := ⟨w.heap.size + 1, 0, none⟩) L10).trans g10
          have k11 := (hb.cell (p := ⟨w.heap.size + 1, 1, none⟩) L10).trans k10
          have L11 := Nat.lt_of_lt_of_le L10 hb.size
          have H11 := Lib.hid (H10.out.trans (hb.mono H10.out.size))
          clear hb e10 f10 g10 k10
          rw [← HK.out.1]
          go_wp2_with fail
          refine (refNear_any x y BB w11 (HX.out.below H11.out hBB) (HY.out.below H11.out hBB) (Nat.le_trans hBB H11.out.size) HM.out).mono ?_
          rintro e w12 ⟨rfl, hb⟩
          have e12 := (hb.cell (p := ⟨w.heap.size, 0, none⟩) (show w.heap.size < w11.heap.size by have := L11; omega)).trans e11
          have f12 := (hb.cell (p := ⟨w.heap.size, 1, none⟩) (show w.heap.size < w11.heap.size by have := L11; omega)).trans f11
          have g12 := (hb.cell (p := ⟨w.heap.size + 1, 0, none⟩) L11).trans g11
          have k12 := (hb.cell (p := ⟨w.heap.size + 1, 1, none⟩) L11).trans k11
          have L12 := Nat.lt_of_lt_of_le L11 hb.size
          have H12 := Lib.hid (H11.out.trans (hb.mono H11.out.size))
          clear hb e11 f11 g11 k11
          go_wp2
          go_ret
          exact ⟨rfl, H12.out⟩
      · obtain rfl : g = false := by rw [hg]; simp [g2]
        clear hg HA
        go_wp2
        go_quiet (fail)
        clear d1 d2 d3 d4 p0 p1 p2 q0 q1 q2
        refine exit_abs (fun wx => Below w8.heap.size w8 wx) (bdrawn (Below.refl _ _) _) ?_
        intro w9 hb
        have e9 := (hb.cell (p := ⟨w.heap.size, 0, none⟩) (show w.heap.size < w8.heap.size by have := L8; omega)).trans e8
        have f9 := (hb.cell (p := ⟨w.heap.size, 1, none⟩) (show w.heap.size < w8.heap.size by have := L8; omega)).trans f8
        have g9 := (hb.cell (p := ⟨w.heap.size + 1, 0, none⟩) L8).trans g8
        have k9 := (hb.cell (p := ⟨w.heap.size + 1, 1, none⟩) L8).trans k8
        have L9 := Nat.lt_of_lt_of_le L8 hb.size
        have H9 := Lib.hid (H8.out.trans (hb.mono H8.out.size))
        clear hb e8 f8 g8 k8
        go_wp2_with fail
        refine (kind_ok y x BB w9 (HY.out.below H9.out hBB) (HX.out.below H9.out hBB) (Nat.le_trans hBB H9.out.size) ⟨HM.out.2, HM.out.1⟩).mono ?_
        rintro e w10 ⟨rfl, hb⟩
        have e10 := (hb.cell (p := ⟨w.heap.size, 0, none⟩) (show w.heap.size < w9.heap.size by have := L9; omega)).trans e9
        have f10 := (hb.cell (p := ⟨w.heap.size, 1, none⟩) (show w.heap.size < w9.heap.size by have := L9; omega)).trans f9
        have g10 := (hb.cell (p := ⟨w.heap.size + 1, 0, none⟩) L9).trans g9
        have k10 := (hb.cell (p := ⟨w.heap.size + 1, 1, none⟩) L9).trans k9
        have L10 := Nat.lt_of_lt_of_le L9 hb.size
        have H10 := Lib.hid (H9.out.trans (hb.mono H9.out.size))
        clear hb e9 f9 g9 k9
        rw [HK.out.2]
        go_wp2_with fail
        refine (refKind_any x y BB w10 (HX.out.below H10.out hBB) (HY.out.below H10.out hBB) (Nat.le_trans hBB H10.out.size) HM.out).mono ?_
        rintro e w11 ⟨rfl, hb⟩
        have e11 := (hb.cell (p := ⟨w.heap.size, 0, none⟩) (show w.heap.size < w10.heap.size by have := L10; omega)).trans e10
        have f11 := (hb.cell (p := ⟨w.heap.size, 1, none⟩) (show w.heap.size < w10.heap.size by have := L10; omega)).trans f10
        have g11 := (hb.cell (p := ⟨w.heap.size + 1, 0, none⟩) L10).trans g10
        have k11 := (hb.cell (p := ⟨w.heap.size + 1, 1, none⟩) L10).trans k10
        have L11 := Nat.lt_of_lt_of_le L10 hb.size
        have H11 := Lib.hid (H10.out.trans (hb.mono H10.out.size))
        clear hb e10 f10 g10 k10
        rw [← HK.out.1]
        go_wp2_with fail
        refine (refNear_any x y BB w11 (HX.out.below H11.out hBB) (HY.out.below H11.out hBB) (Nat.le_trans hBB H11.out.size) HM.out).mono ?_
        rintro e w12 ⟨rfl, hb⟩
        have e12 := (hb.cell (p := ⟨w.heap.size, 0, none⟩) (show w.heap.size < w11.heap.size by have := L11; omega)).trans e11
        have f12 := (hb.cell (p := ⟨w.heap.size, 1, none⟩) (show w.heap.size < w11.heap.size by have := L11; omega)).trans f11
        have g12 := (hb.cell (p := ⟨w.heap.size + 1, 0, none⟩) L11).trans g11
        have k12 := (hb.cell (p := ⟨w.heap.size + 1, 1, none⟩) L11).trans k11
        have L12 := Nat.lt_of_lt_of_le L11 hb.size
        have H12 := Lib.hid (H11.out.trans (hb.mono H11.out.size))
        clear hb e11 f11 g11 k11
        go_wp2
        go_ret
        exact ⟨rfl, H12.out⟩
    · obtain rfl : g = false := by rw [hg]; simp [g1]
      clear hg HA
      go_wp2
      go_quiet (fail)
      clear d1 d2 d3 d4 p0 p1 p2 q0 q1 q2
      refine exit_abs (fun wx => Below w8.heap.size w8 wx) (bdrawn (Below.refl _ _) _) ?_
      intro w9 hb
      have e9 := (hb.cell (p := ⟨w.heap.size, 0, none⟩) (show w.heap.size < w8.heap.size by have := L8; omega)).trans e8
      have f9 := (hb.cell (p := ⟨w.heap.size, 1, none⟩) (show w.heap.size < w8.heap.size by have := L8; omega)).trans f8
      have g9 := (hb.cell (p := ⟨w.heap.size + 1, 0, none⟩) L8).trans g8
      have k9 := (hb.cell (p := ⟨w.heap.size + 1, 1, none⟩) L8).trans k8
      have L9 := Nat.lt_of_lt_of_le L8 hb.size
      have H9 := Lib.hid (H8.out.trans (hb.mono H8.out.size))
      clear hb e8 f8 g8 k8
      go_wp2_with fail
      refine (kind_ok y x BB w9 (HY.out.below H9.out hBB) (HX.out.below H9.out hBB) (Nat.le_trans hBB H9.out.size) ⟨HM.out.2, HM.out.1⟩).mono ?_
      rintro e w10 ⟨rfl, hb⟩
      have e10 := (hb.cell (p := ⟨w.heap.size, 0, none⟩) (show w.heap.size < w9.heap.size by have := L9; omega)).trans e9
      have f10 := (hb.cell (p := ⟨w.heap.size, 1, none⟩) (show w.heap.size < w9.heap.size by have := L9; omega)).trans f9
      have g10 := (hb.cell (p := ⟨w.heap.size + 1, 0, none⟩) L9).trans g9
      have k10 := (hb.cell (p := ⟨w.heap.size + 1, 1, none⟩) L9).trans k9
      have L10 := Nat.lt_of_lt_of_le L9 hb.size
      have H10 := Lib.hid (H9.out.trans (hb.mono H9.out.size))
      clear hb e9 f9 g9 k9
      rw [HK.out.2]
      go_wp2_with fail
      refine (refKind_any x y BB w10 (HX.out.below H10.out hBB) (HY.out.below H10.out hBB) (Nat.le_trans hBB H10.out.size) HM.out).mono ?_
      rintro e w11 ⟨rfl, hb⟩
      have e11 := (hb.cell (p := ⟨w.heap.size, 0, none⟩) (show w.heap.size < w10.heap.size by have := L10; omega)).trans e10
      have f11 := (hb.cell (p := ⟨w.heap.size, 1, none⟩) (show w.heap.size < w10.heap.size by have := L10; omega)).trans f10
      have g11 := (hb.cell (p := ⟨w.heap.size + 1, 0, none⟩) L10).trans g10
      have k11 := (hb.cell (p := ⟨w.heap.size + 1, 1, none⟩) L10).trans k10
      have L11 := Nat.lt_of_lt_of_le L10 hb.size
      have H11 := Lib.hid (H10.out.trans (hb.mono H10.out.size))
      clear hb e10 f10 g10 k10
      rw [← HK.out.1]
      go_wp2_with fail
      refine (refNear_any x y BB w11 (HX.out.below H11.out hBB) (HY.out.below H11.out hBB) (Nat.le_trans hBB H11.out.size) HM.out).mono ?_
      rintro e w12 ⟨rfl, hb⟩
      have e12 := (hb.cell (p := ⟨w.heap.size, 0, none⟩) (show w.heap.size < w11.heap.size by have := L11; omega)).trans e11
      have f12 := (hb.cell (p := ⟨w.heap.size, 1, none⟩) (show w.heap.size < w11.heap.size by have := L11; omega)).trans f11
      have g12 := (hb.cell (p := ⟨w.heap.size + 1, 0, none⟩) L11).trans g11
      have k12 := (hb.cell (p := ⟨w.heap.size + 1, 1, none⟩) L11).trans k11
      have L12 := Nat.lt_of_lt_of_le L11 hb.size
      have H12 := Lib.hid (H11.out.trans (hb.mono H11.out.size))
      clear hb e11 f11 g11 k11
      go_wp2
      go_ret
      exact ⟨rfl, H12.out⟩
  · go_wp2
    go_quiet (fail)
    refine exit_abs (fun wx => Below w8.heap.size w8 wx) (bdrawn (Below.refl _ _) _) ?_
    intro w9 hb
    have e9 := (hb.cell (p := ⟨w.heap.size, 0, none⟩) (show w.heap.size < w8.heap.size by have := L8; omega)).trans e8
    have f9 := (hb.cell (p := ⟨w.heap.size, 1, none⟩) (show w.heap.size < w8.heap.size by have := L8; omega)).trans f8
    have g9 := (hb.cell (p := ⟨w.heap.size + 1, 0, none⟩) L8).trans g8
    have k9 := (hb.cell (p := ⟨w.heap.size + 1, 1, none⟩) L8).trans k8
    have L9 := Nat.lt_of_lt_of_le L8 hb.size
    have H9 := Lib.hid (H8.out.trans (hb.mono H8.out.size))
    clear hb e8 f8 g8 k8
    go_wp2_with fail
    refine (kind_ok y x BB w9 (HY.out.below H9.out hBB) (HX.out.below H9.out hBB) (Nat.le_trans hBB H9.out.size) ⟨HM.out.2, HM.out.1⟩).mono ?_
    rintro e w10 ⟨rfl, hb⟩
    have e10 := (hb.cell (p := ⟨w.heap.size, 0, none⟩) (show w.heap.size < w9.heap.size by have := L9; omega)).trans e9
    have f10 := (hb.cell (p := ⟨w.heap.size, 1, none⟩) (show w.heap.size < w9.heap.size by have := L9; omega)).trans f9
    have g10 := (hb.cell (p := ⟨w.heap.size + 1, 0, none⟩) L9).trans g9
    have k10 := (hb.cell (p := ⟨w.heap.size + 1, 1, none⟩) L9).trans k9
    have L10 := Nat.lt_of_lt_of_le L9 hb.size
    have H10 := Lib.hid (H9.out.trans (hb.mono H9.out.size))
    clear hb e9 f9 g9 k9
    rw [HK.out.2]
    go_wp2_with fail
    refine (refKind_any x y BB w10 (HX.out.below H10.out hBB) (HY.out.below H10.out hBB) (Nat.le_trans hBB H10.out.size) HM.out).mono ?_
    rintro e w11 ⟨rfl, hb⟩
    have e11 := (hb.cell (p := ⟨w.heap.size, 0, none⟩) (show w.heap.size < w10.heap.size by have := L10; omega)).trans e10
    have f11 := (hb.cell (p := ⟨w.heap.size, 1, none⟩) (show w.heap.size < w10.heap.size by have := L10; omega)).trans f10
    have g11 := (hb.cell (p := ⟨w.heap.size + 1, 0, none⟩) L10).trans g10
    have k11 := (hb.cell (p := ⟨w.heap.size + 1, 1, none⟩) L10).trans k10
    have L11 := Nat.lt_of_lt_of_le L10 hb.size
    have H11 := Lib.hid (H10.out.trans (hb.mono H10.out.size))
    clear hb e10 f10 g10 k10
    rw [← HK.out.1]
    go_wp2_with fail
    refine (refNear_any x y BB w11 (HX.out.below H11.out hBB) (HY.out.below H11.out hBB) (Nat.le_trans hBB H11.out.size) HM.out).mono ?_
    rintro e w12 ⟨rfl, hb⟩
    have e12 := (hb.cell (p := ⟨w.heap.size, 0, none⟩) (show w.heap.size < w11.heap.size by have := L11; omega)).trans e11
    have f12 := (hb.cell (p := ⟨w.heap.size, 1, none⟩) (show w.heap.size < w11.heap.size by have := L11; omega)).trans f11
    have g12 := (hb.cell (p := ⟨w.heap.size + 1, 0, none⟩) L11).trans g11
    have k12 := (hb.cell (p := ⟨w.heap.size + 1, 1, none⟩) L11).trans k11
    have L12 := Nat.lt_of_lt_of_le L11 hb.size
    have H12 := Lib.hid (H11.out.trans (hb.mono H11.out.size))
    clear hb e11 f11 g11 k11
    go_wp2
    go_ret
    exact ⟨rfl, H12.out⟩

theorem rhymeKinds_any (x y : Sd) (BB : Nat) (w : World) (hx : SdIn w BB x) (hy : SdIn w BB y) (hBB : BB ≤ w.heap.size) :
    Calls Try.prog 17 #[.agg #[.slice x.A x.n x.c, .slice x.D x.m x.d], .agg #[.slice y.A y.n y.c, .slice y.D y.m y.d]] w fun e w' => e = .returned (.bool true) ∧ Below w.heap.size w w' := by
  cases hm : (mayB x && mayB y) with
  | false => exact rhymeKinds_bad x y BB w hx hy hBB hm
  | true => exact rhymeKinds_ok x y BB w hx hy hBB (by simpa using hm)
end Go.Proofs.Ytogofchpocoebaa
