/- rhyme.Near, Alliterates; the reference's Near. -/
import Derived.Test.YtogofchpocoebaaV2
import Derived.Test.YtogofchpocoebaaY11
import Derived.Test.YtogofchpocoebaaS15
import Derived.Test.YtogofchpocoebaaS2
namespace Go.Proofs.Ytogofchpocoebaa
open Go.RowKit Go.Maps

theorem mayTwo_any (x y : Sd) (BB : Nat) (w : World) (hx : SdIn w BB x) (hy : SdIn w BB y) (hBB : BB ≤ w.heap.size) :
    Calls Try.prog 106 #[.slice (some ⟨w.heap.size, 0, none⟩) 2 2] (w.alloc (.cells #[.slice x.A x.n x.c, .slice x.D x.m x.d, .slice y.A y.n y.c, .slice y.D y.m y.d] 25)) fun e w' => e = .returned (.bool (mayB x && mayB y)) ∧ Below w.heap.size w w' := by
  have hb : Below w.heap.size w (w.alloc (.cells #[.slice x.A x.n x.c, .slice x.D x.m x.d, .slice y.A y.n y.c, .slice y.D y.m y.d] 25)) := (Below.refl _ _).alloc (Nat.le_refl _) _
  have hB1 : Blk (w.alloc (.cells #[.slice x.A x.n x.c, .slice x.D x.m x.d, .slice y.A y.n y.c, .slice y.D y.m y.d] 25)) w.heap.size 25 #[.slice x.A x.n x.c, .slice x.D x.m x.d, .slice y.A y.n y.c, .slice y.D y.m y.d] := Blk.new _ _ _
  have c0 := hB1.cell 0
  have c1 := hB1.cell 1
  have c2 := hB1.cell 2
  have c3 := hB1.cell 3
  refine (mayAll_any (some ⟨w.heap.size, 0, none⟩) 2 2 0 (w.heap.size + 1) BB [x, y] _ ⟨rfl, fun _ => ⟨w.heap.size, 0, rfl, Nat.zero_le _, Nat.lt_succ_self _, fun j u hu => ?_⟩⟩ hB1.lt (Nat.le_trans hBB hb.size) (fun z hz => by rcases List.mem_cons.1 hz with rfl | hz; exact hx.below hb hBB; rw [List.mem_singleton] at hz; subst hz; exact hy.below hb hBB) (by unfold maxLen; omega)).mono ?_
  · match j, hu with
    | 0, hu => injection hu with hu; subst hu; exact c0
    | 1, hu => injection hu with hu; subst hu; exact c1
    | 2, hu => injection hu with hu; subst hu; exact c2
    | 3, hu => injection hu with hu; subst hu; exact c3
    | j + 4, hu => simp [sdC] at hu
  · rintro e w' ⟨rfl, h⟩
    exact ⟨by simp, hb.trans (h.mono hb.size)⟩

/-- how far two tails are apart -/
def farS (x y : Sd) : Int := costF (tailF x.l x.ss) (tailF y.l y.ss)
theorem far_ds {x y : Sd} (hf : Form x.l x.ss) (hg : Form y.l y.ss) : dsE (tailF x.l x.ss) (tailF y.l y.ss) = 0 ∧ dsV (tailF x.l x.ss) (tailF y.l y.ss) = farS x y := by
  obtain ⟨a1, _, a2, _⟩ := form_parts hf
  obtain ⟨b1, _, b2, _⟩ := form_parts hg
  have he : dsE (tailF x.l x.ss) (tailF y.l y.ss) = 0 := by unfold dsE; rw [if_neg (by omega), a1, b1]; rfl
  exact ⟨he, by unfold dsV farS; rw [if_pos he]⟩
set_option maxHeartbeats 4000000 in
set_option maxRecDepth 100000 in
theorem near_bad (x y : Sd) (BB : Nat) (w : World) (hx : SdIn w BB x) (hy : SdIn w BB y) (hBB : BB ≤ w.heap.size) (hm : (mayB x && mayB y) = false) :
    Calls Try.prog 77 #[.agg #[.slice x.A x.n x.c, .slice x.D x.m x.d], .agg #[.slice y.A y.n y.c, .slice y.D y.m y.d]] w fun e w' => e = .returned (.tuple #[.int .i64 0, .int .i64 2]) ∧ Below w.heap.size w w' := by
  have HX := Lib.hid hx
  have HY := Lib.hid hy
  clear hx hy
  have HM := Lib.hid hm
  clear hm
  go_enter Try.func77, Try.ntmps77
  go_upto_region 1 with (fail)
  refine wp_abs (fun wx => Below w.heap.size w wx ∧ Blk wx w.heap.size 25 #[.slice x.A x.n x.c, .slice x.D x.m x.d] ∧ Blk wx (w.heap.size + 1) 25 #[.slice y.A y.n y.c, .slice y.D y.m y.d]) ⟨((Below.refl _ _).alloc (Nat.le_refl _) _).alloc (by simp) _, (Blk.new _ _ _).alloc _, blk_new_eq (by simp)⟩ ?_
  rintro w1 ⟨hb, hB1, hB2⟩
  have e1 : w1.cell? ⟨w.heap.size, 0, none⟩ = some (.slice x.A x.n x.c) := hB1.cell 0
  have f1 : w1.cell? ⟨w.heap.size, 1, none⟩ = some (.slice x.D x.m x.d) := hB1.cell 1
  have g1 : w1.cell? ⟨w.heap.size + 1, 0, none⟩ = some (.slice y.A y.n y.c) := hB2.cell 0
  have k1 : w1.cell? ⟨w.heap.size + 1, 1, none⟩ = some (.slice y.D y.m y.d) := hB2.cell 1
  have L1 : w.heap.size + 1 < w1.heap.size := hB2.lt
  have H1 := Lib.hid hb
  clear hb hB1 hB2
  go_wp2_with fail
  refine (mayTwo_any x y BB w1 (HX.out.below H1.out hBB) (HY.out.below H1.out hBB) (Nat.le_trans hBB H1.out.size)).mono ?_
  rintro e w2 ⟨rfl, hb⟩
  have e2 := (hb.cell (p := ⟨w.heap.size, 0, none⟩) (show w.heap.size < w1.heap.size by have := L1; omega)).trans e1
  have f2 := (hb.cell (p := ⟨w.heap.size, 1, none⟩) (show w.heap.size < w1.heap.size by have := L1; omega)).trans f1
  have g2 := (hb.cell (p := ⟨w.heap.size + 1, 0, none⟩) L1).trans g1
  have k2 := (hb.cell (p := ⟨w.heap.size + 1, 1, none⟩) L1).trans k1
  have L2 := Nat.lt_of_lt_of_le L1 hb.size
  have H2 := Lib.hid (H1.out.trans (hb.mono H1.out.size))
  clear hb e1 f1 g1 k1
  rw [HM.out]
  clear HM
  go_wp2
  go_ret2
  exact ⟨rfl, H2.out⟩
set_option maxHeartbeats 4000000 in
set_option maxRecDepth 100000 in
theorem near_ok (x y : Sd) (BB : Nat) (w : World) (hx : SdIn w BB x) (hy : SdIn w BB y) (hBB : BB ≤ w.heap.size) (hm : mayB x = true ∧ mayB y = true) :
    Calls Try.prog 77 #[.agg #[.slice x.A x.n x.c, .slice x.D x.m x.d], .agg #[.slice y.A y.n y.c, .slice y.D y.m y.d]] w fun e w' => e = .returned (.tuple #[.int .i64 (farS x y), .int .i64 0]) ∧ Below w.heap.size w w' := by
  have HX := Lib.hid hx
  have HY := Lib.hid hy
  clear hx hy
  have HF := Lib.hid (form_of (by have := hm.1; unfold mayB at this; exact eq_of_beq this))
  have HG := Lib.hid (form_of (by have := hm.2; unfold mayB at this; exact eq_of_beq this))
  have HM := Lib.hid hm
  clear hm
  go_enter Try.func77, Try.ntmps77
  go_upto_region 1 with (fail)
  refine wp_abs (fun wx => Below w.heap.size w wx ∧ Blk wx w.heap.size 25 #[.slice x.A x.n x.c, .slice x.D x.m x.d] ∧ Blk wx (w.heap.size + 1) 25 #[.slice y.A y.n y.c, .slice y.D y.m y.d]) ⟨((Below.refl _ _).alloc (Nat.le_refl _) _).alloc (by simp) _, (Blk.new _ _ _).alloc _, blk_new_eq (by simp)⟩ ?_
  rintro w1 ⟨hb, hB1, hB2⟩
  have e1 : w1.cell? ⟨w.heap.size, 0, none⟩ = some (.slice x.A x.n x.c) := hB1.cell 0
  have f1 : w1.cell? ⟨w.heap.size, 1, none⟩ = some (.slice x.D x.m x.d) := hB1.cell 1
  have g1 : w1.cell? ⟨w.heap.size + 1, 0, none⟩ = some (.slice y.A y.n y.c) := hB2.cell 0
  have k1 : w1.cell? ⟨w.heap.size + 1, 1, none⟩ = some (.slice y.D y.m y.d) := hB2.cell 1
  have L1 : w.heap.size + 1 < w1.heap.size := hB2.lt
  have H1 := Lib.hid hb
  clear hb hB1 hB2
  go_wp2_with fail
  refine (mayTwo_any x y BB w1 (HX.out.below H1.out hBB) (HY.out.below H1.out hBB) (Nat.le_trans hBB H1.out.size)).mono ?_
  rintro e w2 ⟨rfl, hb⟩
  have e2 := (hb.cell (p := ⟨w.heap.size, 0, none⟩) (show w.heap.size < w1.heap.size by have := L1; omega)).trans e1
  have f2 := (hb.cell (p := ⟨w.heap.size, 1, none⟩) (show w.heap.size < w1.heap.size by have := L1; omega)).trans f1
  have g2 := (hb.cell (p := ⟨w.heap.size + 1, 0, none⟩) L1).trans g1
  have k2 := (hb.cell (p := ⟨w.heap.size + 1, 1, none⟩) L1).trans k1
  have L2 := Nat.lt_of_lt_of_le L1 hb.size
  have H2 := Lib.hid (H1.out.trans (hb.mono H1.out.size))
  clear hb e1 f1 g1 k1
  rw [HM.out.1, HM.out.2, Bool.true_and]
  go_wp2
  have Ye := e2
  have Yf := f2
  have Yg := g2
  have Yk := k2
  have Xe := Bel.cell e2
  have Xf := Bel.cell f2
  have Xg := Bel.cell g2
  have Xk := Bel.cell k2
  clear e2 f2 g2 k2
  have wf : ∀ k, Fence.wide.fn k := fun _ => trivial
  have wd : Fence.wide.depth = none := rfl
  refine wp_bel (by kernel_rfl) (by kernel_rfl) ?_
  repeat (gi_big_quiet_step (fail))
  gi_big_quiet_want
  gi_big_quiet_op
  refine ⟨.slice (tailA x) (tailF x.l x.ss).length (tailC x), fun z => ?_, ?_⟩
  · exact callsIn_wide.2 ((tail_det x BB z.1 ((HX.out.below H2.out hBB).below z.2 (Nat.le_trans hBB H2.out.size)) (Nat.le_trans (Nat.le_trans hBB H2.out.size) z.2.size) HF.out).mono (fun e w' h => ⟨h.1, z.next h.2⟩))
  go_big_quiet_on
  repeat (gi_big_quiet_step (fail))
  gi_big_quiet_want
  gi_big_quiet_op
  refine ⟨.slice (tailA y) (tailF y.l y.ss).length (tailC y), fun z => ?_, ?_⟩
  · exact callsIn_wide.2 ((tail_det y BB z.1 ((HY.out.below H2.out hBB).below z.2 (Nat.le_trans hBB H2.out.size)) (Nat.le_trans (Nat.le_trans hBB H2.out.size) z.2.size) HG.out).mono (fun e w' h => ⟨h.1, z.next h.2⟩))
  go_big_quiet_on
  repeat (gi_big_quiet_step (fail))
  gi_big_quiet_want
  gi_big_quiet_op
  refine ⟨.tuple #[.int .i64 (dsV (tailF x.l x.ss) (tailF y.l y.ss)), .int .i64 (dsE (tailF x.l x.ss) (tailF y.l y.ss))], fun z => ?_, ?_⟩
  · exact callsIn_wide.2 ((distance_any (tailA x) (tailA y) _ _ _ _ _ _ (tailF x.l x.ss) (tailF y.l y.ss) z.1 ((tail_rd ((HX.out.below H2.out hBB).below z.2 (Nat.le_trans hBB H2.out.size)) HF.out).1.more (Nat.le_refl _) (Nat.le_trans (Nat.le_trans hBB H2.out.size) z.2.size)) ((tail_rd ((HY.out.below H2.out hBB).below z.2 (Nat.le_trans hBB H2.out.size)) HG.out).1.more (Nat.le_refl _) (Nat.le_trans (Nat.le_trans hBB H2.out.size) z.2.size)) (fun p hp => HX.out.fit p (List.mem_of_mem_drop hp)) (fun p hp => HY.out.fit p (List.mem_of_mem_drop hp))).mono (fun e w' h => ⟨h.1, z.next h.2⟩))
  go_big_quiet_on
  repeat (gi_big_quiet_step (fail))
  refine wpQuietIn_nil ?_
  intro _ hw'
  obtain ⟨zW, hw''⟩ := hw'
  subst hw''
  have hb : Below w2.heap.size w2 zW.1 := zW.2
  generalize zW.1 = w3 at *
  clear Xe Xf Xg Xk wf wd
  have e2 := Ye
  have f2 := Yf
  have g2 := Yg
  have k2 := Yk
  clear Ye Yf Yg Yk
  have e3 := (hb.cell (p := ⟨w.heap.size, 0, none⟩) (show w.heap.size < w2.heap.size by have := L2; omega)).trans e2
  have f3 := (hb.cell (p := ⟨w.heap.size, 1, none⟩) (show w.heap.size < w2.heap.size by have := L2; omega)).trans f2
  have g3 := (hb.cell (p := ⟨w.heap.size + 1, 0, none⟩) L2).trans g2
  have k3 := (hb.cell (p := ⟨w.heap.size + 1, 1, none⟩) L2).trans k2
  have L3 := Nat.lt_of_lt_of_le L2 hb.size
  have H3 := Lib.hid (H2.out.trans (hb.mono H2.out.size))
  clear hb e2 f2 g2 k2
  rw [(far_ds HF.out HG.out).1, (far_ds HF.out HG.out).2]
  go_wp2
  go_ret2
  exact ⟨rfl, H3.out⟩
set_option maxHeartbeats 4000000 in
set_option maxRecDepth 100000 in
theorem refNear_any (x y : Sd) (BB : Nat) (w : World) (hx : SdIn w BB x) (hy : SdIn w BB y) (hBB : BB ≤ w.heap.size) (hm : mayB x = true ∧ mayB y = true) :
    Calls Try.prog 70 #[.agg #[.slice x.A x.n x.c, .slice x.D x.m x.d], .agg #[.slice y.A y.n y.c, .slice y.D y.m y.d]] w fun e w' => e = .returned (.int .i64 (farS x y)) ∧ Below w.heap.size w w' := by
  have HX := Lib.hid hx
  have HY := Lib.hid hy
  clear hx hy
  have HF := Lib.hid (form_of (by have := hm.1; unfold mayB at this; exact eq_of_beq this))
  have HG := Lib.hid (form_of (by have := hm.2; unfold mayB at this; exact eq_of_beq this))
  have HM := Lib.hid hm
  clear hm
  go_enter Try.func70, Try.ntmps70
  go_upto_region 1 with (fail)
  refine wp_abs (fun wx => Below w.heap.size w wx ∧ Blk wx w.heap.size 25 #[.slice x.A x.n x.c, .slice x.D x.m x.d] ∧ Blk wx (w.heap.size + 1) 25 #[.slice y.A y.n y.c, .slice y.D y.m y.d]) ⟨((Below.refl _ _).alloc (Nat.le_refl _) _).alloc (by simp) _, (Blk.new _ _ _).alloc _, blk_new_eq (by simp)⟩ ?_
  rintro w1 ⟨hb, hB1, hB2⟩
  have e1 : w1.cell? ⟨w.heap.size, 0, none⟩ = some (.slice x.A x.n x.c) := hB1.cell 0
  have f1 : w1.cell? ⟨w.heap.size, 1, none⟩ = some (.slice x.D x.m x.d) := hB1.cell 1
  have g1 : w1.cell? ⟨w.heap.size + 1, 0, none⟩ = some (.slice y.A y.n y.c) := hB2.cell 0
  have k1 : w1.cell? ⟨w.heap.size + 1, 1, none⟩ = some (.slice y.D y.m y.d) := hB2.cell 1
  have L1 : w.heap.size + 1 < w1.heap.size := hB2.lt
  have H1 := Lib.hid hb
  clear hb hB1 hB2
  go_wp2
  have Ye := e1
  have Yf := f1
  have Yg := g1
  have Yk := k1
  have Xe := Bel.cell e1
  have Xf := Bel.cell f1
  have Xg := Bel.cell g1
  have Xk := Bel.cell k1
  clear e1 f1 g1 k1
  have wf : ∀ k, Fence.wide.fn k := fun _ => trivial
  have wd : Fence.wide.depth = none := rfl
  refine wp_bel (by kernel_rfl) (by kernel_rfl) ?_
  repeat (gi_big_quiet_step (fail))
  gi_big_quiet_want
  gi_big_quiet_op
  refine ⟨.slice (tailA x) (tailF x.l x.ss).length (tailC x), fun z => ?_, ?_⟩
  · exact callsIn_wide.2 ((refTail_det x BB z.1 ((HX.out.below H1.out hBB).below z.2 (Nat.le_trans hBB H1.out.size)) (Nat.le_trans (Nat.le_trans hBB H1.out.size) z.2.size) HF.out).mono (fun e w' h => ⟨h.1, z.next h.2⟩))
  go_big_quiet_on
  repeat (gi_big_quiet_step (fail))
  gi_big_quiet_want
  gi_big_quiet_op
  refine ⟨.slice (tailA y) (tailF y.l y.ss).length (tailC y), fun z => ?_, ?_⟩
  · exact callsIn_wide.2 ((refTail_det y BB z.1 ((HY.out.below H1.out hBB).below z.2 (Nat.le_trans hBB H1.out.size)) (Nat.le_trans (Nat.le_trans hBB H1.out.size) z.2.size) HG.out).mono (fun e w' h => ⟨h.1, z.next h.2⟩))
  go_big_quiet_on
  repeat (gi_big_quiet_step (fail))
  gi_big_quiet_want
  gi_big_quiet_op
  refine ⟨.tuple #[.int .i64 (dsV (tailF x.l x.ss) (tailF y.l y.ss)), .int .i64 (dsE (tailF x.l x.ss) (tailF y.l y.ss))], fun z => ?_, ?_⟩
  · exact callsIn_wide.2 ((refDistance_any (tailA x) (tailA y) _ _ _ _ _ _ _ _ (tailF x.l x.ss) (tailF y.l y.ss) z.1 (tail_rd ((HX.out.below H1.out hBB).below z.2 (Nat.le_trans hBB H1.out.size)) HF.out).1 (tail_rd ((HY.out.below H1.out hBB).below z.2 (Nat.le_trans hBB H1.out.size)) HG.out).1 (Nat.le_trans (Nat.le_trans hBB H1.out.size) z.2.size) (Nat.le_trans (Nat.le_trans hBB H1.out.size) z.2.size)).mono (fun e w' h => ⟨h.1, z.next h.2⟩))
  go_big_quiet_on
  repeat (gi_big_quiet_step (fail))
  refine wpQuietIn_nil ?_
  intro _ hw'
  obtain ⟨zW, hw''⟩ := hw'
  subst hw''
  have hb : Below w1.heap.size w1 zW.1 := zW.2
  generalize zW.1 = w2 at *
  clear Xe Xf Xg Xk wf wd
  have e1 := Ye
  have f1 := Yf
  have g1 := Yg
  have k1 := Yk
  clear Ye Yf Yg Yk
  have e2 := (hb.cell (p := ⟨w.heap.size, 0, none⟩) (show w.heap.size < w1.heap.size by have := L1; omega)).trans e1
  have f2 := (hb.cell (p := ⟨w.heap.size, 1, none⟩) (show w.heap.size < w1.heap.size by have := L1; omega)).trans f1
  have g2 := (hb.cell (p := ⟨w.heap.size + 1, 0, none⟩) L1).trans g1
  have k2 := (hb.cell (p := ⟨w.heap.size + 1, 1, none⟩) L1).trans k1
  have L2 := Nat.lt_of_lt_of_le L1 hb.size
  have H2 := Lib.hid (H1.out.trans (hb.mono H1.out.size))
  clear hb e1 f1 g1 k1
  rw [(far_ds HF.out HG.out).1, (far_ds HF.out HG.out).2]
  go_wp2
  go_ret
  exact ⟨rfl, H2.out⟩
/-- do two forms begin alike? -/
def allitF (x y : Sd) : Bool := match headF x.l x.ss, headF y.l y.ss with | p :: _, q :: _ => decide (p = q) | _, _ => false
set_option maxHeartbeats 4000000 in
set_option maxRecDepth 100000 in
theorem allit_bad (x y : Sd) (BB : Nat) (w : World) (hx : SdIn w BB x) (hy : SdIn w BB y) (hBB : BB ≤ w.heap.size) (hm : (mayB x && mayB y) = false) :
    Calls Try.prog 78 #[.agg #[.slice x.A x.n x.c, .slice x.D x.m x.d], .agg #[.slice y.A y.n y.c, .slice y.D y.m y.d]] w fun e w' => e = .returned (.tuple #[.bool false, .int .i64 2]) ∧ Below w.heap.size w w' := by
  have HX := Lib.hid hx
  have HY := Lib.hid hy
  clear hx hy
  have HM := Lib.hid hm
  clear hm
  go_enter Try.func78, Try.ntmps78
  go_upto_region 1 with (fail)
  refine wp_abs (fun wx => Below w.heap.size w wx ∧ Blk wx w.heap.size 25 #[.slice x.A x.n x.c, .slice x.D x.m x.d] ∧ Blk wx (w.heap.size + 1) 25 #[.slice y.A y.n y.c, .slice y.D y.m y.d]) ⟨((Below.refl _ _).alloc (Nat.le_refl _) _).alloc (by simp) _, (Blk.new _ _ _).alloc _, blk_new_eq (by simp)⟩ ?_
  rintro w1 ⟨hb, hB1, hB2⟩
  have e1 : w1.cell? ⟨w.heap.size, 0, none⟩ = some (.slice x.A x.n x.c) := hB1.cell 0
  have f1 : w1.cell? ⟨w.heap.size, 1, none⟩ = some (.slice x.D x.m x.d) := hB1.cell 1
  have g1 : w1.cell? ⟨w.heap.size + 1, 0, none⟩ = some (.slice y.A y.n y.c) := hB2.cell 0
  have k1 : w1.cell? ⟨w.heap.size + 1, 1, none⟩ = some (.slice y.D y.m y.d) := hB2.cell 1
  have L1 : w.heap.size + 1 < w1.heap.size := hB2.lt
  have H1 := Lib.hid hb
  clear hb hB1 hB2
  go_wp2_with fail
  refine (mayTwo_any x y BB w1 (HX.out.below H1.out hBB) (HY.out.below H1.out hBB) (Nat.le_trans hBB H1.out.size)).mono ?_
  rintro e w2 ⟨rfl, hb⟩
  have e2 := (hb.cell (p := ⟨w.heap.size, 0, none⟩) (show w.heap.size < w1.heap.size by have := L1; omega)).trans e1
  have f2 := (hb.cell (p := ⟨w.heap.size, 1, none⟩) (show w.heap.size < w1.heap.size by have := L1; omega)).trans f1
  have g2 := (hb.cell (p := ⟨w.heap.size + 1, 0, none⟩) L1).trans g1
  have k2 := (hb.cell (p := ⟨w.heap.size + 1, 1, none⟩) L1).trans k1
  have L2 := Nat.lt_of_lt_of_le L1 hb.size
  have H2 := Lib.hid (H1.out.trans (hb.mono H1.out.size))
  clear hb e1 f1 g1 k1
  rw [HM.out]
  clear HM
  go_wp2
  go_ret2
  exact ⟨rfl, H2.out⟩
theorem allit_cases (x y : Sd) : (headF x.l x.ss = [] ∧ allitF x y = false) ∨ (∃ p r, headF x.l x.ss = p :: r ∧ headF y.l y.ss = [] ∧ allitF x y = false) ∨ (∃ p r q t, headF x.l x.ss = p :: r ∧ headF y.l y.ss = q :: t ∧ allitF x y = decide (p = q)) := by
  unfold allitF
  cases hx : headF x.l x.ss with
  | nil => exact .inl ⟨rfl, rfl⟩
  | cons p r =>
    cases hy : headF y.l y.ss with
    | nil => exact .inr (.inl ⟨p, r, rfl, rfl, rfl⟩)
    | cons q t => exact .inr (.inr ⟨p, r, q, t, rfl, rfl, rfl⟩)

set_option maxHeartbeats 4000000 in
set_option maxRecDepth 100000 in
theorem allit_ok (x y : Sd) (BB : Nat) (w : World) (hx : SdIn w BB x) (hy : SdIn w BB y) (hBB : BB ≤ w.heap.size) (hm : mayB x = true ∧ mayB y = true) :
    Calls Try.prog 78 #[.agg #[.slice x.A x.n x.c, .slice x.D x.m x.d], .agg #[.slice y.A y.n y.c, .slice y.D y.m y.d]] w fun e w' => e = .returned (.tuple #[.bool (allitF x y), .int .i64 0]) ∧ Below w.heap.size w w' := by
  have HX := Lib.hid hx
  have HY := Lib.hid hy
  clear hx hy
  have HF := Lib.hid (form_of (by have := hm.1; unfold mayB at this; exact eq_of_beq this))
  have HG := Lib.hid (form_of (by have := hm.2; unfold mayB at this; exact eq_of_beq this))
  have HM := Lib.hid hm
  clear hm
  go_enter Try.func78, Try.ntmps78
  go_upto_region 1 with (fail)
  refine wp_abs (fun wx => Below w.heap.size w wx ∧ Blk wx w.heap.size 25 #[.slice x.A x.n x.c, .slice x.D x.m x.d] ∧ Blk wx (w.heap.size + 1) 25 #[.slice y.A y.n y.c, .slice y.D y.m y.d]) ⟨((Below.refl _ _).alloc (Nat.le_refl _) _).alloc (by simp) _, (Blk.new _ _ _).alloc _, blk_new_eq (by simp)⟩ ?_
  rintro w1 ⟨hb, hB1, hB2⟩
  have e1 : w1.cell? ⟨w.heap.size, 0, none⟩ = some (.slice x.A x.n x.c) := hB1.cell 0
  have f1 : w1.cell? ⟨w.heap.size, 1, none⟩ = some (.slice x.D x.m x.d) := hB1.cell 1
  have g1 : w1.cell? ⟨w.heap.size + 1, 0, none⟩ = some (.slice y.A y.n y.c) := hB2.cell 0
  have k1 : w1.cell? ⟨w.heap.size + 1, 1, none⟩ = some (.slice y.D y.m y.d) := hB2.cell 1
  have L1 : w.heap.size + 1 < w1.heap.size := hB2.lt
  have H1 := Lib.hid hb
  clear hb hB1 hB2
  go_wp2_with fail
  refine (mayTwo_any x y BB w1 (HX.out.below H1.out hBB) (HY.out.below H1.out hBB) (Nat.le_trans hBB H1.out.size)).mono ?_
  rintro e w2 ⟨rfl, hb⟩
  have e2 := (hb.cell (p := ⟨w.heap.size, 0, none⟩) (show w.heap.size < w1.heap.size by have := L1; omega)).trans e1
  have f2 := (hb.cell (p := ⟨w.heap.size, 1, none⟩) (show w.heap.size < w1.heap.size by have := L1; omega)).trans f1
  have g2 := (hb.cell (p := ⟨w.heap.size + 1, 0, none⟩) L1).trans g1
  have k2 := (hb.cell (p := ⟨w.heap.size + 1, 1, none⟩) L1).trans k1
  have L2 := Nat.lt_of_lt_of_le L1 hb.size
  have H2 := Lib.hid (H1.out.trans (hb.mono H1.out.size))
  clear hb e1 f1 g1 k1
  rw [HM.out.1, HM.out.2, Bool.true_and]
  go_wp2
  have Ye := e2
  have Yf := f2
  have Yg := g2
  have Yk := k2
  have Xe := Bel.cell e2
  have Xf := Bel.cell f2
  have Xg := Bel.cell g2
  have Xk := Bel.cell k2
  clear e2 f2 g2 k2
  have wf : ∀ k, Fence.wide.fn k := fun _ => trivial
  have wd : Fence.wide.depth = none := rfl
  refine wp_bel (by kernel_rfl) (by kernel_rfl) ?_
  repeat (gi_big_quiet_step (fail))
  gi_big_quiet_want
  gi_big_quiet_op
  refine ⟨.slice (headA x) (headF x.l x.ss).length (headC x), fun z => ?_, ?_⟩
  · exact callsIn_wide.2 ((head_det x BB z.1 ((HX.out.below H2.out hBB).below z.2 (Nat.le_trans hBB H2.out.size)) (Nat.le_trans (Nat.le_trans hBB H2.out.size) z.2.size) HF.out).mono (fun e w' h => ⟨h.1, z.next h.2⟩))
  go_big_quiet_on
  repeat (gi_big_quiet_step (fail))
  gi_big_quiet_want
  gi_big_quiet_op
  refine ⟨.slice (headA y) (headF y.l y.ss).length (headC y), fun z => ?_, ?_⟩
  · exact callsIn_wide.2 ((head_det y BB z.1 ((HY.out.below H2.out hBB).below z.2 (Nat.le_trans hBB H2.out.size)) (Nat.le_trans (Nat.le_trans hBB H2.out.size) z.2.size) HG.out).mono (fun e w' h => ⟨h.1, z.next h.2⟩))
  go_big_quiet_on
  repeat (gi_big_quiet_step (fail))
  refine wpQuietIn_nil ?_
  intro _ hw'
  obtain ⟨zW, hw''⟩ := hw'
  subst hw''
  have hb : Below w2.heap.size w2 zW.1 := zW.2
  generalize zW.1 = w3 at *
  clear Xe Xf Xg Xk wf wd
  have e2 := Ye
  have f2 := Yf
  have g2 := Yg
  have k2 := Yk
  clear Ye Yf Yg Yk
  have e3 := (hb.cell (p := ⟨w.heap.size, 0, none⟩) (show w.heap.size < w2.heap.size by have := L2; omega)).trans e2
  have f3 := (hb.cell (p := ⟨w.heap.size, 1, none⟩) (show w.heap.size < w2.heap.size by have := L2; omega)).trans f2
  have g3 := (hb.cell (p := ⟨w.heap.size + 1, 0, none⟩) L2).trans g2
  have k3 := (hb.cell (p := ⟨w.heap.size + 1, 1, none⟩) L2).trans k2
  have L3 := Nat.lt_of_lt_of_le L2 hb.size
  have H3 := Lib.hid (H2.out.trans (hb.mono H2.out.size))
  clear hb e2 f2 g2 k2
  have hRx := (head_rd (HX.out.below H3.out hBB) HF.out).1
  have hRy := (head_rd (HY.out.below H3.out hBB) HG.out).1
  obtain ⟨n1, hn1⟩ : ∃ k, k = (headF x.l x.ss).length := ⟨_, rfl⟩
  obtain ⟨n2, hn2⟩ : ∃ k, k = (headF y.l y.ss).length := ⟨_, rfl⟩
  have h1 : n1 ≤ 128 := by have := (form_parts HF.out).2.2.2; omega
  have h2 : n2 ≤ 128 := by have := (form_parts HG.out).2.2.2; omega
  rw [← hn1, ← hn2]
  rw [← hn1] at hRx
  rw [← hn2] at hRy
  rcases allit_cases x y with ⟨hx0, ha⟩ | ⟨p, r, hx1, hy0, ha⟩ | ⟨p, r, q, t, hx1, hy1, ha⟩
  · have z : n1 = 0 := by rw [hn1, hx0]; rfl
    subst z
    have HA := Lib.hid ha
    clear hRx hRy hn1 hn2 hx0 ha
    go_wp2
    go_quiet (fail)
    go_wp2
    go_ret2
    exact ⟨by rw [HA.out]; rfl, bdrawn H3.out _⟩
  · have z : n2 = 0 := by rw [hn2, hy0]; rfl
    subst z
    have z1 : 0 < n1 := by rw [hn1, hx1]; simp
    have d1 : (0 : Int) < (n1 : Int) := by omega
    have d2 : decide ((0 : Int) < (n1 : Int)) = true := by simpa using d1
    have HA := Lib.hid ha
    clear hRx hRy hn1 hn2 hx1 hy0 ha
    go_wp2
    go_quiet (fail)
    go_wp2
    go_ret2
    exact ⟨by rw [HA.out]; rfl, bdrawn H3.out _⟩
  · have z1 : 0 < n1 := by rw [hn1, hx1]; simp
    have z2 : 0 < n2 := by rw [hn2, hy1]; simp
    have d1 : (0 : Int) < (n1 : Int) := by omega
    have d2 : decide ((0 : Int) < (n1 : Int)) = true := by simpa using d1
    have d3 : (0 : Int) < (n2 : Int) := by omega
    have d4 : decide ((0 : Int) < (n2 : Int)) = true := by simpa using d3
    obtain ⟨b1, o1, hl1, a1, _, _, p0, p1, p2⟩ := hRx.ph (k := 0) z1
    obtain ⟨b2, o2, hl2, a2, _, _, q0, q1, q2⟩ := hRy.ph (k := 0) z2
    have ep : (headF x.l x.ss)[0] = p := by simp [hx1]
    have eq : (headF y.l y.ss)[0] = q := by simp [hy1]
    rw [ep, Nat.zero_mul, Nat.add_zero] at p0 p1 p2
    rw [eq, Nat.zero_mul, Nat.add_zero] at q0 q1 q2
    rw [a1, a2]
    obtain ⟨x1, x2, x3⟩ := p
    obtain ⟨y1, y2, y3⟩ := q
    have HA := Lib.hid ha
    clear hRx hRy hn1 hn2 hx1 hy1 ha ep eq a1 a2 hl1 hl2
    by_cases g1 : x1 = y1
    · subst g1
      by_cases g2 : x2 = y2
      · subst g2
        by_cases g3 : x3 = y3
        · subst g3
          go_wp2
          go_quiet (fail)
          go_wp2
          go_ret2
          exact ⟨by rw [HA.out]; simp, bdrawn H3.out _⟩
        · go_wp2
          go_quiet (fail)
          go_wp2
          go_ret2
          exact ⟨by rw [HA.out]; simp [g3], bdrawn H3.out _⟩
      · go_wp2
        go_quiet (fail)
        go_wp2
        go_ret2
        exact ⟨by rw [HA.out]; simp [g2], bdrawn H3.out _⟩
    · go_wp2
      go_quiet (fail)
      go_wp2
      go_ret2
      exact ⟨by rw [HA.out]; simp [g1], bdrawn H3.out _⟩
theorem only_max {x : Sd} (v : Bool) (hf : Form x.l x.ss) : (onlyF v (tailF x.l x.ss)).length ≤ maxLen := by
  have h1 : (onlyF v (tailF x.l x.ss)).length ≤ (tailF x.l x.ss).length := List.length_filter_le _ _
  have h2 := (form_parts hf).2.2.1
  unfold maxLen
  omega

end Go.Proofs.Ytogofchpocoebaa
