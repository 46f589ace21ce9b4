/- The reference's only, Kind. -/
import Derived.Test.YtogofchpocoebaaV3
namespace Go.Proofs.Ytogofchpocoebaa
open Go.RowKit Go.Maps

set_option maxHeartbeats 4000000 in
set_option maxRecDepth 100000 in
theorem only_any (A : Option Addr) (n c L B : Nat) (l : List Ph) (v : Bool) (w : World) (h : Rd w L B 3 A n (phs l)) (hB : B ≤ w.heap.size) (hz : n ≤ 128) :
    Calls Try.prog 137 #[.slice A n c, .bool v] w fun e w' => ∃ X C, e = .returned (.slice X (onlyF v l).length C) ∧ w'.ownsRow w.heap.size 43 3 (.slice X (onlyF v l).length C) (onlyF v l).length (phs (onlyF v l)) ∧ Below w.heap.size w w' := by
  obtain ⟨i0, hi, hz0, hz1, hz2⟩ := info_parts info43
  have HI := Lib.hid (And.intro hi (And.intro hz0 (And.intro hz1 hz2)))
  clear hi hz0 hz1 hz2
  have HL := Lib.hid h.len_ph
  have HR := Lib.hid h
  clear h
  go_enter Try.func137, Try.ntmps137
  go_wp2
  go_loopw [5, 6, 7, 8] (fun v5 v6 _ _ wr => ∃ k : Nat, k ≤ n ∧ v6 = .int .i64 k ∧ Hid (wr.ownsRow w.heap.size 43 3 v5 (onlyF v (l.take k)).length (phs (onlyF v (l.take k))) ∧ Below w.heap.size w wr)) (fun _ v6 _ _ _ => n - (intOf v6).toNat)
  case atStart => exact ⟨0, by omega, rfl, Lib.hid ⟨World.ownsRow_nil _ _ _ _, Below.refl _ _⟩⟩
  case round =>
    obtain ⟨k, hk, rfl, H⟩ := hrel
    by_cases hlt : k < n
    · obtain ⟨b, o, hl, rfl, _, hbB, p0, p1, p2⟩ := HR.out.ph hlt
      have r0 := (H.out.2.cell (p := ⟨b, o + k * 3, none⟩) (Nat.lt_of_lt_of_le hbB hB)).trans p0
      have r1 := (H.out.2.cell (p := ⟨b, o + k * 3 + 1, none⟩) (Nat.lt_of_lt_of_le hbB hB)).trans p1
      have r2 := (H.out.2.cell (p := ⟨b, o + k * 3 + 2, none⟩) (Nat.lt_of_lt_of_le hbB hB)).trans p2
      have hsn : onlyF v (l.take (k + 1)) = onlyF v (l.take k) ++ (if vowF l[k] == v then [l[k]] else []) := by
        rw [List.take_succ_eq_append_getElem hl, only_snoc]
      have hlen : (onlyF v (l.take k)).length ≤ 128 := by
        have h2 := List.length_take_le k l
        have h3 : (onlyF v (l.take k)).length ≤ (l.take k).length := List.length_filter_le _ _
        omega
      obtain ⟨X5, C5, e5⟩ := own_slice H.out.1
      subst e5
      have HV : Hid ((traits l[k].1).vow = vowF l[k]) := Lib.hid rfl
      generalize onlyF v (l.take k) = out at *
      generalize l[k] = p at *
      have HN := Lib.hid hsn
      have i1 : (0 : Int) ≤ (k : Int) := by omega
      have i2 : (k : Int) < (n : Int) := by omega
      have hbw : b < wr.heap.size := Nat.lt_of_lt_of_le (Nat.lt_of_lt_of_le hbB hB) H.out.2.size
      clear p0 p1 p2 hsn hl
      go_wp2_with fail
      refine (refOf_any p.1 wr).mono ?_
      rintro e wa ⟨rfl, hb⟩
      rw [HV.out]
      have q0 := (hb.cell (p := ⟨b, o + k * 3, none⟩) hbw).trans r0
      have q1 := (hb.cell (p := ⟨b, o + k * 3 + 1, none⟩) hbw).trans r1
      have q2 := (hb.cell (p := ⟨b, o + k * 3 + 2, none⟩) hbw).trans r2
      have hbw2 := Nat.lt_of_lt_of_le hbw hb.size
      have HX := Lib.hid (And.intro (own_stay H.out.1 (Only.of_below hb _)) (H.out.2.trans (hb.mono H.out.2.size)))
      clear hb H r0 r1 r2
      generalize traits p.1 = t at *
      cases hvb : (vowF p == v) with
      | false =>
        have HB := Lib.hid hvb
        go_wp2
        go_roundw
        case rel => exact ⟨k + 1, by omega, by go_num, Lib.hid ⟨by rw [HN.out, HB.out]; simpa using HX.out.1.alloc _, HX.out.2.alloc HX.out.2.size _⟩⟩
        case measure => simp [intOf]; omega
      | true =>
        have HB := Lib.hid hvb
        go_upto_region 7 with (fail)
        refine wp_abs (fun wx => Below wa.heap.size wa wx ∧ wx.heap.size = wa.heap.size + 1) ⟨(Below.refl _ _).alloc (Nat.le_refl _) _, by simp⟩ ?_
        rintro wb ⟨hb, hs⟩
        have r0 := (hb.cell (p := ⟨b, o + k * 3, none⟩) hbw2).trans q0
        have r1 := (hb.cell (p := ⟨b, o + k * 3 + 1, none⟩) hbw2).trans q1
        have r2 := (hb.cell (p := ⟨b, o + k * 3 + 2, none⟩) hbw2).trans q2
        have HY := Lib.hid (And.intro (own_stay HX.out.1 (Only.of_below hb _)) (HX.out.2.trans (hb.mono HX.out.2.size)))
        clear hb hs q0 q1 q2 HX
        go_wp2_with (at_builtin; go_must (refine wpList_append_rd _ rfl _ _ 22 rfl w.heap.size 43 i0 (.agg #[.int .i32 0, .bool false, .int .i32 0]) 3 12 Try.underlying22 HI.out.1 HI.out.2.1 HI.out.2.2.1 HI.out.2.2.2 rfl (by decide) _ _ _ rfl (HY.out.1.alloc _) _ _ _ 1 1 _ rfl (rd_new _ _ _ _ rfl) (by simp [Value.oneCell']) (by unfold maxLen; omega) (by omega) (by have := HY.out.2.size; simp; omega) ?_; intro v4 w4 _ hown hgrow _; have H4 := Lib.hid (And.intro hown (((HY.out.2.alloc HY.out.2.size _).grown hgrow (by have := HY.out.2.size; simp; omega) (fun g hg => own_ge' HY.out.1 hg)))); clear hown hgrow))
        go_roundw
        case rel => exact ⟨k + 1, by omega, by go_num, Lib.hid ⟨by rw [HN.out, HB.out, if_pos rfl, phs_append, List.length_append]; exact H4.out.1, H4.out.2⟩⟩
        case measure => simp [intOf]; omega
    · have hkn : k = n := by omega
      subst hkn
      have HLL := Lib.hid (show l.take k = l by rw [List.take_of_length_le (by rw [HL.out]; exact Nat.le_refl _)])
      obtain ⟨X5, C5, e5⟩ := own_slice H.out.1
      subst e5
      go_wp2
      go_ret
      rw [HLL.out] at H ⊢
      exact ⟨X5, C5, rfl, H.out.1, H.out.2⟩

set_option maxHeartbeats 4000000 in
set_option maxRecDepth 100000 in
theorem refKind_any (x y : Sd) (BB : Nat) (w : World) (hx : SdIn w BB x) (hy : SdIn w BB y) (hBB : BB ≤ w.heap.size) (hm : mayB x = true ∧ mayB y = true) :
    Calls Try.prog 79 #[.agg #[.slice x.A x.n x.c, .slice x.D x.m x.d], .agg #[.slice y.A y.n y.c, .slice y.D y.m y.d]] w fun e w' => e = .returned (.int .i64 (kindF x.l y.l (tailF x.l x.ss) (tailF y.l y.ss) (headF x.l x.ss) (headF y.l y.ss))) ∧ Below w.heap.size w w' := by
  have HX := Lib.hid hx
  have HY := Lib.hid hy
  clear hx hy
  have HF := Lib.hid (form_of (by have := hm.1; unfold mayB at this; exact eq_of_beq this))
  have HG := Lib.hid (form_of (by have := hm.2; unfold mayB at this; exact eq_of_beq this))
  have HM := Lib.hid hm
  clear hm
  go_enter Try.func79, Try.ntmps79
  go_upto_region 1 with (fail)
  refine wp_abs (fun wx => Below w.heap.size w wx ∧ Blk wx w.heap.size 25 #[.slice x.A x.n x.c, .slice x.D x.m x.d] ∧ Blk wx (w.heap.size + 1) 25 #[.slice y.A y.n y.c, .slice y.D y.m y.d]) ⟨((Below.refl _ _).alloc (Nat.le_refl _) _).alloc (by simp) _, (Blk.new _ _ _).alloc _, blk_new_eq (by simp)⟩ ?_
  rintro w1 ⟨hb, hB1, hB2⟩
  have e1 : w1.cell? ⟨w.heap.size, 0, none⟩ = some (.slice x.A x.n x.c) := hB1.cell 0
  have f1 : w1.cell? ⟨w.heap.size, 1, none⟩ = some (.slice x.D x.m x.d) := hB1.cell 1
  have g1 : w1.cell? ⟨w.heap.size + 1, 0, none⟩ = some (.slice y.A y.n y.c) := hB2.cell 0
  have k1 : w1.cell? ⟨w.heap.size + 1, 1, none⟩ = some (.slice y.D y.m y.d) := hB2.cell 1
  have L1 : w.heap.size + 1 < w1.heap.size := hB2.lt
  have H1 := Lib.hid hb
  clear hb hB1 hB2
  have hmx : (tailF x.l x.ss).length ≤ 128 := (form_parts HF.out).2.2.1
  have hmy : (tailF y.l y.ss).length ≤ 128 := (form_parts HG.out).2.2.1
  go_wp2
  have Ye := e1
  have Yf := f1
  have Yg := g1
  have Yk := k1
  have Xe := Bel.cell e1
  have Xf := Bel.cell f1
  have Xg := Bel.cell g1
  have Xk := Bel.cell k1
  clear e1 f1 g1 k1
  have wf : ∀ k, Fence.wide.fn k := fun _ => trivial
  have wd : Fence.wide.depth = none := rfl
  refine wp_bel (by kernel_rfl) (by kernel_rfl) ?_
  repeat (gi_big_quiet_step (fail))
  gi_big_quiet_want
  gi_big_quiet_op
  refine ⟨.slice (tailA x) (tailF x.l x.ss).length (tailC x), fun z => ?_, ?_⟩
  · exact callsIn_wide.2 ((refTail_det x BB z.1 ((HX.out.below H1.out hBB).below z.2 (Nat.le_trans hBB H1.out.size)) (Nat.le_trans (Nat.le_trans hBB H1.out.size) z.2.size) HF.out).mono (fun e w' h => ⟨h.1, z.next h.2⟩))
  go_big_quiet_on
  repeat (gi_big_quiet_step (fail))
  gi_big_quiet_want
  gi_big_quiet_op
  refine ⟨.slice (tailA y) (tailF y.l y.ss).length (tailC y), fun z => ?_, ?_⟩
  · exact callsIn_wide.2 ((refTail_det y BB z.1 ((HY.out.below H1.out hBB).below z.2 (Nat.le_trans hBB H1.out.size)) (Nat.le_trans (Nat.le_trans hBB H1.out.size) z.2.size) HG.out).mono (fun e w' h => ⟨h.1, z.next h.2⟩))
  go_big_quiet_on
  repeat (gi_big_quiet_step (fail))
  refine wpQuietIn_nil ?_
  intro _ hw'
  obtain ⟨zW, hw''⟩ := hw'
  subst hw''
  have hb : Below w1.heap.size w1 zW.1 := zW.2
  generalize zW.1 = w2 at *
  clear Xe Xf Xg Xk wf wd
  have e1 := Ye
  have f1 := Yf
  have g1 := Yg
  have k1 := Yk
  clear Ye Yf Yg Yk
  have e2 := (hb.cell (p := ⟨w.heap.size, 0, none⟩) (show w.heap.size < w1.heap.size by have := L1; omega)).trans e1
  have f2 := (hb.cell (p := ⟨w.heap.size, 1, none⟩) (show w.heap.size < w1.heap.size by have := L1; omega)).trans f1
  have g2 := (hb.cell (p := ⟨w.heap.size + 1, 0, none⟩) L1).trans g1
  have k2 := (hb.cell (p := ⟨w.heap.size + 1, 1, none⟩) L1).trans k1
  have L2 := Nat.lt_of_lt_of_le L1 hb.size
  have H2 := Lib.hid (H1.out.trans (hb.mono H1.out.size))
  clear hb e1 f1 g1 k1
  go_wp2_with fail
  refine (refSame_any (tailA x) (tailA y) _ _ _ _ _ _ _ _ (tailF x.l x.ss) (tailF y.l y.ss) w2 (tail_rd (HX.out.below H2.out hBB) HF.out).1 (tail_rd (HY.out.below H2.out hBB) HG.out).1 (by unfold maxLen; omega) (by unfold maxLen; omega) (Nat.le_trans hBB H2.out.size) (Nat.le_trans hBB H2.out.size)).mono ?_
  rintro e w3 ⟨rfl, hb⟩
  have e3 := (hb.cell (p := ⟨w.heap.size, 0, none⟩) (show w.heap.size < w2.heap.size by have := L2; omega)).trans e2
  have f3 := (hb.cell (p := ⟨w.heap.size, 1, none⟩) (show w.heap.size < w2.heap.size by have := L2; omega)).trans f2
  have g3 := (hb.cell (p := ⟨w.heap.size + 1, 0, none⟩) L2).trans g2
  have k3 := (hb.cell (p := ⟨w.heap.size + 1, 1, none⟩) L2).trans k2
  have L3 := Nat.lt_of_lt_of_le L2 hb.size
  have H3 := Lib.hid (H2.out.trans (hb.mono H2.out.size))
  clear hb e2 f2 g2 k2
  by_cases ht : tailF x.l x.ss = tailF y.l y.ss
  · rw [decide_eq_true ht]
    have HT := Lib.hid ht
    clear ht hmx hmy
    go_wp2_with fail
    refine (refSame_any x.A y.A _ _ _ _ _ _ _ _ x.l y.l w3 ((HX.out.below H3.out hBB).ph) ((HY.out.below H3.out hBB).ph) (by have := HX.out.ph.len_ph; have := HF.out.n128; unfold maxLen; omega) (by have := HY.out.ph.len_ph; have := HG.out.n128; unfold maxLen; omega) (Nat.le_trans hBB H3.out.size) (Nat.le_trans hBB H3.out.size)).mono ?_
    rintro e w4 ⟨rfl, hb⟩
    have e4 := (hb.cell (p := ⟨w.heap.size, 0, none⟩) (show w.heap.size < w3.heap.size by have := L3; omega)).trans e3
    have f4 := (hb.cell (p := ⟨w.heap.size, 1, none⟩) (show w.heap.size < w3.heap.size by have := L3; omega)).trans f3
    have g4 := (hb.cell (p := ⟨w.heap.size + 1, 0, none⟩) L3).trans g3
    have k4 := (hb.cell (p := ⟨w.heap.size + 1, 1, none⟩) L3).trans k3
    have L4 := Nat.lt_of_lt_of_le L3 hb.size
    have H4 := Lib.hid (H3.out.trans (hb.mono H3.out.size))
    clear hb e3 f3 g3 k3
    by_cases hp : x.l = y.l
    · rw [decide_eq_true hp]
      have HV := Lib.hid (show kindF x.l y.l (tailF x.l x.ss) (tailF y.l y.ss) (headF x.l x.ss) (headF y.l y.ss) = 5 by unfold kindF; rw [if_pos HT.out, if_pos hp])
      clear hp
      go_wp2
      go_ret
      exact ⟨by rw [HV.out]; rfl, H4.out⟩
    rw [decide_eq_false hp]
    go_wp2
    have hmx : (headF x.l x.ss).length ≤ maxLen := by have := (form_parts HF.out).2.2.2; unfold maxLen; omega
    have hmy : (headF y.l y.ss).length ≤ maxLen := by have := (form_parts HG.out).2.2.2; unfold maxLen; omega
    have Ye := e4
    have Yf := f4
    have Yg := g4
    have Yk := k4
    have Xe := Bel.cell e4
    have Xf := Bel.cell f4
    have Xg := Bel.cell g4
    have Xk := Bel.cell k4
    clear e4 f4 g4 k4
    have wf : ∀ k, Fence.wide.fn k := fun _ => trivial
    have wd : Fence.wide.depth = none := rfl
    refine wp_bel (by kernel_rfl) (by kernel_rfl) ?_
    repeat (gi_big_quiet_step (fail))
    gi_big_quiet_want
    gi_big_quiet_op
    refine ⟨.slice (headA x) (headF x.l x.ss).length (headC x), fun z => ?_, ?_⟩
    · exact callsIn_wide.2 ((refHead_det x BB z.1 ((HX.out.below H4.out hBB).below z.2 (Nat.le_trans hBB H4.out.size)) (Nat.le_trans (Nat.le_trans hBB H4.out.size) z.2.size) HF.out).mono (fun e w' h => ⟨h.1, z.next h.2⟩))
    go_big_quiet_on
    repeat (gi_big_quiet_step (fail))
    gi_big_quiet_want
    gi_big_quiet_op
    refine ⟨.slice (headA y) (headF y.l y.ss).length (headC y), fun z => ?_, ?_⟩
    · exact callsIn_wide.2 ((refHead_det y BB z.1 ((HY.out.below H4.out hBB).below z.2 (Nat.le_trans hBB H4.out.size)) (Nat.le_trans (Nat.le_trans hBB H4.out.size) z.2.size) HG.out).mono (fun e w' h => ⟨h.1, z.next h.2⟩))
    go_big_quiet_on
    repeat (gi_big_quiet_step (fail))
    gi_big_quiet_want
    gi_big_quiet_op
    refine ⟨.bool (decide (headF x.l x.ss = headF y.l y.ss)), fun z => ?_, ?_⟩
    · exact callsIn_wide.2 ((refSame_any (headA x) (headA y) _ _ _ _ _ _ _ _ (headF x.l x.ss) (headF y.l y.ss) z.1 (head_rd ((HX.out.below H4.out hBB).below z.2 (Nat.le_trans hBB H4.out.size)) HF.out).1 (head_rd ((HY.out.below H4.out hBB).below z.2 (Nat.le_trans hBB H4.out.size)) HG.out).1 hmx hmy (Nat.le_trans (Nat.le_trans hBB H4.out.size) z.2.size) (Nat.le_trans (Nat.le_trans hBB H4.out.size) z.2.size)).mono (fun e w' h => ⟨h.1, z.next h.2⟩))
    go_big_quiet_on
    repeat (gi_big_quiet_step (fail))
    refine wpQuietIn_nil ?_
    intro _ hw'
    obtain ⟨zW, hw''⟩ := hw'
    subst hw''
    have hb : Below w4.heap.size w4 zW.1 := zW.2
    generalize zW.1 = w5 at *
    clear Xe Xf Xg Xk wf wd
    have e4 := Ye
    have f4 := Yf
    have g4 := Yg
    have k4 := Yk
    clear Ye Yf Yg Yk
    have e5 := (hb.cell (p := ⟨w.heap.size, 0, none⟩) (show w.heap.size < w4.heap.size by have := L4; omega)).trans e4
    have f5 := (hb.cell (p := ⟨w.heap.size, 1, none⟩) (show w.heap.size < w4.heap.size by have := L4; omega)).trans f4
    have g5 := (hb.cell (p := ⟨w.heap.size + 1, 0, none⟩) L4).trans g4
    have k5 := (hb.cell (p := ⟨w.heap.size + 1, 1, none⟩) L4).trans k4
    have L5 := Nat.lt_of_lt_of_le L4 hb.size
    have H5 := Lib.hid (H4.out.trans (hb.mono H4.out.size))
    clear hb e4 f4 g4 k4
    clear hmx hmy
    by_cases hh : headF x.l x.ss = headF y.l y.ss
    · rw [decide_eq_true hh]
      have HV := Lib.hid (show kindF x.l y.l (tailF x.l x.ss) (tailF y.l y.ss) (headF x.l x.ss) (headF y.l y.ss) = 4 by unfold kindF; rw [if_pos HT.out, if_neg hp, if_pos hh])
      clear hh hp
      go_wp2
      go_ret
      exact ⟨by rw [HV.out]; rfl, H5.out⟩
    · rw [decide_eq_false hh]
      have HV := Lib.hid (show kindF x.l y.l (tailF x.l x.ss) (tailF y.l y.ss) (headF x.l x.ss) (headF y.l y.ss) = 3 by unfold kindF; rw [if_pos HT.out, if_neg hp, if_neg hh])
      clear hh hp
      go_wp2
      go_ret
      exact ⟨by rw [HV.out]; rfl, H5.out⟩
  · rw [decide_eq_false ht]
    have HN := Lib.hid ht
    clear ht
    go_wp2_with fail
    refine (only_any (tailA x) _ _ _ _ (tailF x.l x.ss) true w3 (tail_rd (HX.out.below H3.out hBB) HF.out).1 (Nat.le_trans hBB H3.out.size) hmx).mono ?_
    rintro e w4 ⟨P1, D1, rfl, ho, hb⟩
    have e4 := (hb.cell (p := ⟨w.heap.size, 0, none⟩) (show w.heap.size < w3.heap.size by have := L3; omega)).trans e3
    have f4 := (hb.cell (p := ⟨w.heap.size, 1, none⟩) (show w.heap.size < w3.heap.size by have := L3; omega)).trans f3
    have g4 := (hb.cell (p := ⟨w.heap.size + 1, 0, none⟩) L3).trans g3
    have k4 := (hb.cell (p := ⟨w.heap.size + 1, 1, none⟩) L3).trans k3
    have L4 := Nat.lt_of_lt_of_le L3 hb.size
    have H4 := Lib.hid (H3.out.trans (hb.mono H3.out.size))
    have I4 : Hid (Below w4.heap.size w4 w4) := Lib.hid (Below.refl _ _)
    have HO1 := Lib.hid ho
    clear ho
    clear hb e3 f3 g3 k3
    go_wp2_with fail
    refine (only_any (tailA y) _ _ _ _ (tailF y.l y.ss) true w4 (tail_rd (HY.out.below H4.out hBB) HG.out).1 (Nat.le_trans hBB H4.out.size) hmy).mono ?_
    rintro e w5 ⟨P2, D2, rfl, ho, hb⟩
    have e5 := (hb.cell (p := ⟨w.heap.size, 0, none⟩) (show w.heap.size < w4.heap.size by have := L4; omega)).trans e4
    have f5 := (hb.cell (p := ⟨w.heap.size, 1, none⟩) (show w.heap.size < w4.heap.size by have := L4; omega)).trans f4
    have g5 := (hb.cell (p := ⟨w.heap.size + 1, 0, none⟩) L4).trans g4
    have k5 := (hb.cell (p := ⟨w.heap.size + 1, 1, none⟩) L4).trans k4
    have L5 := Nat.lt_of_lt_of_le L4 hb.size
    have H5 := Lib.hid (H4.out.trans (hb.mono H4.out.size))
    have I5 := Lib.hid (I4.out.trans (hb.mono I4.out.size))
    have J5 : Hid (Below w5.heap.size w5 w5) := Lib.hid (Below.refl _ _)
    have HO2 := Lib.hid ho
    clear ho
    clear hb e4 f4 g4 k4
    have HIJ := I5.out
    go_wp2_with fail
    refine (refSame_any P1 P2 _ _ _ _ _ _ _ _ (onlyF true (tailF x.l x.ss)) (onlyF true (tailF y.l y.ss)) w5 ((own_rd HO1.out).below HIJ (Nat.le_refl _)) (own_rd HO2.out) (only_max true HF.out) (only_max true HG.out) HIJ.size (Nat.le_refl _)).mono ?_
    rintro e w6 ⟨rfl, hb⟩
    have e6 := (hb.cell (p := ⟨w.heap.size, 0, none⟩) (show w.heap.size < w5.heap.size by have := L5; omega)).trans e5
    have f6 := (hb.cell (p := ⟨w.heap.size, 1, none⟩) (show w.heap.size < w5.heap.size by have := L5; omega)).trans f5
    have g6 := (hb.cell (p := ⟨w.heap.size + 1, 0, none⟩) L5).trans g5
    have k6 := (hb.cell (p := ⟨w.heap.size + 1, 1, none⟩) L5).trans k5
    have L6 := Nat.lt_of_lt_of_le L5 hb.size
    have H6 := Lib.hid (H5.out.trans (hb.mono H5.out.size))
    have I6 := Lib.hid (I5.out.trans (hb.mono I5.out.size))
    have J6 := Lib.hid (J5.out.trans (hb.mono J5.out.size))
    clear HIJ
    clear hb e5 f5 g5 k5
    by_cases hv : onlyF true (tailF x.l x.ss) = onlyF true (tailF y.l y.ss)
    · rw [decide_eq_true hv]
      have HV := Lib.hid (show kindF x.l y.l (tailF x.l x.ss) (tailF y.l y.ss) (headF x.l x.ss) (headF y.l y.ss) = 2 by unfold kindF; rw [if_neg HN.out, if_pos hv])
      clear hv
      go_wp2
      go_ret
      exact ⟨by rw [HV.out]; rfl, H6.out⟩
    rw [decide_eq_false hv]
    have HU := Lib.hid hv
    clear hv
    go_wp2_with fail
    refine (only_any (tailA x) _ _ _ _ (tailF x.l x.ss) false w6 (tail_rd (HX.out.below H6.out hBB) HF.out).1 (Nat.le_trans hBB H6.out.size) hmx).mono ?_
    rintro e w7 ⟨P3, D3, rfl, ho, hb⟩
    have e7 := (hb.cell (p := ⟨w.heap.size, 0, none⟩) (show w.heap.size < w6.heap.size by have := L6; omega)).trans e6
    have f7 := (hb.cell (p := ⟨w.heap.size, 1, none⟩) (show w.heap.size < w6.heap.size by have := L6; omega)).trans f6
    have g7 := (hb.cell (p := ⟨w.heap.size + 1, 0, none⟩) L6).trans g6
    have k7 := (hb.cell (p := ⟨w.heap.size + 1, 1, none⟩) L6).trans k6
    have L7 := Nat.lt_of_lt_of_le L6 hb.size
    have H7 := Lib.hid (H6.out.trans (hb.mono H6.out.size))
    have I7 := Lib.hid (I6.out.trans (hb.mono I6.out.size))
    have J7 := Lib.hid (J6.out.trans (hb.mono J6.out.size))
    have M7 : Hid (Below w7.heap.size w7 w7) := Lib.hid (Below.refl _ _)
    have HO3 := Lib.hid ho
    clear ho
    clear hb e6 f6 g6 k6
    by_cases hc : (onlyF false (tailF x.l x.ss)).length = 0
    · have HV := Lib.hid (show kindF x.l y.l (tailF x.l x.ss) (tailF y.l y.ss) (headF x.l x.ss) (headF y.l y.ss) = 0 by unfold kindF; rw [if_neg HN.out, if_neg HU.out, if_neg (by omega)])
      rw [hc]
      go_wp2
      go_ret
      exact ⟨by rw [HV.out]; rfl, H7.out⟩
    obtain ⟨nc, hnc⟩ : ∃ nc, nc = (onlyF false (tailF x.l x.ss)).length := ⟨_, rfl⟩
    rw [← hnc]
    have d1 : decide ((0 : Int) < (nc : Int)) = true := by simp; omega
    have d2 : (0 : Int) < (nc : Int) := by omega
    have HC := Lib.hid (And.intro hc hnc)
    clear hc hnc
    go_wp2_with fail
    refine (only_any (tailA y) _ _ _ _ (tailF y.l y.ss) false w7 (tail_rd (HY.out.below H7.out hBB) HG.out).1 (Nat.le_trans hBB H7.out.size) hmy).mono ?_
    rintro e w8 ⟨P4, D4, rfl, ho, hb⟩
    have e8 := (hb.cell (p := ⟨w.heap.size, 0, none⟩) (show w.heap.size < w7.heap.size by have := L7; omega)).trans e7
    have f8 := (hb.cell (p := ⟨w.heap.size, 1, none⟩) (show w.heap.size < w7.heap.size by have := L7; omega)).trans f7
    have g8 := (hb.cell (p := ⟨w.heap.size + 1, 0, none⟩) L7).trans g7
    have k8 := (hb.cell (p := ⟨w.heap.size + 1, 1, none⟩) L7).trans k7
    have L8 := Nat.lt_of_lt_of_le L7 hb.size
    have H8 := Lib.hid (H7.out.trans (hb.mono H7.out.size))
    have I8 := Lib.hid (I7.out.trans (hb.mono I7.out.size))
    have J8 := Lib.hid (J7.out.trans (hb.mono J7.out.size))
    have M8 := Lib.hid (M7.out.trans (hb.mono M7.out.size))
    have N8 : Hid (Below w8.heap.size w8 w8) := Lib.hid (Below.refl _ _)
    have HO4 := Lib.hid ho
    clear ho
    clear hb e7 f7 g7 k7
    have HIJ := M8.out
    rw [HC.out.2]
    go_wp2_with fail
    refine (refSame_any P3 P4 _ _ _ _ _ _ _ _ (onlyF false (tailF x.l x.ss)) (onlyF false (tailF y.l y.ss)) w8 ((own_rd HO3.out).below HIJ (Nat.le_refl _)) (own_rd HO4.out) (only_max false HF.out) (only_max false HG.out) HIJ.size (Nat.le_refl _)).mono ?_
    rintro e w9 ⟨rfl, hb⟩
    have e9 := (hb.cell (p := ⟨w.heap.size, 0, none⟩) (show w.heap.size < w8.heap.size by have := L8; omega)).trans e8
    have f9 := (hb.cell (p := ⟨w.heap.size, 1, none⟩) (show w.heap.size < w8.heap.size by have := L8; omega)).trans f8
    have g9 := (hb.cell (p := ⟨w.heap.size + 1, 0, none⟩) L8).trans g8
    have k9 := (hb.cell (p := ⟨w.heap.size + 1, 1, none⟩) L8).trans k8
    have L9 := Nat.lt_of_lt_of_le L8 hb.size
    have H9 := Lib.hid (H8.out.trans (hb.mono H8.out.size))
    have I9 := Lib.hid (I8.out.trans (hb.mono I8.out.size))
    have J9 := Lib.hid (J8.out.trans (hb.mono J8.out.size))
    have M9 := Lib.hid (M8.out.trans (hb.mono M8.out.size))
    have N9 := Lib.hid (N8.out.trans (hb.mono N8.out.size))
    clear HIJ
    clear hb e8 f8 g8 k8
    by_cases hv : onlyF false (tailF x.l x.ss) = onlyF false (tailF y.l y.ss)
    · rw [decide_eq_true hv]
      have HV := Lib.hid (show kindF x.l y.l (tailF x.l x.ss) (tailF y.l y.ss) (headF x.l x.ss) (headF y.l y.ss) = 1 by unfold kindF; rw [if_neg HN.out, if_neg HU.out, if_pos ⟨Nat.pos_of_ne_zero HC.out.1, hv⟩])
      clear hv
      go_wp2
      go_ret
      exact ⟨by rw [HV.out]; rfl, H9.out⟩
    · rw [decide_eq_false hv]
      have HV := Lib.hid (show kindF x.l y.l (tailF x.l x.ss) (tailF y.l y.ss) (headF x.l x.ss) (headF y.l y.ss) = 0 by unfold kindF; rw [if_neg HN.out, if_neg HU.out, if_neg (fun h => hv h.2)])
      clear hv
      go_wp2
      go_ret
      exact ⟨by rw [HV.out]; rfl, H9.out⟩
end Go.Proofs.Ytogofchpocoebaa
