/- RhymeKeys: the law walked. -/
import Derived.Test.YtogofchpocoebaaY9
import Derived.Test.YtogofchpocoebaaY11
namespace Go.Proofs.Ytogofchpocoebaa
open Go.RowKit Go.Maps

set_option maxHeartbeats 4000000 in
set_option maxRecDepth 100000 in
theorem rhymeKeys_bad (x : Sd) (BB : Nat) (w : World) (hx : SdIn w BB x) (hBB : BB ≤ w.heap.size) (hm : mayB x = false) :
    Calls Try.prog 9 #[.agg #[.slice x.A x.n x.c, .slice x.D x.m x.d]] w fun e w' => e = .returned (.bool true) ∧ Below w.heap.size w w' := by
  have HX := Lib.hid hx
  have HM := Lib.hid hm
  clear hx hm
  go_enter Try.func9, Try.ntmps9
  go_upto_region 1 with (fail)
  refine wp_abs (fun wx => Below w.heap.size w wx ∧ Blk wx w.heap.size 25 #[.slice x.A x.n x.c, .slice x.D x.m x.d]) ⟨(Below.refl _ _).alloc (Nat.le_refl _) _, Blk.new _ _ _⟩ ?_
  rintro w1 ⟨hb, hB1⟩
  have e1 : w1.cell? ⟨w.heap.size, 0, none⟩ = some (.slice x.A x.n x.c) := hB1.cell 0
  have f1 : w1.cell? ⟨w.heap.size, 1, none⟩ = some (.slice x.D x.m x.d) := hB1.cell 1
  have L1 : w.heap.size < w1.heap.size := hB1.lt
  have H1 := Lib.hid hb
  clear hb hB1
  go_wp2_with fail
  refine (wakes15_any w1).mono ?_
  rintro e w2 ⟨rfl, hb⟩
  have e2 := (hb.cell (p := ⟨w.heap.size, 0, none⟩) L1).trans e1
  have f2 := (hb.cell (p := ⟨w.heap.size, 1, none⟩) L1).trans f1
  have L2 := Nat.lt_of_lt_of_le L1 hb.size
  have H2 := Lib.hid (H1.out.trans (hb.mono H1.out.size))
  clear hb e1 f1
  go_wp2_with fail
  refine (keyUp_any x BB w2 (HX.out.below H2.out hBB) (Nat.le_trans hBB H2.out.size)).mono ?_
  rintro e w3 ⟨rfl, hb⟩
  have e3 := (hb.cell (p := ⟨w.heap.size, 0, none⟩) L2).trans e2
  have f3 := (hb.cell (p := ⟨w.heap.size, 1, none⟩) L2).trans f2
  have L3 := Nat.lt_of_lt_of_le L2 hb.size
  have H3 := Lib.hid (H2.out.trans (hb.mono H2.out.size))
  clear hb e2 f2
  simp only [HM.out, Bool.false_eq_true, if_false]
  rw [show bts [] = ⟨#[]⟩ from rfl]
  go_wp2_with fail
  refine (refMayR_any x BB w3 (HX.out.below H3.out hBB) (Nat.le_trans hBB H3.out.size)).mono ?_
  rintro e w4 ⟨rfl, hb⟩
  have e4 := (hb.cell (p := ⟨w.heap.size, 0, none⟩) L3).trans e3
  have f4 := (hb.cell (p := ⟨w.heap.size, 1, none⟩) L3).trans f3
  have L4 := Nat.lt_of_lt_of_le L3 hb.size
  have H4 := Lib.hid (H3.out.trans (hb.mono H3.out.size))
  clear hb e3 f3
  rw [HM.out]
  go_wp2
  go_ret
  exact ⟨rfl, H4.out⟩
set_option maxHeartbeats 4000000 in
set_option maxRecDepth 100000 in
theorem rhymeKeys_ok (x : Sd) (BB : Nat) (w : World) (hx : SdIn w BB x) (hBB : BB ≤ w.heap.size) (hm : mayB x = true) :
    Calls Try.prog 9 #[.agg #[.slice x.A x.n x.c, .slice x.D x.m x.d]] w fun e w' => e = .returned (.bool true) ∧ Below w.heap.size w w' := by
  have HX := Lib.hid hx
  have HM := Lib.hid hm
  have HG := Lib.hid (show mayF x.l x.ss = 0 from by have := hm; unfold mayB at this; exact eq_of_beq this)
  clear hx hm
  go_enter Try.func9, Try.ntmps9
  go_upto_region 1 with (fail)
  refine wp_abs (fun wx => Below w.heap.size w wx ∧ Blk wx w.heap.size 25 #[.slice x.A x.n x.c, .slice x.D x.m x.d]) ⟨(Below.refl _ _).alloc (Nat.le_refl _) _, Blk.new _ _ _⟩ ?_
  rintro w1 ⟨hb, hB1⟩
  have e1 : w1.cell? ⟨w.heap.size, 0, none⟩ = some (.slice x.A x.n x.c) := hB1.cell 0
  have f1 : w1.cell? ⟨w.heap.size, 1, none⟩ = some (.slice x.D x.m x.d) := hB1.cell 1
  have L1 : w.heap.size < w1.heap.size := hB1.lt
  have H1 := Lib.hid hb
  clear hb hB1
  go_wp2_with fail
  refine (wakes15_any w1).mono ?_
  rintro e w2 ⟨rfl, hb⟩
  have e2 := (hb.cell (p := ⟨w.heap.size, 0, none⟩) L1).trans e1
  have f2 := (hb.cell (p := ⟨w.heap.size, 1, none⟩) L1).trans f1
  have L2 := Nat.lt_of_lt_of_le L1 hb.size
  have H2 := Lib.hid (H1.out.trans (hb.mono H1.out.size))
  clear hb e1 f1
  go_wp2_with fail
  refine (keyUp_any x BB w2 (HX.out.below H2.out hBB) (Nat.le_trans hBB H2.out.size)).mono ?_
  rintro e w3 ⟨rfl, hb⟩
  have e3 := (hb.cell (p := ⟨w.heap.size, 0, none⟩) L2).trans e2
  have f3 := (hb.cell (p := ⟨w.heap.size, 1, none⟩) L2).trans f2
  have L3 := Nat.lt_of_lt_of_le L2 hb.size
  have H3 := Lib.hid (H2.out.trans (hb.mono H2.out.size))
  clear hb e2 f2
  simp only [HM.out, if_true]
  go_wp2_with fail
  refine (tailUp_any x BB w3 (HX.out.below H3.out hBB) (Nat.le_trans hBB H3.out.size)).mono ?_
  rintro e w4 ⟨T, TC, rfl, hT, hb⟩
  have e4 := (hb.cell (p := ⟨w.heap.size, 0, none⟩) L3).trans e3
  have f4 := (hb.cell (p := ⟨w.heap.size, 1, none⟩) L3).trans f3
  have L4 := Nat.lt_of_lt_of_le L3 hb.size
  have H4 := Lib.hid (H3.out.trans (hb.mono H3.out.size))
  have J4 : Hid (Below w4.heap.size w4 w4) := Lib.hid (Below.refl _ _)
  have HT := Lib.hid (hT HM.out)
  clear hT
  clear hb e3 f3
  simp only [HM.out, if_true]
  obtain ⟨h128, _⟩ := (form_parts (form_of HG.out)).2.2
  obtain ⟨p, r, hpr, hv, hp⟩ := tail_vow HG.out
  obtain ⟨hd1, hd2, hd3, hd4⟩ := text_head (r := r) hp
  have hrd := tail_read HG.out
  have htl := texts_len _ (form_parts (form_of HG.out)).1
  rw [hpr] at hrd h128 HT htl ⊢
  go_wp2_with fail
  refine (read_any (bts (texts (p :: r))) w4 (by rw [bts_size]; unfold maxLen; omega)).mono ?_
  rintro e w5 ⟨lv, rfl, ho, hb⟩
  have e5 := (hb.cell (p := ⟨w.heap.size, 0, none⟩) L4).trans e4
  have f5 := (hb.cell (p := ⟨w.heap.size, 1, none⟩) L4).trans f4
  have L5 := Nat.lt_of_lt_of_le L4 hb.size
  have H5 := Lib.hid (H4.out.trans (hb.mono H4.out.size))
  have J5 := Lib.hid (J4.out.trans (hb.mono J4.out.size))
  have K5 : Hid (Below w5.heap.size w5 w5) := Lib.hid (Below.refl _ _)
  rw [show (bts (texts (p :: r))).data.toList = texts (p :: r) from rfl, hrd] at ho ⊢
  obtain ⟨LA, LC, rfl⟩ := own_slice ho
  have HL := Lib.hid ho
  clear ho hrd
  clear hb e4 f4
  go_upto_region 8 with (fail)
  refine wp_abs (fun wx => Below w5.heap.size w5 wx ∧ Blk wx w5.heap.size 68 #[.int .i64 0, .int .i64 0]) ⟨(Below.refl _ _).alloc (Nat.le_refl _) _, Blk.new _ _ _⟩ ?_
  rintro w6 ⟨hb, hBs⟩
  have g6 : w6.cell? ⟨w5.heap.size, 0, none⟩ = some (.int .i64 0) := hBs.cell 0
  have M6 : w5.heap.size < w6.heap.size := hBs.lt
  clear hBs
  have e6 := (hb.cell (p := ⟨w.heap.size, 0, none⟩) L5).trans e5
  have f6 := (hb.cell (p := ⟨w.heap.size, 1, none⟩) L5).trans f5
  have L6 := Nat.lt_of_lt_of_le L5 hb.size
  have H6 := Lib.hid (H5.out.trans (hb.mono H5.out.size))
  have J6 := Lib.hid (J5.out.trans (hb.mono J5.out.size))
  have K6 := Lib.hid (K5.out.trans (hb.mono K5.out.size))
  obtain ⟨sb, hsb⟩ : ∃ sb, sb = w5.heap.size := ⟨_, rfl⟩
  rw [← hsb] at g6 M6
  clear hb e5 f5
  rw [← hsb]
  clear hsb
  have hne : texts (p :: r) ≠ [] := by intro h; rw [h] at hd4; simp at hd4
  have h0 : 0 < (bts (texts (p :: r))).size := by rw [bts_size]; omega
  go_wp2
  refine wp_loop_rounds 1 ?_
  rw [rounds_succ]
  refine wp_abs (fun wx => Below w6.heap.size w6 wx ∧ wx.heap[w6.heap.size]? = some (.stringIter (bts (texts (p :: r))) 0)) ⟨iter_below _ _ _, World.iter_heap _ _ _⟩ ?_
  rintro wx ⟨hb, hi⟩
  have hnx : ∀ ty, (Instr.next (.pointer (some ⟨w6.heap.size, 0, none⟩)) true ty).run Try.prog wx = _ := fun ty => Lib.run_next_any_at wx w6.heap.size (bts (texts (p :: r))) 0 ty hi h0
  simp only [Nat.zero_add] at hnx
  have hdr : ((Utf8.decode (bts (texts (p :: r))) 0).1 : Int) = p.1 := by rw [hd1]; omega
  have hb2 : ∀ y, Below w6.heap.size w6 (wx.iterAt w6.heap.size (bts (texts (p :: r))) y) := fun y => hb.trans ((Only.iterAt (S := fun b => b = w6.heap.size) (Only.refl _ wx) (.inl rfl) _ y).below hb.size (fun b hk e => by omega))
  generalize (Utf8.decode (bts (texts (p :: r))) 0).1 = rn at *
  generalize (Utf8.decode (bts (texts (p :: r))) 0).2 = dw at *
  have HP := Lib.hid (And.intro hv hp)
  have HB2 := Lib.hid hb2
  have HR := Lib.hid hdr
  clear hd1 hd2 hd3 hd4 hne hv hp hb hi hb2 hdr h0
  go_upto_region 11 with (fail)
  refine wp_abs (fun wx => Below w6.heap.size w6 wx) (HB2.out dw) ?_
  intro w7 hb
  clear hnx HB2
  have g7 := (hb.cell (p := ⟨sb, 0, none⟩) M6).trans g6
  have M7 := Nat.lt_of_lt_of_le M6 hb.size
  have e7 := (hb.cell (p := ⟨w.heap.size, 0, none⟩) L6).trans e6
  have f7 := (hb.cell (p := ⟨w.heap.size, 1, none⟩) L6).trans f6
  have L7 := Nat.lt_of_lt_of_le L6 hb.size
  have H7 := Lib.hid (H6.out.trans (hb.mono H6.out.size))
  have J7 := Lib.hid (J6.out.trans (hb.mono J6.out.size))
  have K7 := Lib.hid (K6.out.trans (hb.mono K6.out.size))
  clear g6 M6
  rw [HR.out]
  try rw [HR.out]
  clear hb e6 f6
  go_wp2_with fail
  refine (refOf_any p.1 w7).mono ?_
  rintro e w8 ⟨rfl, hb⟩
  have e8 := (hb.cell (p := ⟨w.heap.size, 0, none⟩) L7).trans e7
  have f8 := (hb.cell (p := ⟨w.heap.size, 1, none⟩) L7).trans f7
  have L8 := Nat.lt_of_lt_of_le L7 hb.size
  have H8 := Lib.hid (H7.out.trans (hb.mono H7.out.size))
  have J8 := Lib.hid (J7.out.trans (hb.mono J7.out.size))
  have K8 := Lib.hid (K7.out.trans (hb.mono K7.out.size))
  have g8 := (hb.cell (p := ⟨sb, 0, none⟩) M7).trans g7
  have M8 := Nat.lt_of_lt_of_le M7 hb.size
  clear g7 M7
  rw [show (traits p.1).vow = true from HP.out.1, show (tabF p.1).isSome = true from (isF_tab HP.out.2).1]
  clear hb e7 f7
  go_upto_region 14 with (fail)
  refine wp_abs (fun wx => Below w8.heap.size w8 wx) ((Below.refl _ _).alloc (Nat.le_refl _) _) ?_
  intro w9 hb
  have g9 := (hb.cell (p := ⟨sb, 0, none⟩) M8).trans g8
  have M9 := Nat.lt_of_lt_of_le M8 hb.size
  have e9 := (hb.cell (p := ⟨w.heap.size, 0, none⟩) L8).trans e8
  have f9 := (hb.cell (p := ⟨w.heap.size, 1, none⟩) L8).trans f8
  have L9 := Nat.lt_of_lt_of_le L8 hb.size
  have H9 := Lib.hid (H8.out.trans (hb.mono H8.out.size))
  have J9 := Lib.hid (J8.out.trans (hb.mono J8.out.size))
  have K9 := Lib.hid (K8.out.trans (hb.mono K8.out.size))
  clear g8 M8
  clear hb e8 f8
  have k1 : decide ((0 : Int) < ((p :: r).length : Int)) = true := by simp
  go_wp2_with fail
  refine (refSame_any LA T _ LC _ TC _ _ _ _ (p :: r) (p :: r) w9 ((own_rd HL.out).below K9.out (Nat.le_refl _)) ((own_rd HT.out).below J9.out (Nat.le_refl _)) (by unfold maxLen; omega) (by unfold maxLen; omega) K9.out.size J9.out.size).mono ?_
  rintro e w10 ⟨rfl, hb⟩
  have e10 := (hb.cell (p := ⟨w.heap.size, 0, none⟩) L9).trans e9
  have f10 := (hb.cell (p := ⟨w.heap.size, 1, none⟩) L9).trans f9
  have L10 := Nat.lt_of_lt_of_le L9 hb.size
  have H10 := Lib.hid (H9.out.trans (hb.mono H9.out.size))
  have J10 := Lib.hid (J9.out.trans (hb.mono J9.out.size))
  have K10 := Lib.hid (K9.out.trans (hb.mono K9.out.size))
  clear hb e9 f9
  rw [show decide (p :: r = p :: r) = true from decide_eq_true rfl]
  go_wp2
  go_ret
  exact ⟨rfl, H10.out⟩

theorem rhymeKeys_any (x : Sd) (BB : Nat) (w : World) (hx : SdIn w BB x) (hBB : BB ≤ w.heap.size) :
    Calls Try.prog 9 #[.agg #[.slice x.A x.n x.c, .slice x.D x.m x.d]] w fun e w' => e = .returned (.bool true) ∧ Below w.heap.size w w' := by
  cases hm : mayB x with
  | false => exact rhymeKeys_bad x BB w hx hBB hm
  | true => exact rhymeKeys_ok x BB w hx hBB hm
end Go.Proofs.Ytogofchpocoebaa
