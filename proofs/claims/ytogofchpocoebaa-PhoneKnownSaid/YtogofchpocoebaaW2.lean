/- syllable.Onset. -/
import Derived.Test.YtogofchpocoebaaW1
import Derived.Test.YtogofchpocoebaaU0
import Derived.Test.YtogofchpocoebaaY1
namespace Go.Proofs.Ytogofchpocoebaa
open Go.RowKit Go.Maps

set_option maxHeartbeats 4000000 in
set_option maxRecDepth 100000 in
theorem indexRune_one (s : ByteArray) (r : Int) (h1 : 0 ≤ r) (h2 : r < 128) (w : World) :
    Calls Try.prog 164 #[.string s, .int .i32 r] w fun e w' => e = .returned (.int .i64 (Lib.indexByte s.data.toList r.toNat.toUInt8)) ∧ Below w.heap.size w w' := by
  have d1 : decide ((0 : Int) ≤ r) = true := decide_eq_true h1
  have d2 : decide (r < 128) = true := decide_eq_true h2
  have d3 : ¬ r < 0 := by omega
  have hw : IntKind.u8.wrap r = r := IntWalk.u8_in r (by omega)
  clear h1 h2 d3
  go_enter Try.func164, Try.ntmps164
  go_wp2_with fail
  try rw [hw]
  refine (Try.strings_IndexByte s r w).mono ?_
  rintro e w1 ⟨rfl, rfl⟩
  go_wp2
  go_ret
  exact ⟨rfl, Below.refl _ _⟩
theorem containsRune_one (s : ByteArray) (r : Int) (h1 : 0 ≤ r) (h2 : r < 128) (w : World) :
    Calls Try.prog 143 #[.string s, .int .i32 r] w fun e w' => e = .returned (.bool (decide (0 ≤ Lib.indexByte s.data.toList r.toNat.toUInt8))) ∧ Below w.heap.size w w' := by
  go_enter Try.func143, Try.ntmps143
  go_wp2_with fail
  refine (indexRune_one s r h1 h2 w).mono ?_
  rintro e w1 ⟨rfl, hb⟩
  have H1 := Lib.hid hb
  clear hb
  generalize hv : Lib.indexByte s.data.toList r.toNat.toUInt8 = v at *
  go_wp2
  go_ret
  exact ⟨ret_bool (by rw [hv]), H1.out⟩
theorem contains_in (l : List UInt8) (ps : List Int) (hl : ∀ b ∈ l, b.toNat < 128) (hk : ∀ n : Fin 128, decide (0 ≤ Lib.indexByte l n.val.toUInt8) = ps.contains (n.val : Int)) (hp : ∀ x ∈ ps, x < 128) (r : Int) (h1 : 0 ≤ r) (h2 : r < 2048) (w : World) :
    Calls Try.prog 143 #[.string ⟨l.toArray⟩, .int .i32 r] w fun e w' => e = .returned (.bool (ps.contains r)) ∧ Below w.heap.size w w' := by
  by_cases h : r < 128
  · refine (containsRune_one ⟨l.toArray⟩ r h1 h w).mono ?_
    rintro e w1 ⟨rfl, hb⟩
    refine ⟨?_, hb⟩
    have := hk ⟨r.toNat, by omega⟩
    dsimp only at this
    rw [show ((r.toNat : Nat) : Int) = r by omega] at this
    exact ret_bool this
  · refine (containsRune_two ⟨l.toArray⟩ r (by omega) h2 (by simpa using hl) w).mono ?_
    rintro e w1 ⟨rfl, hb⟩
    refine ⟨ret_bool ?_, hb⟩
    symm
    rw [Bool.eq_false_iff]
    intro hc
    have := hp r (by simpa using hc)
    omega
theorem contains8 (r : Int) (h1 : 0 ≤ r) (h2 : r < 2048) (w : World) : Calls Try.prog 143 #[.string { data := #[112, 116, 107, 109, 110, 102, 108, 119] }, .int .i32 r] w fun e w' => e = .returned (.bool (pairs8.contains r)) ∧ Below w.heap.size w w' :=
  contains_in [112, 116, 107, 109, 110, 102, 108, 119] pairs8 (by decide) (by decide +kernel) (by decide) r h1 h2 w
theorem contains3 (r : Int) (h1 : 0 ≤ r) (h2 : r < 2048) (w : World) : Calls Try.prog 143 #[.string { data := #[112, 116, 107] }, .int .i32 r] w fun e w' => e = .returned (.bool (pairs3.contains r)) ∧ Below w.heap.size w w' :=
  contains_in [112, 116, 107] pairs3 (by decide) (by decide +kernel) (by decide) r h1 h2 w
theorem contains4 (r : Int) (h1 : 0 ≤ r) (h2 : r < 2048) (w : World) : Calls Try.prog 143 #[.string { data := #[108, 114, 106, 119] }, .int .i32 r] w fun e w' => e = .returned (.bool (pairs4.contains r)) ∧ Below w.heap.size w w' :=
  contains_in [108, 114, 106, 119] pairs4 (by decide) (by decide +kernel) (by decide) r h1 h2 w

theorem onOne_isF {n : Nat} {p : Ph} (h : onOne n p = true) : isF p = true ∧ vowF p = false := by
  unfold onOne at h
  simp only [Bool.and_eq_true, Bool.not_eq_true'] at h
  exact ⟨h.1.1.1, h.1.1.2⟩
theorem onOne_rune {n : Nat} {p : Ph} (h : onOne n p = true) : 0 ≤ p.1 ∧ p.1 < 2048 := tab_small (isF_tab (onOne_isF h).1).1

set_option maxHeartbeats 4000000 in
set_option maxRecDepth 100000 in
theorem onset_any (A : Option Addr) (n c L B : Nat) (l : List Ph) (w : World) (h : Rd w L B 3 A n (phs l)) (hB : B ≤ w.heap.size) (hz : n ≤ maxLen) (hf : ∀ p ∈ l, fitP p) :
    Calls Try.prog 85 #[.slice A n c] w fun e w' => e = .returned (.bool (onsetF l)) ∧ Below w.heap.size w w' := by
  unfold maxLen at hz
  have HN := Lib.hid h.len_ph
  have H := Lib.hid (And.intro h hf)
  have HO := Lib.hid (show onsetF l = (l.all (onOne l.length) && onShape l) from rfl)
  clear h hf
  go_enter Try.func85, Try.ntmps85
  go_wp2
  go_loopw [4, 5, 8] (fun _ _ v wr => ∃ k : Nat, k ≤ n ∧ v = .int .i64 k ∧ Hid (Below w.heap.size w wr ∧ (l.take k).all (onOne l.length) = true)) (fun _ _ v _ => n - (intOf v).toNat)
  case atStart => exact ⟨0, by omega, rfl, Below.refl _ _, rfl⟩
  case round =>
    obtain ⟨k, hk, rfl, HR⟩ := hrel
    by_cases hlt : k < n
    · obtain ⟨b, o, hl, rfl, hL, hB2, x0, x1, x2⟩ := (H.out.1.below HR.out.1 hB).ph hlt
      have hsn : l.take (k + 1) = l.take k ++ [l[k]] := List.take_succ_eq_append_getElem hl
      have hno : onOne l.length l[k] = false → onsetF l = false := fun h => by
        rw [HO.out]
        have : l.all (onOne l.length) = false := by
          cases hh : l.all (onOne l.length) with
          | false => rfl
          | true => rw [List.all_eq_true.1 hh _ (List.getElem_mem hl)] at h; cases h
        rw [this]; rfl
      have hft := H.out.2 _ (List.getElem_mem hl)
      have hon : onOne l.length l[k] = (!(sonF l[k] == 0 || sonF l[k] == 7) && l[k].1 != 331 && !(decide (1 < l.length) && l[k].2.1)) := by
        rw [son_bad]; unfold onOne; simp
      rw [show decide (1 < l.length) = decide (1 < n) by rw [HN.out]] at hon
      generalize l[k] = p at *
      have HSN := Lib.hid (And.intro hsn (And.intro hno (And.intro hft.1 hon)))
      clear hsn hno hL hB2 hft hon
      have i1 : (0 : Int) ≤ (k : Int) := by omega
      have i2 : (k : Int) < (n : Int) := by omega
      go_upto_region 4 with (fail)
      refine wp_abs (fun wx => Below w.heap.size w wx ∧ Blk wx wr.heap.size 43 #[.int .i32 p.1, .bool p.2.1, .int .i32 p.2.2]) ⟨HR.out.1.trans (((Below.refl _ _).alloc (Nat.le_refl _) _).mono HR.out.1.size), Blk.new _ _ _⟩ ?_
      clear x0 x1 x2
      generalize wr.heap.size = xb at *
      rintro wx ⟨hb, hX⟩
      have x0 : wx.cell? ⟨xb, 0, none⟩ = some (.int .i32 p.1) := hX.cell 0
      have x1 : wx.cell? ⟨xb, 1, none⟩ = some (.bool p.2.1) := hX.cell 1
      have x2 : wx.cell? ⟨xb, 2, none⟩ = some (.int .i32 p.2.2) := hX.cell 2
      have HX0 := Lib.hid (And.intro hb hX)
      clear hb hX
      go_wp2_with fail
      refine (son_any p _ HSN.out.2.2.1).mono ?_
      rintro e wz ⟨rfl, hb⟩
      have HX := Lib.hid (And.intro (HX0.out.1.trans (hb.mono HX0.out.1.size)) (HX0.out.2.below hb HX0.out.2.lt))
      clear hb x0 x1 x2 HX0
      have x0 : wz.cell? ⟨xb, 0, none⟩ = some (.int .i32 p.1) := HX.out.2.cell 0
      have x1 : wz.cell? ⟨xb, 1, none⟩ = some (.bool p.2.1) := HX.out.2.cell 1
      have fin : ∀ b, onOne l.length p = b → Hid (onOne l.length p = b) := fun _ h => h
      have HON := Lib.hid HSN.out.2.2.2
      generalize hS : sonF p = S at *
      clear hS
      cases c1 : (S == 0) with
      | true =>
        have HF := Lib.hid (HSN.out.2.1 (by rw [HON.out, c1]; rfl))
        go_wp2
        go_ret
        exact ⟨ret_bool HF.out.symm, HX.out.1⟩
      | false =>
      cases c2 : (S == 7) with
      | true =>
        have HF := Lib.hid (HSN.out.2.1 (by rw [HON.out, c1, c2]; rfl))
        go_wp2
        go_ret
        exact ⟨ret_bool HF.out.symm, HX.out.1⟩
      | false =>
      cases c3 : (p.1 == 331) with
      | true =>
        have HF := Lib.hid (HSN.out.2.1 (by rw [HON.out, c1, c2]; have e : (p.1 != 331) = false := by (show (!(p.1 == 331)) = false; rw [c3]; rfl)
                                            rw [e]; rfl))
        go_wp2
        go_ret
        exact ⟨ret_bool HF.out.symm, HX.out.1⟩
      | false =>
      have c3' : (p.1 != 331) = true := by (show (!(p.1 == 331)) = true; rw [c3]; rfl)
      cases c4 : p.2.1 with
      | false =>
        rw [c4] at x1
        have HF := Lib.hid (show onOne l.length p = true by rw [HON.out, c1, c2, c3', c4]; simp)
        clear c4
        go_wp2
        go_roundw
        case rel => exact ⟨k + 1, by omega, by go_num, Lib.hid ⟨HX.out.1, by rw [HSN.out.1, List.all_append, HR.out.2]; simp [HF.out]⟩⟩
        case measure => simp [intOf]; omega
      | true =>
        rw [c4] at x1
        by_cases c5 : 1 < n
        · have c5' : decide ((1 : Int) < (n : Int)) = true := by simp; omega
          have HF := Lib.hid (HSN.out.2.1 (by rw [HON.out, c1, c2, c3', c4, decide_eq_true c5]; rfl))
          clear c4
          go_wp2
          go_ret
          exact ⟨ret_bool HF.out.symm, HX.out.1⟩
        · have c5' : decide ((1 : Int) < (n : Int)) = false := by simp; omega
          have HF := Lib.hid (show onOne l.length p = true by rw [HON.out, c1, c2, c3', c4, decide_eq_false c5]; rfl)
          clear c4
          go_wp2
          go_roundw
          case rel => exact ⟨k + 1, by omega, by go_num, Lib.hid ⟨HX.out.1, by rw [HSN.out.1, List.all_append, HR.out.2]; simp [HF.out]⟩⟩
          case measure => simp [intOf]; omega
    · have hkn : k = n := by omega
      subst hkn
      have HL := Lib.hid (show l.all (onOne l.length) = true by have := HR.out.2; rwa [List.take_of_length_le (by rw [HN.out]; exact Nat.le_refl _)] at this)
      obtain ⟨V, hV⟩ : ∃ V, V = onsetF l := ⟨_, rfl⟩
      have HVV := Lib.hid hV
      have HO2 := Lib.hid (show V = onShape l by rw [hV, HO.out, HL.out]; rfl)
      clear hV
      clear HO
      have hk2 : ¬ (k : Int) < (k : Int) := by omega
      obtain ⟨m, hm⟩ : ∃ m, m = l := ⟨l, rfl⟩
      have HN2 := Lib.hid (show m.length = k by rw [hm]; exact HN.out)
      have H2 := Lib.hid (show Rd w L B 3 A k (phs m) ∧ (∀ p ∈ m, fitP p) by rw [hm]; exact H.out)
      have HL2 := Lib.hid (show m.all (onOne m.length) = true by rw [hm]; exact HL.out)
      have HO3 := Lib.hid (show V = onShape m by rw [hm]; exact HO2.out)
      have HR2 := Lib.hid HR.out.1
      clear hm HN H HL HO2 HR
      match m, HN2, H2, HL2, HO3 with
      | [], HN, H, HL, HO2 =>
        obtain rfl : k = 0 := by have := HN.out; simpa using this.symm
        clear hk2
        go_wp2
        go_ret
        exact ⟨ret_bool ((show true = V from HO2.out.symm).trans HVV.out), HR2.out⟩
      | [p], HN, H, HL, HO2 =>
        obtain rfl : k = 1 := by have := HN.out; simpa using this.symm
        clear hk2
        go_wp2
        go_ret
        exact ⟨ret_bool ((show true = V from HO2.out.symm).trans HVV.out), HR2.out⟩
      | [p, q], HN, H, HL, HO2 =>
        obtain rfl : k = 2 := by have := HN.out; simpa using this.symm
        have hp := List.all_eq_true.1 HL.out p (by simp)
        have hq := List.all_eq_true.1 HL.out q (by simp)
        have rq := onOne_rune hq
        have HFP := Lib.hid (And.intro (H.out.2 p (by simp)).1 (H.out.2 q (by simp)).1)
        have sp := son_le p
        have sq := son_le q
        obtain ⟨b, o, hl0, rfl, _, _, x0, x1, x2⟩ := (H.out.1.below HR2.out hB).ph (k := 0) (by omega)
        obtain ⟨_, _, hl1, e1, _, _, y0, y1, y2⟩ := (H.out.1.below HR2.out hB).ph (k := 1) (by omega)
        cases e1
        simp only [List.getElem_cons_zero, List.getElem_cons_succ, Nat.zero_mul, Nat.one_mul, Nat.add_zero] at x0 x1 x2 y0 y1 y2
        have HB := Lib.hid HR2.out
        have wf : ∀ k, Fence.wide.fn k := fun _ => trivial
        have wd : Fence.wide.depth = none := rfl
        have HO3 := Lib.hid (show V = (decide (2 ≤ sonF q - sonF p) || (p.1 == 115 && pairs8.contains q.1)) from HO2.out)
        clear HO2 HL H HN hp hq hl0 hl1 hk2
        generalize hC : pairs8.contains q.1 = C at *
        generalize hSp : sonF p = Sp at *
        generalize hSq : sonF q = Sq at *
        have hwr : IntKind.i64.wrap (Sq - Sp) = Sq - Sp := IntWalk.i64_in _ (by omega)
        have HC := Lib.hid (And.intro hC (And.intro hSp hSq))
        clear hC hSp hSq
        go_wp2
        have Xx0 := Bel.cell x0
        have Xx1 := Bel.cell x1
        have Xx2 := Bel.cell x2
        have Xy0 := Bel.cell y0
        have Xy1 := Bel.cell y1
        have Xy2 := Bel.cell y2
        clear x0 x1 x2 y0 y1 y2
        by_cases d : 2 ≤ Sq - Sp
        · have d1 : decide ((2 : Int) ≤ Sq - Sp) = true := by simpa using d
          have HV := Lib.hid (show V = true by rw [HO3.out, d1]; rfl)
          clear HO3
          refine wp_bel (by kernel_rfl) (by kernel_rfl) ?_
          repeat (gi_big_quiet_step (fail))
          gi_big_quiet_want
          gi_big_quiet_op
          refine ⟨.int .i64 Sq, fun x => ?_, ?_⟩
          · exact callsIn_wide.2 ((son_any q x.1 HFP.out.2).mono (fun e w' h => ⟨by rw [← HC.out.2.2]; exact h.1, x.next h.2⟩))
          go_big_quiet_on
          repeat (gi_big_quiet_step (fail))
          gi_big_quiet_want
          gi_big_quiet_op
          refine ⟨.int .i64 Sp, fun x => ?_, ?_⟩
          · exact callsIn_wide.2 ((son_any p x.1 HFP.out.1).mono (fun e w' h => ⟨by rw [← HC.out.2.1]; exact h.1, x.next h.2⟩))
          go_big_quiet_on
          repeat (gi_big_quiet_step (fail))
          refine wpQuietIn_nil ?_
          intro _ hw'
          obtain ⟨xW, hw''⟩ := hw'
          subst hw''
          have HZ := Lib.hid (HB.out.trans (xW.2.mono HB.out.size))
          go_wp2
          go_ret
          exact ⟨ret_bool (HV.out.symm.trans HVV.out), HZ.out⟩
        have d1 : decide ((2 : Int) ≤ Sq - Sp) = false := by simpa using d
        cases hs : (p.1 == 115) with
        | true =>
          have HV := Lib.hid (show V = C by rw [HO3.out, d1, hs]; rfl)
          clear HO3
          refine wp_bel (by kernel_rfl) (by kernel_rfl) ?_
          repeat (gi_big_quiet_step (fail))
          gi_big_quiet_want
          gi_big_quiet_op
          refine ⟨.int .i64 Sq, fun x => ?_, ?_⟩
          · exact callsIn_wide.2 ((son_any q x.1 HFP.out.2).mono (fun e w' h => ⟨by rw [← HC.out.2.2]; exact h.1, x.next h.2⟩))
          go_big_quiet_on
          repeat (gi_big_quiet_step (fail))
          gi_big_quiet_want
          gi_big_quiet_op
          refine ⟨.int .i64 Sp, fun x => ?_, ?_⟩
          · exact callsIn_wide.2 ((son_any p x.1 HFP.out.1).mono (fun e w' h => ⟨by rw [← HC.out.2.1]; exact h.1, x.next h.2⟩))
          go_big_quiet_on
          repeat (gi_big_quiet_step (fail))
          gi_big_quiet_want
          gi_big_quiet_op
          refine ⟨.bool C, fun x => ?_, ?_⟩
          · exact callsIn_wide.2 ((contains8 q.1 rq.1 rq.2 x.1).mono (fun e w' h => ⟨by rw [← HC.out.1]; exact h.1, x.next h.2⟩))
          go_big_quiet_on
          repeat (gi_big_quiet_step (fail))
          refine wpQuietIn_nil ?_
          intro _ hw'
          obtain ⟨xW, hw''⟩ := hw'
          subst hw''
          have HZ := Lib.hid (HB.out.trans (xW.2.mono HB.out.size))
          go_wp2
          go_ret
          exact ⟨ret_bool (HV.out.symm.trans HVV.out), HZ.out⟩
        | false =>
          have HV := Lib.hid (show V = false by rw [HO3.out, d1, hs]; rfl)
          clear HO3
          refine wp_bel (by kernel_rfl) (by kernel_rfl) ?_
          repeat (gi_big_quiet_step (fail))
          gi_big_quiet_want
          gi_big_quiet_op
          refine ⟨.int .i64 Sq, fun x => ?_, ?_⟩
          · exact callsIn_wide.2 ((son_any q x.1 HFP.out.2).mono (fun e w' h => ⟨by rw [← HC.out.2.2]; exact h.1, x.next h.2⟩))
          go_big_quiet_on
          repeat (gi_big_quiet_step (fail))
          gi_big_quiet_want
          gi_big_quiet_op
          refine ⟨.int .i64 Sp, fun x => ?_, ?_⟩
          · exact callsIn_wide.2 ((son_any p x.1 HFP.out.1).mono (fun e w' h => ⟨by rw [← HC.out.2.1]; exact h.1, x.next h.2⟩))
          go_big_quiet_on
          repeat (gi_big_quiet_step (fail))
          refine wpQuietIn_nil ?_
          intro _ hw'
          obtain ⟨xW, hw''⟩ := hw'
          subst hw''
          have HZ := Lib.hid (HB.out.trans (xW.2.mono HB.out.size))
          go_wp2
          go_ret
          exact ⟨ret_bool (HV.out.symm.trans HVV.out), HZ.out⟩
      | [p, q, r], HN, H, HL, HO2 =>
        obtain rfl : k = 3 := by have := HN.out; simpa using this.symm
        have hp := List.all_eq_true.1 HL.out p (by simp)
        have hq := List.all_eq_true.1 HL.out q (by simp)
        have hr := List.all_eq_true.1 HL.out r (by simp)
        have rq := onOne_rune hq
        have rr := onOne_rune hr
        obtain ⟨b, o, hl0, rfl, _, hbB, x0, x1, x2⟩ := (H.out.1.below HR2.out hB).ph (k := 0) (by omega)
        obtain ⟨_, _, hl1, e1, _, _, y0, y1, y2⟩ := (H.out.1.below HR2.out hB).ph (k := 1) (by omega)
        cases e1
        obtain ⟨_, _, hl2, e2, _, _, z0, z1, z2⟩ := (H.out.1.below HR2.out hB).ph (k := 2) (by omega)
        cases e2
        simp only [List.getElem_cons_zero, List.getElem_cons_succ, Nat.zero_mul, Nat.one_mul, Nat.add_zero] at x0 x1 x2 y0 y1 y2 z0 z1 z2
        have HB := Lib.hid HR2.out
        have wf : ∀ k, Fence.wide.fn k := fun _ => trivial
        have wd : Fence.wide.depth = none := rfl
        have HO3 := Lib.hid (show V = (p.1 == 115 && pairs3.contains q.1 && pairs4.contains r.1) from HO2.out)
        clear HO2 HL H HN hp hq hr hl0 hl1 hl2 hk2
        generalize hC : pairs3.contains q.1 = C at *
        generalize hD : pairs4.contains r.1 = D at *
        have HC := Lib.hid (And.intro hC hD)
        clear hC hD
        cases hs : (p.1 == 115) with
        | false =>
          have HV := Lib.hid (show V = false by rw [HO3.out, hs]; rfl)
          clear HO3
          go_wp2
          go_ret
          exact ⟨ret_bool (HV.out.symm.trans HVV.out), HB.out⟩
        | true =>
        have bl : b < wr.heap.size := by have := HB.out.size; omega
        go_wp2_with fail
        refine (contains3 q.1 rq.1 rq.2 _).mono ?_
        rintro e w1 ⟨rfl, hb⟩
        rw [HC.out.1]
        have v0 := (hb.cell (p := ⟨b, o + 2 * 3, none⟩) bl).trans z0
        have HB1 := Lib.hid (HB.out.trans (hb.mono HB.out.size))
        clear hb x0 x1 x2 y0 y1 y2 z0 z1 z2
        cases C with
        | false =>
          have HV := Lib.hid (show V = false by rw [HO3.out, hs]; rfl)
          clear HO3
          go_wp2
          go_ret
          exact ⟨ret_bool (HV.out.symm.trans HVV.out), HB1.out⟩
        | true =>
          have HV := Lib.hid (show V = D by rw [HO3.out, hs]; rfl)
          clear HO3
          go_wp2_with fail
          refine (contains4 r.1 rr.1 rr.2 _).mono ?_
          rintro e w2 ⟨rfl, hb⟩
          rw [HC.out.2]
          have HB2 := Lib.hid (HB1.out.trans (hb.mono HB1.out.size))
          clear hb v0
          go_wp2
          go_ret
          exact ⟨ret_bool (HV.out.symm.trans HVV.out), HB2.out⟩
      | p :: q :: r :: s :: t, HN, H, HL, HO2 =>
        have h4 : 4 ≤ k := by have := HN.out; simp at this; omega
        have d0 : ((k : Int) == 0) = false := by simp; omega
        have d1 : ((k : Int) == 1) = false := by simp; omega
        have d2 : ((k : Int) == 2) = false := by simp; omega
        have d3 : ((k : Int) == 3) = false := by simp; omega
        clear h4 hk2
        go_wp2
        go_ret
        exact ⟨ret_bool ((show false = V from HO2.out.symm).trans HVV.out), HR2.out⟩
end Go.Proofs.Ytogofchpocoebaa
