/- The pattern of syllables' stresses, the program's and the reference's. -/
import Derived.Test.YtogofchpocoebaaW11
import Derived.Test.YtogofchpocoebaaW6
namespace Go.Proofs.Ytogofchpocoebaa
open Go.RowKit Go.Maps

def ptT0 (l : List Sy) : List UInt8 := l.map ptB
theorem pt_snoc (l : List Sy) (s : Sy) : ptT0 (l ++ [s]) = ptT0 l ++ [ptB s] := by simp [ptT0]
theorem pt_ok {s : Sy} (h : ptOk s = true) : s.st = 0 ∨ s.st = 1 ∨ s.st = 2 := by
  unfold ptOk at h
  simp only [Bool.and_eq_true, decide_eq_true_eq] at h
  omega
theorem pt_bad {ss : List Sy} {s : Sy} (h : s ∈ ss) (hb : ptOk s = false) : ptE ss = 2 ∧ ptT ss = [] := by
  have : ss.all ptOk = false := by
    cases hh : ss.all ptOk with
    | false => rfl
    | true => rw [List.all_eq_true.1 hh s h] at hb; cases hb
  unfold ptE ptT
  rw [this]
  exact ⟨rfl, rfl⟩
theorem pt_all {ss : List Sy} (h : ss.all ptOk = true) : ptE ss = 0 ∧ ptT ss = ptT0 ss := by
  unfold ptE ptT
  rw [h]
  exact ⟨rfl, rfl⟩

set_option maxHeartbeats 4000000 in
set_option maxRecDepth 100000 in
theorem pattern_any (A : Option Addr) (n c L B : Nat) (ss : List Sy) (w : World) (h : Rd w L B 5 A n (sys ss)) (hB : B ≤ w.heap.size) (hz : n ≤ 140737488355327) :
    Calls Try.prog 90 #[.slice A n c] w fun e w' => e = .returned (.tuple #[.string (bts (ptT ss)), .int .i64 (ptE ss)]) ∧ Below w.heap.size w w' := by
  have HN := Lib.hid h.len_sy
  have H := Lib.hid h
  clear h
  go_enter Try.func90, Try.ntmps90
  go_upto_region 2 with (fail)
  refine wp_abs (PsSt w w.heap.size []) ⟨bld_new w, (Below.refl _ _).alloc (Nat.le_refl _) _, Nat.le_refl _⟩ ?_
  intro w2 hS
  have HSS := Lib.hid hS
  obtain ⟨bb, hbb⟩ : ∃ bb, bb = w.heap.size := ⟨_, rfl⟩
  rw [← hbb] at HSS ⊢
  have hBb : B ≤ bb := by omega
  clear hS hbb
  go_wp2
  go_loopw [6, 9] (fun _ v9 wr => ∃ k : Nat, k ≤ n ∧ v9 = .int .i64 k ∧ Hid (PsSt w bb (ptT0 (ss.take k)) wr ∧ (ss.take k).all ptOk = true)) (fun _ v9 _ => n - (intOf v9).toNat)
  case atStart => exact ⟨0, by omega, rfl, Lib.hid ⟨HSS.out, rfl⟩⟩
  case round =>
    obtain ⟨k, hk, rfl, HR⟩ := hrel
    clear HSS
    by_cases hlt : k < n
    · obtain ⟨b, o, hl, rfl, hL, hB2, x0, x1, x2, x3, x4⟩ := (H.out.below HR.out.1.below hB).sy (k := k) hlt
      have hsn : ss.take (k + 1) = ss.take k ++ [ss[k]] := List.take_succ_eq_append_getElem hl
      have hbad := fun hb => pt_bad (List.getElem_mem hl : ss[k] ∈ ss) hb
      have hle : (ptT0 (ss.take k)).length = k := by simp [ptT0]; omega
      generalize ss[k] = s at *
      have HSN := Lib.hid (And.intro hsn (And.intro hbad hle))
      have hK : bb < wr.heap.size := bld_lt HR.out.1.bld
      clear hsn hbad hle hL hB2
      have i1 : (0 : Int) ≤ (k : Int) := by omega
      have i2 : (k : Int) < (n : Int) := by omega
      go_upto_region 5 with (fail)
      refine wp_abs (fun wx => PsSt w bb (ptT0 (ss.take k)) wx ∧ Blk wx wr.heap.size 37 #[.int .i64 s.fr, .int .i64 s.nu, .int .i64 s.to_, .int .i64 s.st, .bool s.hv]) ⟨HR.out.1.on ((Below.refl _ _).alloc (Nat.le_refl _) _), Blk.new _ _ _⟩ ?_
      have HAL := Lib.hid HR.out.2
      clear x0 x1 x2 x3 x4 HR
      generalize wr.heap.size = pb at *
      rintro wx hX
      have HX := Lib.hid hX
      clear hX
      have x3 : wx.cell? ⟨pb, 3, none⟩ = some (.int .i64 s.st) := HX.out.2.cell 3
      by_cases q1 : s.st < 0
      · have d1 : decide (s.st < 0) = true := decide_eq_true q1
        have HV := Lib.hid (HSN.out.2.1 (by unfold ptOk; rw [decide_eq_false (by omega)]; rfl))
        clear q1
        go_wp2
        go_ret2
        exact ⟨by rw [HV.out.1, HV.out.2]; rfl, HX.out.1.below⟩
      have d1 : decide (s.st < 0) = false := decide_eq_false q1
      by_cases q2 : 2 < s.st
      · have d2 : decide (2 < s.st) = true := decide_eq_true q2
        have HV := Lib.hid (HSN.out.2.1 (by unfold ptOk; rw [decide_eq_false (show ¬ s.st ≤ 2 by omega)]; simp))
        clear q1 q2
        go_wp2
        go_ret2
        exact ⟨by rw [HV.out.1, HV.out.2]; rfl, HX.out.1.below⟩
      have d2 : decide (2 < s.st) = false := decide_eq_false q2
      have HOK := Lib.hid (show ptOk s = true by unfold ptOk; rw [decide_eq_true (show 0 ≤ s.st by omega), decide_eq_true (show s.st ≤ 2 by omega)]; rfl)
      have HBT := Lib.hid (show ptB s = if s.st = 0 then 120 else if s.st = 1 then 92 else 47 from rfl)
      have h3 : s.st = 0 ∨ s.st = 1 ∨ s.st = 2 := by omega
      generalize s.st = st at *
      clear q1 q2 d1 d2
      rcases h3 with h3 | h3 | h3
      · subst h3
        go_wp2_with fail
        refine (writeByte_any bb bb _ 120 _ HX.out.1.bld (by rw [Lib.byteCells_length, HSN.out.2.2]; omega) (Nat.le_of_lt (bld_lt HX.out.1.bld))).mono ?_
        rintro e w4 ⟨rfl, h1, hb1, hk1⟩
        have H4 := Lib.hid (HX.out.1.wrote (u := [120]) rfl h1 hb1)
        clear h1 hb1 hk1 x3
        go_wp2
        go_roundw
        case rel => exact ⟨k + 1, by omega, by go_num, Lib.hid ⟨by rw [HSN.out.1, pt_snoc, HBT.out]; exact H4.out, by rw [HSN.out.1, List.all_append, HAL.out]; simp [HOK.out]⟩⟩
        case measure => simp [intOf]; omega
      · subst h3
        go_wp2_with fail
        refine (writeByte_any bb bb _ 92 _ HX.out.1.bld (by rw [Lib.byteCells_length, HSN.out.2.2]; omega) (Nat.le_of_lt (bld_lt HX.out.1.bld))).mono ?_
        rintro e w4 ⟨rfl, h1, hb1, hk1⟩
        have H4 := Lib.hid (HX.out.1.wrote (u := [92]) rfl h1 hb1)
        clear h1 hb1 hk1 x3
        go_wp2
        go_roundw
        case rel => exact ⟨k + 1, by omega, by go_num, Lib.hid ⟨by rw [HSN.out.1, pt_snoc, HBT.out]; exact H4.out, by rw [HSN.out.1, List.all_append, HAL.out]; simp [HOK.out]⟩⟩
        case measure => simp [intOf]; omega
      · subst h3
        go_wp2_with fail
        refine (writeByte_any bb bb _ 47 _ HX.out.1.bld (by rw [Lib.byteCells_length, HSN.out.2.2]; omega) (Nat.le_of_lt (bld_lt HX.out.1.bld))).mono ?_
        rintro e w4 ⟨rfl, h1, hb1, hk1⟩
        have H4 := Lib.hid (HX.out.1.wrote (u := [47]) rfl h1 hb1)
        clear h1 hb1 hk1 x3
        go_wp2
        go_roundw
        case rel => exact ⟨k + 1, by omega, by go_num, Lib.hid ⟨by rw [HSN.out.1, pt_snoc, HBT.out]; exact H4.out, by rw [HSN.out.1, List.all_append, HAL.out]; simp [HOK.out]⟩⟩
        case measure => simp [intOf]; omega
    · obtain rfl : k = n := by omega
      have htk : ss.take k = ss := List.take_of_length_le (by rw [HN.out]; exact Nat.le_refl _)
      have HV := Lib.hid (pt_all (by have := HR.out.2; rwa [htk] at this))
      have HTK := Lib.hid htk
      have di : ¬ ((k : Int) < (k : Int)) := by omega
      clear htk
      go_wp2_with fail
      refine (Try.Builder_String_any bb bb (ptT0 (ss.take k)) wr HR.out.1.bld (Nat.le_of_lt (bld_lt HR.out.1.bld))).mono ?_
      rintro e wz ⟨rfl, hb⟩
      have HZ := Lib.hid (HR.out.1.below.trans (hb.mono HR.out.1.lo))
      clear hb
      go_wp2
      go_ret2
      exact ⟨by rw [HV.out.1, HV.out.2, HTK.out]; rfl, HZ.out⟩

set_option maxHeartbeats 4000000 in
set_option maxRecDepth 100000 in
theorem refPattern_any (A : Option Addr) (n c L B : Nat) (ss : List Sy) (w : World) (h : Rd w L B 5 A n (sys ss)) (hB : B ≤ w.heap.size) (hz : n ≤ 140737488355327) :
    Calls Try.prog 102 #[.slice A n c] w fun e w' => e = .returned (.tuple #[.string (bts (ptT ss)), .int .i64 (ptE ss)]) ∧ Below w.heap.size w w' := by
  have HN := Lib.hid h.len_sy
  have H := Lib.hid h
  clear h
  go_enter Try.func102, Try.ntmps102
  go_wp2
  go_loopw [4, 5] (fun sv v wr => ∃ k : Nat, k ≤ n ∧ v = .int .i64 k ∧ Hid (Below w.heap.size w wr ∧ (ss.take k).all ptOk = true ∧ sv = .string (bts (ptT0 (ss.take k))))) (fun _ v _ => n - (intOf v).toNat)
  case atStart => exact ⟨0, by omega, rfl, Lib.hid ⟨Below.refl _ _, rfl, rfl⟩⟩
  case round =>
    obtain ⟨k, hk, rfl, HR⟩ := hrel
    have hsv := HR.out.2.2
    subst hsv
    by_cases hlt : k < n
    · obtain ⟨b, o, hl, rfl, hL, hB2, x0, x1, x2, x3, x4⟩ := (H.out.below HR.out.1 hB).sy (k := k) hlt
      have hsn : ss.take (k + 1) = ss.take k ++ [ss[k]] := List.take_succ_eq_append_getElem hl
      have hbad := fun hb => pt_bad (List.getElem_mem hl : ss[k] ∈ ss) hb
      have hle : (ptT0 (ss.take k)).length = k := by simp [ptT0]; omega
      generalize ss[k] = s at *
      have HSN := Lib.hid (And.intro hsn (And.intro hbad hle))
      have g1 : (⟨#[120]⟩ : ByteArray).size = 1 := rfl
      have g2 : (⟨#[92]⟩ : ByteArray).size = 1 := rfl
      have g3 : (⟨#[47]⟩ : ByteArray).size = 1 := rfl
      have q1 : ∀ W : World, Sem.run Try.prog (Op.stringOp .add (bts (ptT0 (ss.take k))) ⟨#[120]⟩) W = .ok (.string (bts (ptT0 (ss.take k)) ++ ⟨#[120]⟩)) W := fun W => run_string_add_sum W _ _ (by rw [bts_size, g1]; omega)
      have q2 : ∀ W : World, Sem.run Try.prog (Op.stringOp .add (bts (ptT0 (ss.take k))) ⟨#[92]⟩) W = .ok (.string (bts (ptT0 (ss.take k)) ++ ⟨#[92]⟩)) W := fun W => run_string_add_sum W _ _ (by rw [bts_size, g2]; omega)
      have q3 : ∀ W : World, Sem.run Try.prog (Op.stringOp .add (bts (ptT0 (ss.take k))) ⟨#[47]⟩) W = .ok (.string (bts (ptT0 (ss.take k)) ++ ⟨#[47]⟩)) W := fun W => run_string_add_sum W _ _ (by rw [bts_size, g3]; omega)
      clear hsn hbad hle hL hB2 g1 g2 g3
      have i1 : (0 : Int) ≤ (k : Int) := by omega
      have i2 : (k : Int) < (n : Int) := by omega
      have HBT := Lib.hid (show ptB s = if s.st = 0 then 120 else if s.st = 1 then 92 else 47 from rfl)
      have HPO := Lib.hid (show ptOk s = (decide (0 ≤ s.st) && decide (s.st ≤ 2)) from rfl)
      generalize hT : ptT0 (ss.take k) = T at *
      have HTT := Lib.hid hT
      clear hT
      generalize s.st = st at *
      by_cases s0 : st = 0
      · subst s0
        go_wp2
        go_roundw
        case rel => exact ⟨k + 1, by omega, by go_num, Lib.hid ⟨HR.out.1, by rw [HSN.out.1, List.all_append, HR.out.2.1]; simp [HPO.out], congrArg Value.string (by rw [HSN.out.1, pt_snoc, HTT.out, HBT.out, ← bts_append]; rfl)⟩⟩
        case measure => simp [intOf]; omega
      have d0 : (st == 0) = false := beq_eq_false_iff_ne.2 s0
      by_cases s1 : st = 1
      · subst s1
        go_wp2
        go_roundw
        case rel => exact ⟨k + 1, by omega, by go_num, Lib.hid ⟨HR.out.1, by rw [HSN.out.1, List.all_append, HR.out.2.1]; simp [HPO.out], congrArg Value.string (by rw [HSN.out.1, pt_snoc, HTT.out, HBT.out, ← bts_append]; rfl)⟩⟩
        case measure => simp [intOf]; omega
      have d1 : (st == 1) = false := beq_eq_false_iff_ne.2 s1
      by_cases s2 : st = 2
      · subst s2
        go_wp2
        go_roundw
        case rel => exact ⟨k + 1, by omega, by go_num, Lib.hid ⟨HR.out.1, by rw [HSN.out.1, List.all_append, HR.out.2.1]; simp [HPO.out], congrArg Value.string (by rw [HSN.out.1, pt_snoc, HTT.out, HBT.out, ← bts_append]; rfl)⟩⟩
        case measure => simp [intOf]; omega
      have d2 : (st == 2) = false := beq_eq_false_iff_ne.2 s2
      have HV := Lib.hid (HSN.out.2.1 (by rw [HPO.out]; by_cases e : 0 ≤ st; rw [decide_eq_true e, decide_eq_false (by omega)]; rfl; rw [decide_eq_false e]; rfl))
      clear s0 s1 s2
      go_wp2
      go_ret2
      exact ⟨by rw [HV.out.1, HV.out.2]; rfl, HR.out.1⟩
    · obtain rfl : k = n := by omega
      have htk : ss.take k = ss := List.take_of_length_le (by rw [HN.out]; exact Nat.le_refl _)
      have HV := Lib.hid (pt_all (by have := HR.out.2.1; rwa [htk] at this))
      have HTK := Lib.hid htk
      have di : ¬ ((k : Int) < (k : Int)) := by omega
      clear htk
      go_wp2
      go_ret2
      exact ⟨by rw [HV.out.1, HV.out.2, HTK.out]; rfl, HR.out.1⟩
end Go.Proofs.Ytogofchpocoebaa
