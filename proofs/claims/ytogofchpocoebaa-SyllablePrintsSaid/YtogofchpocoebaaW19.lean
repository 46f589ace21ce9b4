/- The law SyllablePrints, walked; the reference's Print. -/
import Derived.Test.YtogofchpocoebaaW10
import Derived.Test.YtogofchpocoebaaW17
import Derived.Test.YtogofchpocoebaaY3
namespace Go.Proofs.Ytogofchpocoebaa
open Go.RowKit Go.Maps

theorem cut_snoc {l : List Ph} {a k : Nat} (h1 : a ≤ k) (h2 : k < l.length) : cutL l a (k + 1) = cutL l a k ++ [l[k]] := by
  unfold cutL
  rw [show k + 1 - a = k - a + 1 by omega, List.take_succ_eq_append_getElem (by rw [List.length_drop]; omega), List.getElem_drop]
  congr 2
  congr 1
  omega

set_option maxHeartbeats 16000000 in
set_option maxRecDepth 100000 in
theorem refSprint_any (A D : Option Addr) (n c m d L1 B1 L2 B2 : Nat) (l : List Ph) (ss : List Sy) (w : World) (h : Rd w L1 B1 3 A n (phs l)) (h2 : Rd w L2 B2 5 D m (sys ss)) (z1 : B1 ≤ w.heap.size) (z2 : B2 ≤ w.heap.size) :
    Calls Try.prog 82 #[.slice A n c, .slice D m d] w fun e w' => e = .returned (.tuple #[.string (bts (spT l ss)), .int .i64 (mayF l ss)]) ∧ Below w.heap.size w w' := by
  have eA := h.len_ph
  have eD := h2.len_sy
  have HMY := Lib.hid (refMay_any A D n c m d L1 B1 L2 B2 l ss w h h2 z1 z2)
  have H := Lib.hid (And.intro h h2)
  clear h h2
  by_cases hm : mayF l ss = 0
  case neg =>
    have HS := Lib.hid (show spT l ss = [] by unfold spT; rw [if_neg hm])
    have hb : (mayF l ss != 0) = true := by simpa using hm
    rw [HS.out]
    generalize mayF l ss = E at *
    clear hm
    go_enter Try.func82, Try.ntmps82
    go_wp2_with fail
    refine HMY.out.mono ?_
    rintro e w1 ⟨rfl, hb1⟩
    have H1 := Lib.hid hb1
    clear hb1 HMY
    go_wp2
    go_ret2
    exact ⟨rfl, H1.out⟩
  have hF := form_of hm
  have HF := Lib.hid hF
  have HS := Lib.hid (show spT l ss = spGo l 0 ss by unfold spT; rw [if_pos hm])
  have hn128 : n ≤ 128 := by have := hF.n128; omega
  have hm64 : m ≤ 64 := by have := hF.m64; omega
  rw [hm] at HMY ⊢
  clear hF hm
  go_enter Try.func82, Try.ntmps82
  go_wp2_with fail
  refine HMY.out.mono ?_
  rintro e w1 ⟨rfl, hb1⟩
  have H1 := Lib.hid hb1
  clear hb1 HMY
  go_wp2
  go_loopw [7, 8, 9, 10] (fun v7 v8 _ _ wr => ∃ k : Nat, k ≤ m ∧ v8 = .int .i64 k ∧ Hid (Below w.heap.size w wr ∧ v7 = .string (bts (spGo l 0 (ss.take k))))) (fun _ v8 _ _ _ => m - (intOf v8).toNat)
  case atStart => exact ⟨0, by omega, rfl, Lib.hid ⟨H1.out, rfl⟩⟩
  case round =>
    obtain ⟨k, hk, rfl, HR⟩ := hrel
    have e7 := HR.out.2
    subst e7
    clear H1
    by_cases hlt : k < m
    · obtain ⟨b, o, hl0, rfl, hL, hB, x0, x1, x2, x3, x4⟩ := (H.out.2.below HR.out.1 z2).sy (k := k) hlt
      have hsn : ss.take (k + 1) = ss.take k ++ [ss[k]] := List.take_succ_eq_append_getElem hl0
      have htk : (ss.take k).length = k := by rw [List.length_take]; omega
      have hsp : spGo l 0 (ss.take (k + 1)) = spGo l 0 (ss.take k) ++ signB k ss[k] ++ texts (cutL l ss[k].fr.toNat ss[k].to_.toNat) := by
        rw [hsn, spGo_append, Nat.zero_add, htk, spGo_cons]
        simp [spGo]
      obtain ⟨q1, q2, q3, q4⟩ := HF.out.nuc _ (List.getElem_mem hl0)
      have hst := HF.out.ok _ (List.getElem_mem hl0)
      have hle : (spGo l 0 (ss.take k)).length ≤ 57472 := by
        have h1 := spGo_le HF.out.all (ss.take k) 0
        rw [htk] at h1
        have h2 : k * (2 + 7 * l.length) ≤ 64 * (2 + 7 * 128) := Nat.mul_le_mul (by omega) (by omega)
        omega
      generalize ss[k] = s at *
      obtain ⟨fr, hfr⟩ : ∃ k : Nat, s.fr = k := ⟨s.fr.toNat, by omega⟩
      obtain ⟨t, ht⟩ : ∃ k : Nat, s.to_ = k := ⟨s.to_.toNat, by omega⟩
      have hft : fr < t := by omega
      have htn : t ≤ n := by omega
      rw [hfr, ht, Int.toNat_natCast, Int.toNat_natCast] at hsp
      rw [hfr] at x0
      rw [ht] at x2
      have HSP := Lib.hid hsp
      have HLE := Lib.hid hle
      clear hsn htk hsp hle q1 q2 q3 q4 hL hB
      have i1 : (0 : Int) ≤ (k : Int) := by omega
      have i2 : (k : Int) < (m : Int) := by omega
      go_upto_region 9 with (fail)
      refine wp_abs (fun wx => Below w.heap.size w wx ∧ Blk wx wr.heap.size 37 #[.int .i64 fr, .int .i64 s.nu, .int .i64 t, .int .i64 s.st, .bool s.hv]) ⟨HR.out.1.trans (((Below.refl _ _).alloc (Nat.le_refl _) _).mono HR.out.1.size), Blk.new _ _ _⟩ ?_
      clear x0 x1 x2 x3 x4 HR
      generalize wr.heap.size = pb at *
      generalize hT0 : spGo l 0 (ss.take k) = T0 at *
      have HT0 := Lib.hid hT0
      clear hT0
      rintro wx hX
      have HX := Lib.hid hX
      clear hX
      have x3 : wx.cell? ⟨pb, 3, none⟩ = some (.int .i64 s.st) := HX.out.2.cell 3
      have x0 : wx.cell? ⟨pb, 0, none⟩ = some (.int .i64 fr) := HX.out.2.cell 0
      have x2 : wx.cell? ⟨pb, 2, none⟩ = some (.int .i64 t) := HX.out.2.cell 2

      by_cases s2 : s.st = 2
      · have HSB := Lib.hid (show signB k s = [203, 136] by unfold signB; rw [if_pos s2])
        rw [s2] at x3
        clear hst s2
        have q0 : ∀ W : World, Sem.run Try.prog (Op.stringOp .add (bts T0) ⟨#[203, 136]⟩) W = .ok (.string (bts T0 ++ ⟨#[203, 136]⟩)) W := fun W => run_string_add_sum W _ _ (by have h1 := HLE.out; have h2 : (⟨#[203, 136]⟩ : ByteArray).size = 2 := rfl; rw [bts_size]; omega)
        have HV := Lib.hid (show bts T0 ++ ⟨#[203, 136]⟩ = bts (T0 ++ [203, 136] ++ texts (cutL l fr fr)) by rw [show cutL l fr fr = [] by unfold cutL; simp]; simp [texts, ← bts_append]; try rfl)
        go_wp2
        clear x0 x2 x3
        go_loopw [7, 10] (fun u7 u10 wq => ∃ j : Nat, fr ≤ j ∧ j ≤ t ∧ u10 = .int .i64 j ∧ Hid (Below w.heap.size w wq ∧ Blk wq pb 37 #[.int .i64 fr, .int .i64 s.nu, .int .i64 t, .int .i64 s.st, .bool s.hv] ∧ u7 = .string (bts (T0 ++ [203, 136] ++ texts (cutL l fr j))))) (fun _ u10 _ => t - (intOf u10).toNat)
        case atStart => exact ⟨fr, Nat.le_refl _, by omega, rfl, Lib.hid ⟨HX.out.1, HX.out.2, by rw [← HV.out]⟩⟩
        case round =>
          obtain ⟨j, hj1, hj2, rfl, HI⟩ := hrel
          have e7 := HI.out.2.2
          subst e7
          have y2 : wr.cell? ⟨pb, 2, none⟩ = some (.int .i64 t) := HI.out.2.1.cell 2
          by_cases hjt : j < t
          · obtain ⟨bp, op, hlp, eA1, hL, hB2, x0, x1, x2⟩ := (H.out.1.below HI.out.1 z1).ph (k := j) (by omega)
            cases eA1
            have hcs := cut_snoc (l := l) (a := fr) (k := j) hj1 hlp
            have htx : texts (cutL l fr (j + 1)) = texts (cutL l fr j) ++ textP l[j] := by rw [hcs, texts_snoc]
            have b1 := texts_len (cutL l fr j) (cut_all HF.out.all fr j)
            rw [cut_len (by omega)] at b1
            have b2 := textP_len (List.all_eq_true.1 HF.out.all _ (List.getElem_mem hlp))
            generalize l[j] = p at *
            have HTX := Lib.hid (show T0 ++ [203, 136] ++ texts (cutL l fr (j + 1)) = (T0 ++ [203, 136] ++ texts (cutL l fr j)) ++ textP p by rw [htx]; simp)
            have q1 : ∀ W : World, Sem.run Try.prog (Op.stringOp .add (bts (T0 ++ [203, 136] ++ texts (cutL l fr j))) (bts (textP p))) W = .ok (.string (bts (T0 ++ [203, 136] ++ texts (cutL l fr j)) ++ bts (textP p))) W := fun W => run_string_add_sum W _ _ (by have h1 := HLE.out; simp only [bts_size, List.length_append, List.length_cons, List.length_nil]; omega)
            generalize T0 ++ [203, 136] ++ texts (cutL l fr j) = TJ at *
            clear hcs htx hL hB2 b1 b2
            have i1 : (0 : Int) ≤ (j : Int) := by omega
            have i2 : (j : Int) < (n : Int) := by omega
            go_wp2_with fail
            refine (refText_any p _).mono ?_
            rintro e wz ⟨rfl, hb⟩
            have HZ := Lib.hid (And.intro (HI.out.1.trans (hb.mono HI.out.1.size)) (HI.out.2.1.below hb HI.out.2.1.lt))
            clear hb
            go_wp2
            go_roundw
            case rel => exact ⟨j + 1, by omega, by omega, by go_num, Lib.hid ⟨HZ.out.1, HZ.out.2, by rw [HTX.out, ← bts_append]⟩⟩
            case measure => simp [intOf]; omega
          · obtain rfl : j = t := by omega
            have HN := Lib.hid HI.out.1
            have HSN := Lib.hid (show T0 ++ [203, 136] ++ texts (cutL l fr j) = spGo l 0 (ss.take (k + 1)) by rw [HSP.out, HSB.out])
            clear HI
            go_wp2
            go_roundw
            case rel => exact ⟨k + 1, by omega, by go_num, Lib.hid ⟨HN.out, by rw [HSN.out]⟩⟩
            case measure => simp [intOf]; omega

      by_cases s1 : s.st = 1
      · have HSB := Lib.hid (show signB k s = [203, 140] by unfold signB; rw [if_neg s2, if_pos s1])
        rw [s1] at x3
        clear hst s1 s2
        have q0 : ∀ W : World, Sem.run Try.prog (Op.stringOp .add (bts T0) ⟨#[203, 140]⟩) W = .ok (.string (bts T0 ++ ⟨#[203, 140]⟩)) W := fun W => run_string_add_sum W _ _ (by have h1 := HLE.out; have h2 : (⟨#[203, 140]⟩ : ByteArray).size = 2 := rfl; rw [bts_size]; omega)
        have HV := Lib.hid (show bts T0 ++ ⟨#[203, 140]⟩ = bts (T0 ++ [203, 140] ++ texts (cutL l fr fr)) by rw [show cutL l fr fr = [] by unfold cutL; simp]; simp [texts, ← bts_append]; try rfl)
        go_wp2
        clear x0 x2 x3
        go_loopw [7, 10] (fun u7 u10 wq => ∃ j : Nat, fr ≤ j ∧ j ≤ t ∧ u10 = .int .i64 j ∧ Hid (Below w.heap.size w wq ∧ Blk wq pb 37 #[.int .i64 fr, .int .i64 s.nu, .int .i64 t, .int .i64 s.st, .bool s.hv] ∧ u7 = .string (bts (T0 ++ [203, 140] ++ texts (cutL l fr j))))) (fun _ u10 _ => t - (intOf u10).toNat)
        case atStart => exact ⟨fr, Nat.le_refl _, by omega, rfl, Lib.hid ⟨HX.out.1, HX.out.2, by rw [← HV.out]⟩⟩
        case round =>
          obtain ⟨j, hj1, hj2, rfl, HI⟩ := hrel
          have e7 := HI.out.2.2
          subst e7
          have y2 : wr.cell? ⟨pb, 2, none⟩ = some (.int .i64 t) := HI.out.2.1.cell 2
          by_cases hjt : j < t
          · obtain ⟨bp, op, hlp, eA1, hL, hB2, x0, x1, x2⟩ := (H.out.1.below HI.out.1 z1).ph (k := j) (by omega)
            cases eA1
            have hcs := cut_snoc (l := l) (a := fr) (k := j) hj1 hlp
            have htx : texts (cutL l fr (j + 1)) = texts (cutL l fr j) ++ textP l[j] := by rw [hcs, texts_snoc]
            have b1 := texts_len (cutL l fr j) (cut_all HF.out.all fr j)
            rw [cut_len (by omega)] at b1
            have b2 := textP_len (List.all_eq_true.1 HF.out.all _ (List.getElem_mem hlp))
            generalize l[j] = p at *
            have HTX := Lib.hid (show T0 ++ [203, 140] ++ texts (cutL l fr (j + 1)) = (T0 ++ [203, 140] ++ texts (cutL l fr j)) ++ textP p by rw [htx]; simp)
            have q1 : ∀ W : World, Sem.run Try.prog (Op.stringOp .add (bts (T0 ++ [203, 140] ++ texts (cutL l fr j))) (bts (textP p))) W = .ok (.string (bts (T0 ++ [203, 140] ++ texts (cutL l fr j)) ++ bts (textP p))) W := fun W => run_string_add_sum W _ _ (by have h1 := HLE.out; simp only [bts_size, List.length_append, List.length_cons, List.length_nil]; omega)
            generalize T0 ++ [203, 140] ++ texts (cutL l fr j) = TJ at *
            clear hcs htx hL hB2 b1 b2
            have i1 : (0 : Int) ≤ (j : Int) := by omega
            have i2 : (j : Int) < (n : Int) := by omega
            go_wp2_with fail
            refine (refText_any p _).mono ?_
            rintro e wz ⟨rfl, hb⟩
            have HZ := Lib.hid (And.intro (HI.out.1.trans (hb.mono HI.out.1.size)) (HI.out.2.1.below hb HI.out.2.1.lt))
            clear hb
            go_wp2
            go_roundw
            case rel => exact ⟨j + 1, by omega, by omega, by go_num, Lib.hid ⟨HZ.out.1, HZ.out.2, by rw [HTX.out, ← bts_append]⟩⟩
            case measure => simp [intOf]; omega
          · obtain rfl : j = t := by omega
            have HN := Lib.hid HI.out.1
            have HSN := Lib.hid (show T0 ++ [203, 140] ++ texts (cutL l fr j) = spGo l 0 (ss.take (k + 1)) by rw [HSP.out, HSB.out])
            clear HI
            go_wp2
            go_roundw
            case rel => exact ⟨k + 1, by omega, by go_num, Lib.hid ⟨HN.out, by rw [HSN.out]⟩⟩
            case measure => simp [intOf]; omega

      have s0 : s.st = 0 := by omega
      have hs0 : signB k s = if 0 < k then [46] else [] := by unfold signB; rw [if_neg s2, if_neg s1]
      rw [s0] at x3
      clear s2 s1 hst s0
      by_cases hk0 : 0 < k
      · have HSB := Lib.hid (show signB k s = [46] by rw [hs0, if_pos hk0])
        have dk : decide ((0 : Int) < (k : Int)) = true := decide_eq_true (by omega)
        clear hs0
        have q0 : ∀ W : World, Sem.run Try.prog (Op.stringOp .add (bts T0) ⟨#[46]⟩) W = .ok (.string (bts T0 ++ ⟨#[46]⟩)) W := fun W => run_string_add_sum W _ _ (by have h1 := HLE.out; have h2 : (⟨#[46]⟩ : ByteArray).size = 1 := rfl; rw [bts_size]; omega)
        have HV := Lib.hid (show bts T0 ++ ⟨#[46]⟩ = bts (T0 ++ [46] ++ texts (cutL l fr fr)) by rw [show cutL l fr fr = [] by unfold cutL; simp]; simp [texts, ← bts_append]; try rfl)
        go_wp2
        clear x0 x2 x3
        go_loopw [7, 10] (fun u7 u10 wq => ∃ j : Nat, fr ≤ j ∧ j ≤ t ∧ u10 = .int .i64 j ∧ Hid (Below w.heap.size w wq ∧ Blk wq pb 37 #[.int .i64 fr, .int .i64 s.nu, .int .i64 t, .int .i64 s.st, .bool s.hv] ∧ u7 = .string (bts (T0 ++ [46] ++ texts (cutL l fr j))))) (fun _ u10 _ => t - (intOf u10).toNat)
        case atStart => exact ⟨fr, Nat.le_refl _, by omega, rfl, Lib.hid ⟨HX.out.1, HX.out.2, by rw [← HV.out]⟩⟩
        case round =>
          obtain ⟨j, hj1, hj2, rfl, HI⟩ := hrel
          have e7 := HI.out.2.2
          subst e7
          have y2 : wr.cell? ⟨pb, 2, none⟩ = some (.int .i64 t) := HI.out.2.1.cell 2
          by_cases hjt : j < t
          · obtain ⟨bp, op, hlp, eA1, hL, hB2, x0, x1, x2⟩ := (H.out.1.below HI.out.1 z1).ph (k := j) (by omega)
            cases eA1
            have hcs := cut_snoc (l := l) (a := fr) (k := j) hj1 hlp
            have htx : texts (cutL l fr (j + 1)) = texts (cutL l fr j) ++ textP l[j] := by rw [hcs, texts_snoc]
            have b1 := texts_len (cutL l fr j) (cut_all HF.out.all fr j)
            rw [cut_len (by omega)] at b1
            have b2 := textP_len (List.all_eq_true.1 HF.out.all _ (List.getElem_mem hlp))
            generalize l[j] = p at *
            have HTX := Lib.hid (show T0 ++ [46] ++ texts (cutL l fr (j + 1)) = (T0 ++ [46] ++ texts (cutL l fr j)) ++ textP p by rw [htx]; simp)
            have q1 : ∀ W : World, Sem.run Try.prog (Op.stringOp .add (bts (T0 ++ [46] ++ texts (cutL l fr j))) (bts (textP p))) W = .ok (.string (bts (T0 ++ [46] ++ texts (cutL l fr j)) ++ bts (textP p))) W := fun W => run_string_add_sum W _ _ (by have h1 := HLE.out; simp only [bts_size, List.length_append, List.length_cons, List.length_nil]; omega)
            generalize T0 ++ [46] ++ texts (cutL l fr j) = TJ at *
            clear hcs htx hL hB2 b1 b2
            have i1 : (0 : Int) ≤ (j : Int) := by omega
            have i2 : (j : Int) < (n : Int) := by omega
            go_wp2_with fail
            refine (refText_any p _).mono ?_
            rintro e wz ⟨rfl, hb⟩
            have HZ := Lib.hid (And.intro (HI.out.1.trans (hb.mono HI.out.1.size)) (HI.out.2.1.below hb HI.out.2.1.lt))
            clear hb
            go_wp2
            go_roundw
            case rel => exact ⟨j + 1, by omega, by omega, by go_num, Lib.hid ⟨HZ.out.1, HZ.out.2, by rw [HTX.out, ← bts_append]⟩⟩
            case measure => simp [intOf]; omega
          · obtain rfl : j = t := by omega
            have HN := Lib.hid HI.out.1
            have HSN := Lib.hid (show T0 ++ [46] ++ texts (cutL l fr j) = spGo l 0 (ss.take (k + 1)) by rw [HSP.out, HSB.out])
            clear HI
            go_wp2
            go_roundw
            case rel => exact ⟨k + 1, by omega, by go_num, Lib.hid ⟨HN.out, by rw [HSN.out]⟩⟩
            case measure => simp [intOf]; omega

      · have HSB := Lib.hid (show signB k s = [] by rw [hs0, if_neg hk0])
        have dk : decide ((0 : Int) < (k : Int)) = false := decide_eq_false (by omega)
        clear hs0
        have HV := Lib.hid (show bts T0 = bts (T0 ++ [] ++ texts (cutL l fr fr)) by rw [show cutL l fr fr = [] by unfold cutL; simp]; simp [texts]; try rfl)
        go_wp2
        clear x0 x2 x3
        go_loopw [7, 10] (fun u7 u10 wq => ∃ j : Nat, fr ≤ j ∧ j ≤ t ∧ u10 = .int .i64 j ∧ Hid (Below w.heap.size w wq ∧ Blk wq pb 37 #[.int .i64 fr, .int .i64 s.nu, .int .i64 t, .int .i64 s.st, .bool s.hv] ∧ u7 = .string (bts (T0 ++ [] ++ texts (cutL l fr j))))) (fun _ u10 _ => t - (intOf u10).toNat)
        case atStart => exact ⟨fr, Nat.le_refl _, by omega, rfl, Lib.hid ⟨HX.out.1, HX.out.2, by rw [← HV.out]⟩⟩
        case round =>
          obtain ⟨j, hj1, hj2, rfl, HI⟩ := hrel
          have e7 := HI.out.2.2
          subst e7
          have y2 : wr.cell? ⟨pb, 2, none⟩ = some (.int .i64 t) := HI.out.2.1.cell 2
          by_cases hjt : j < t
          · obtain ⟨bp, op, hlp, eA1, hL, hB2, x0, x1, x2⟩ := (H.out.1.below HI.out.1 z1).ph (k := j) (by omega)
            cases eA1
            have hcs := cut_snoc (l := l) (a := fr) (k := j) hj1 hlp
            have htx : texts (cutL l fr (j + 1)) = texts (cutL l fr j) ++ textP l[j] := by rw [hcs, texts_snoc]
            have b1 := texts_len (cutL l fr j) (cut_all HF.out.all fr j)
            rw [cut_len (by omega)] at b1
            have b2 := textP_len (List.all_eq_true.1 HF.out.all _ (List.getElem_mem hlp))
            generalize l[j] = p at *
            have HTX := Lib.hid (show T0 ++ [] ++ texts (cutL l fr (j + 1)) = (T0 ++ [] ++ texts (cutL l fr j)) ++ textP p by rw [htx]; simp)
            have q1 : ∀ W : World, Sem.run Try.prog (Op.stringOp .add (bts (T0 ++ [] ++ texts (cutL l fr j))) (bts (textP p))) W = .ok (.string (bts (T0 ++ [] ++ texts (cutL l fr j)) ++ bts (textP p))) W := fun W => run_string_add_sum W _ _ (by have h1 := HLE.out; simp only [bts_size, List.length_append, List.length_nil]; omega)
            generalize T0 ++ [] ++ texts (cutL l fr j) = TJ at *
            clear hcs htx hL hB2 b1 b2
            have i1 : (0 : Int) ≤ (j : Int) := by omega
            have i2 : (j : Int) < (n : Int) := by omega
            go_wp2_with fail
            refine (refText_any p _).mono ?_
            rintro e wz ⟨rfl, hb⟩
            have HZ := Lib.hid (And.intro (HI.out.1.trans (hb.mono HI.out.1.size)) (HI.out.2.1.below hb HI.out.2.1.lt))
            clear hb
            go_wp2
            go_roundw
            case rel => exact ⟨j + 1, by omega, by omega, by go_num, Lib.hid ⟨HZ.out.1, HZ.out.2, by rw [HTX.out, ← bts_append]⟩⟩
            case measure => simp [intOf]; omega
          · obtain rfl : j = t := by omega
            have HN := Lib.hid HI.out.1
            have HSN := Lib.hid (show T0 ++ [] ++ texts (cutL l fr j) = spGo l 0 (ss.take (k + 1)) by rw [HSP.out, HSB.out])
            clear HI
            go_wp2
            go_roundw
            case rel => exact ⟨k + 1, by omega, by go_num, Lib.hid ⟨HN.out, by rw [HSN.out]⟩⟩
            case measure => simp [intOf]; omega

    · obtain rfl : k = m := by omega
      have HTK := Lib.hid (show spT l ss = spGo l 0 (ss.take k) by rw [HS.out, List.take_of_length_le (by omega)])
      have di : ¬ ((k : Int) < (k : Int)) := by omega
      have HN := Lib.hid HR.out.1
      clear HR
      generalize spGo l 0 (ss.take k) = T at *
      go_wp2
      go_ret2
      exact ⟨by rw [HTK.out]; rfl, HN.out⟩

set_option maxHeartbeats 16000000 in
set_option maxRecDepth 100000 in
theorem syllablePrints_any (A D : Option Addr) (n c m d : Nat) (l : List Ph) (ss : List Sy) (w : World) (h : Rd w 0 w.heap.size 3 A n (phs l)) (h2 : Rd w 0 w.heap.size 5 D m (sys ss)) (hf : ∀ p ∈ l, fitP p) (hnc : n ≤ c) :
    Calls Try.prog 18 #[.slice A n c, .slice D m d] w fun e w' => e = .returned (.bool true) ∧ Below w.heap.size w w' := by
  have HF := Lib.hid hf
  have H0 := Lib.hid (SbSt.mk (Below.refl w.heap.size w) h h2)
  clear hf h h2
  go_enter Try.func18, Try.ntmps18
  go_wp2_with fail
  refine (works11_any _).mono ?_
  rintro e w1 ⟨rfl, hb⟩
  have H1 := Lib.hid (H0.out.on hb)
  clear hb H0
  go_wp2_with fail
  refine (sprint_any A D n c m d 0 _ 0 _ l ss _ H1.out.r0 H1.out.r1 (Nat.le_refl _) (Nat.le_refl _) hnc HF.out).mono ?_
  rintro e w2 ⟨rfl, hb⟩
  have H2 := Lib.hid (H1.out.on hb)
  clear hb H1
  go_wp2_with fail
  refine (refSprint_any A D n c m d 0 _ 0 _ l ss _ H2.out.r0 H2.out.r1 (Nat.le_refl _) (Nat.le_refl _)).mono ?_
  rintro e w3 ⟨rfl, hb⟩
  have H3 := Lib.hid (H2.out.on hb)
  clear hb H2
  have HMY := Lib.hid (may_any A D n c m d 0 _ 0 _ l ss _ H3.out.r0 H3.out.r1 (Nat.le_refl _) (Nat.le_refl _) HF.out)
  generalize bts (spT l ss) = T at *
  generalize mayF l ss = M at *
  go_wp2_with fail
  refine HMY.out.mono ?_
  rintro e w4 ⟨rfl, hb⟩
  have H4 := Lib.hid (H3.out.on hb)
  clear hb H3 HMY
  go_wp2_with fail
  refine (works11_any _).mono ?_
  rintro e w5 ⟨rfl, hb⟩
  have H5 := Lib.hid (H4.out.on hb).below
  clear hb H4
  go_wp2
  go_ret
  exact ⟨rfl, H5.out⟩
end Go.Proofs.Ytogofchpocoebaa
