/- syllable.phones, vowel, heavy, one, May.
   syllable.May. -/
import Derived.Test.YtogofchpocoebaaY0
import Derived.Test.YtogofchpocoebaaMem
namespace Go.Proofs.Ytogofchpocoebaa
open Go.RowKit Go.Maps

theorem sylVowel_any (p : Ph) (w : World) (h : isF p = true) : Calls Try.prog 141 #[.agg #[.int .i32 p.1, .bool p.2.1, .int .i32 p.2.2]] w fun e w' => e = .returned (.bool (vowF p)) ∧ Below w.heap.size w w' := by
  have HV := Lib.hid (And.intro (son_vow h) (isF_tab h).1)
  have hfit : fit32 p.1 := by
    have := tab_small (isF_tab h).1
    unfold fit32; omega
  have HF := Lib.hid hfit
  clear h hfit
  go_enter Try.func141, Try.ntmps141
  go_wp2_with fail
  refine (son_any p _ HF.out).mono ?_
  rintro e w1 ⟨rfl, hb⟩
  have H1 := Lib.hid (((Below.refl _ w).alloc (Nat.le_refl _) _).trans (hb.mono (by simp)))
  clear hb
  go_wp2
  go_ret
  exact ⟨ret_bool HV.out.1, H1.out⟩

theorem phones_any (A : Option Addr) (n c L B : Nat) (l : List Ph) (w : World) (h : Rd w L B 3 A n (phs l)) (hB : B ≤ w.heap.size) (hz : n ≤ maxLen) (hf : ∀ p ∈ l, fitP p) :
    Calls Try.prog 138 #[.slice A n c] w fun e w' => e = .returned (.bool (l.all isF)) ∧ Below w.heap.size w w' := by
  unfold maxLen at hz
  have HN := Lib.hid h.len_ph
  have H := Lib.hid (And.intro h hf)
  clear h hf
  go_enter Try.func138, Try.ntmps138
  go_wp2
  go_loopw [4, 7] (fun _ v wr => ∃ k : Nat, k ≤ n ∧ v = .int .i64 k ∧ Hid (Below w.heap.size w wr ∧ (l.take k).all isF = true)) (fun _ v _ => n - (intOf v).toNat)
  case atStart => exact ⟨0, by omega, rfl, Below.refl _ _, rfl⟩
  case round =>
    obtain ⟨k, hk, rfl, HR⟩ := hrel
    by_cases hlt : k < n
    · obtain ⟨b, o, hl, rfl, hL, hB2, x0, x1, x2⟩ := (H.out.1.below HR.out.1 hB).ph hlt
      have hsn : l.take (k + 1) = l.take k ++ [l[k]] := List.take_succ_eq_append_getElem hl
      have hal : l.all isF = true → isF l[k] = true := fun h => List.all_eq_true.1 h _ (List.getElem_mem hl)
      have hft := H.out.2 _ (List.getElem_mem hl)
      generalize l[k] = p at *
      have HSN := Lib.hid (And.intro hsn (And.intro hal hft))
      clear hsn hal hL hB2 hft
      have i1 : (0 : Int) ≤ (k : Int) := by omega
      have i2 : (k : Int) < (n : Int) := by omega
      go_upto_region 4 with (fail)
      refine wp_abs (fun wx => Below w.heap.size w wx ∧ Blk wx wr.heap.size 43 #[.int .i32 p.1, .bool p.2.1, .int .i32 p.2.2]) ⟨HR.out.1.trans (((Below.refl _ _).alloc (Nat.le_refl _) _).mono HR.out.1.size), Blk.new _ _ _⟩ ?_
      clear x0 x1 x2
      generalize wr.heap.size = xb at *
      rintro wx ⟨hb, hX⟩
      have x0 : wx.cell? ⟨xb, 0, none⟩ = some (.int .i32 p.1) := hX.cell 0
      have x1 : wx.cell? ⟨xb, 1, none⟩ = some (.bool p.2.1) := hX.cell 1
      have x2 : wx.cell? ⟨xb, 2, none⟩ = some (.int .i32 p.2.2) := hX.cell 2
      have HX0 := Lib.hid hb
      clear hb hX
      go_wp2_with fail
      refine (Is_any p _ HSN.out.2.2.1).mono ?_
      rintro e wz ⟨rfl, hb⟩
      have HX := Lib.hid (HX0.out.trans (hb.mono HX0.out.size))
      clear hb x0 x1 x2
      cases hF : isF p with
      | false =>
        have HF := Lib.hid (show l.all isF = false by
          cases hh : l.all isF with
          | false => rfl
          | true => rw [HSN.out.2.1 hh] at hF; cases hF)
        clear hF
        go_wp2
        go_ret
        exact ⟨ret_bool HF.out.symm, HX.out⟩
      | true =>
        have HF := Lib.hid hF
        clear hF
        go_wp2
        go_roundw
        case rel => exact ⟨k + 1, by omega, by go_num, Lib.hid ⟨HX.out, by rw [HSN.out.1, List.all_append, HR.out.2]; simp [HF.out]⟩⟩
        case measure => simp [intOf]; omega
    · have hkn : k = n := by omega
      subst hkn
      have HL := Lib.hid (show l.all isF = true by have := HR.out.2; rwa [List.take_of_length_le (by rw [HN.out]; exact Nat.le_refl _)] at this)
      go_wp2
      go_ret
      exact ⟨ret_bool HL.out.symm, HR.out.1⟩

theorem syBlk (w : World) (s : Sy) : Blk (w.alloc (.cells #[.int .i64 s.fr, .int .i64 s.nu, .int .i64 s.to_, .int .i64 s.st, .bool s.hv] 37)) w.heap.size 37 #[.int .i64 s.fr, .int .i64 s.nu, .int .i64 s.to_, .int .i64 s.st, .bool s.hv] := Blk.new _ _ _

set_option maxHeartbeats 1000000 in
theorem heavy_any (A : Option Addr) (n c L B : Nat) (l : List Ph) (s : Sy) (w : World) (h : Rd w L B 3 A n (phs l)) (hB : B ≤ w.heap.size) (hz : n ≤ 128) (h0 : 0 ≤ s.nu) (h1 : s.nu < n) :
    Calls Try.prog 142 #[.slice A n c, .agg #[.int .i64 s.fr, .int .i64 s.nu, .int .i64 s.to_, .int .i64 s.st, .bool s.hv]] w fun e w' => e = .returned (.bool (heavyF l s)) ∧ Below w.heap.size w w' := by
  obtain ⟨k, hk⟩ : ∃ k : Nat, s.nu = k := ⟨s.nu.toNat, by omega⟩
  obtain ⟨b, o, hl, rfl, _, hB2, x0, x1, x2⟩ := h.ph (k := k) (by omega)
  have HV := Lib.hid (show heavyF l s = (l[k].2.1 || l[k].2.2 != 0 || decide ((k : Int) + 1 < s.to_)) by
    unfold heavyF
    rw [hk, Int.toNat_natCast, List.getD_eq_getElem?_getD, List.getElem?_eq_getElem hl]; rfl)
  generalize l[k] = p at *
  have hbl : b < w.heap.size := by omega
  have i1 : (0 : Int) ≤ (k : Int) := by omega
  have i2 : (k : Int) < (n : Int) := by omega
  have hkb : (k : Int) ≤ 128 := by omega
  rw [hk]
  have HH := Lib.hid h
  clear h h0 h1 hk
  generalize s.fr = sf at *
  generalize s.to_ = st_ at *
  generalize s.st = ss at *
  generalize s.hv = sh at *
  go_enter Try.func142, Try.ntmps142
  go_upto_region 2 with (fail)
  refine wp_abs (fun wx => Below w.heap.size w wx ∧ Blk wx w.heap.size 37 #[.int .i64 sf, .int .i64 k, .int .i64 st_, .int .i64 ss, .bool sh] ∧ Blk wx (w.heap.size + 1) 43 #[.int .i32 p.1, .bool p.2.1, .int .i32 p.2.2]) ?f ?_
  case f => exact ⟨((Below.refl _ _).alloc (Nat.le_refl _) _).alloc (by simp) _, (Blk.new _ _ _).alloc _, blk_new_eq (by simp)⟩
  rintro w1 ⟨hb, hs, hp⟩
  have s1 : w1.cell? ⟨w.heap.size, 1, none⟩ = some (.int .i64 k) := hs.cell 1
  have s2 : w1.cell? ⟨w.heap.size, 2, none⟩ = some (.int .i64 st_) := hs.cell 2
  have p1 : w1.cell? ⟨w.heap.size + 1, 1, none⟩ = some (.bool p.2.1) := hp.cell 1
  have p2 : w1.cell? ⟨w.heap.size + 1, 2, none⟩ = some (.int .i32 p.2.2) := hp.cell 2
  have H1 := Lib.hid hb
  clear hb hs hp x0 x1 x2 hbl HH
  cases hlg : p.2.1 with
  | true =>
    rw [hlg] at p1
    have HR := Lib.hid (show heavyF l s = true by rw [HV.out, hlg]; rfl)
    clear hlg
    go_wp2
    go_ret
    exact ⟨ret_bool HR.out.symm, H1.out⟩
  | false =>
    rw [hlg] at p1
    cases hg : (p.2.2 != 0) with
    | true =>
      have HR := Lib.hid (show heavyF l s = true by rw [HV.out, hlg, hg]; rfl)
      clear hlg
      go_wp2
      go_ret
      exact ⟨ret_bool HR.out.symm, H1.out⟩
    | false =>
      have HR := Lib.hid (show heavyF l s = decide ((k : Int) + 1 < st_) by rw [HV.out, hlg, hg]; rfl)
      clear hlg
      go_wp2
      go_ret
      exact ⟨ret_bool HR.out.symm, H1.out⟩

theorem vbad_step {l : List Ph} {nu k t : Nat} (h : k < t) : vbad l nu k (t - k) = ((vowF (l.getD k ph0) != decide (k = nu)) || vbad l nu (k + 1) (t - (k + 1))) := by
  rw [show t - k = (t - (k + 1)) + 1 by omega]
  rfl

set_option maxHeartbeats 4000000 in
set_option maxRecDepth 100000 in
theorem one_any (A : Option Addr) (n c L B : Nat) (l : List Ph) (s : Sy) (f : Nat) (w : World) (h : Rd w L B 3 A n (phs l)) (hB : B ≤ w.heap.size) (hz : n ≤ 128) (hall : l.all isF = true) (_hf : f ≤ n) :
    Calls Try.prog 139 #[.slice A n c, .agg #[.int .i64 s.fr, .int .i64 s.nu, .int .i64 s.to_, .int .i64 s.st, .bool s.hv], .int .i64 f] w fun e w' => e = .returned (.int .i64 (oneF l s f)) ∧ Below w.heap.size w w' := by
  have HN := Lib.hid h.len_ph
  have H := Lib.hid (And.intro h hall)
  have HO := Lib.hid (show oneF l s f = if s.fr ≠ f ∨ s.nu < s.fr ∨ s.to_ ≤ s.nu ∨ l.length < s.to_ then 2 else if vbad l s.nu.toNat f (s.to_.toNat - f) then 110 else if s.hv ≠ heavyF l s ∨ s.st < 0 ∨ 2 < s.st then 2 else 0 from rfl)
  have hln := h.len_ph
  clear h hall
  have early : (s.fr ≠ f ∨ s.nu < s.fr ∨ s.to_ ≤ s.nu ∨ l.length < s.to_) → oneF l s f = 2 := fun h => by rw [HO.out, if_pos h]
  have HEA := Lib.hid early
  clear early
  by_cases t1 : s.fr = f
  case neg =>
    have b1 : (s.fr != (f : Int)) = true := by simpa using t1
    have HR := Lib.hid (HEA.out (.inl t1))
    clear t1
    generalize s.fr = sf at *
    generalize s.nu = sn at *
    generalize s.to_ = st_ at *
    go_enter Try.func139, Try.ntmps139
    go_wp2
    go_ret
    exact ⟨ret_int HR.out.symm, (Below.refl _ _).alloc (Nat.le_refl _) _⟩
  by_cases t2 : s.nu < s.fr
  · have b1 : (s.fr != (f : Int)) = false := by simpa using t1
    have b2 : decide (s.nu < s.fr) = true := by simpa using t2
    have HR := Lib.hid (HEA.out (.inr (.inl t2)))
    clear t1
    generalize s.fr = sf at *
    generalize s.nu = sn at *
    generalize s.to_ = st_ at *
    go_enter Try.func139, Try.ntmps139
    go_wp2
    go_ret
    exact ⟨ret_int HR.out.symm, (Below.refl _ _).alloc (Nat.le_refl _) _⟩
  by_cases t3 : s.to_ ≤ s.nu
  · have b1 : (s.fr != (f : Int)) = false := by simpa using t1
    have b2 : decide (s.nu < s.fr) = false := by simpa using t2
    have b3 : decide (s.to_ ≤ s.nu) = true := by simpa using t3
    have HR := Lib.hid (HEA.out (.inr (.inr (.inl t3))))
    clear t1
    generalize s.fr = sf at *
    generalize s.nu = sn at *
    generalize s.to_ = st_ at *
    go_enter Try.func139, Try.ntmps139
    go_wp2
    go_ret
    exact ⟨ret_int HR.out.symm, (Below.refl _ _).alloc (Nat.le_refl _) _⟩
  by_cases t4 : (n : Int) < s.to_
  · have b1 : (s.fr != (f : Int)) = false := by simpa using t1
    have b2 : decide (s.nu < s.fr) = false := by simpa using t2
    have b3 : decide (s.to_ ≤ s.nu) = false := by simpa using t3
    have b4 : decide ((n : Int) < s.to_) = true := by simpa using t4
    have HR := Lib.hid (HEA.out (.inr (.inr (.inr (by rw [hln]; exact t4)))))
    clear t1
    generalize s.fr = sf at *
    generalize s.nu = sn at *
    generalize s.to_ = st_ at *
    go_enter Try.func139, Try.ntmps139
    go_wp2
    go_ret
    exact ⟨ret_int HR.out.symm, (Below.refl _ _).alloc (Nat.le_refl _) _⟩
  obtain ⟨nu, hnu⟩ : ∃ k : Nat, s.nu = k := ⟨s.nu.toNat, by omega⟩
  obtain ⟨t, ht⟩ : ∃ k : Nat, s.to_ = k := ⟨s.to_.toNat, by omega⟩
  have hfn : f ≤ nu := by omega
  have hnt : nu < t := by omega
  have htn : t ≤ n := by omega
  have HO2 := Lib.hid (show oneF l s f = if vbad l nu f (t - f) then 110 else if s.hv ≠ heavyF l s ∨ s.st < 0 ∨ 2 < s.st then 2 else 0 by
    rw [HO.out, if_neg (by rintro (h | h | h | h) <;> omega), hnu, ht, Int.toNat_natCast, Int.toNat_natCast])
  have HH := Lib.hid (fun (W : World) (hr : Rd W L B 3 A n (phs l)) (hb : B ≤ W.heap.size) => heavy_any A n c L B l s W hr hb hz (by omega) (by omega))
  rw [t1, hnu, ht] at HH
  rw [t1, hnu, ht]
  clear HO HEA t1 t2 t3 t4 hnu ht
  have b1 : ((f : Int) != (f : Int)) = false := by simp
  have b2 : decide ((nu : Int) < (f : Int)) = false := by simp; omega
  have b3 : decide ((t : Int) ≤ (nu : Int)) = false := by simp; omega
  have b4 : decide ((n : Int) < (t : Int)) = false := by simp; omega
  have wf : ∀ k, Fence.wide.fn k := fun _ => trivial
  have wd : Fence.wide.depth = none := rfl
  generalize hst : s.st = ss at *
  generalize hhv : s.hv = sh at *
  generalize heavyF l s = hvy at *
  clear hst hhv
  go_enter Try.func139, Try.ntmps139
  go_upto_region 1 with (fail)
  refine wp_abs (fun wx => Below w.heap.size w wx ∧ Blk wx w.heap.size 37 #[.int .i64 f, .int .i64 nu, .int .i64 t, .int .i64 ss, .bool sh]) ⟨(Below.refl _ _).alloc (Nat.le_refl _) _, Blk.new _ _ _⟩ ?_
  rintro w1 ⟨hb, hs⟩
  have s0 : w1.cell? ⟨w.heap.size, 0, none⟩ = some (.int .i64 f) := hs.cell 0
  have s1 : w1.cell? ⟨w.heap.size, 1, none⟩ = some (.int .i64 nu) := hs.cell 1
  have s2 : w1.cell? ⟨w.heap.size, 2, none⟩ = some (.int .i64 t) := hs.cell 2
  have H1 := Lib.hid (And.intro hb hs)
  clear hb hs
  go_wp2
  clear s0 s1 s2
  go_loopw [7] (fun v wr => ∃ k : Nat, f ≤ k ∧ k ≤ t ∧ v = .int .i64 k ∧ Hid ((Below w.heap.size w wr ∧ Blk wr w.heap.size 37 #[.int .i64 f, .int .i64 nu, .int .i64 t, .int .i64 ss, .bool sh]) ∧ vbad l nu f (t - f) = vbad l nu k (t - k))) (fun v _ => t - (intOf v).toNat)
  case atStart => exact ⟨f, Nat.le_refl _, by omega, rfl, Lib.hid ⟨H1.out, rfl⟩⟩
  case round =>
    clear H1
    obtain ⟨k, hk1, hk2, rfl, HR⟩ := hrel
    have s1 : wr.cell? ⟨w.heap.size, 1, none⟩ = some (.int .i64 nu) := HR.out.1.2.cell 1
    have s2 : wr.cell? ⟨w.heap.size, 2, none⟩ = some (.int .i64 t) := HR.out.1.2.cell 2
    by_cases hlt : k < t
    · obtain ⟨b, o, hl, rfl, hL, hB2, x0, x1, x2⟩ := (H.out.1.below HR.out.1.1 hB).ph (k := k) (by omega)
      have hstep := vbad_step (l := l) (nu := nu) hlt
      rw [List.getD_eq_getElem?_getD, List.getElem?_eq_getElem hl] at hstep
      have hip : isF l[k] = true := List.all_eq_true.1 H.out.2 _ (List.getElem_mem hl)
      have HP := Lib.hid hip
      generalize l[k] = p at *
      have hq : ((k : Int) == (nu : Int)) = decide (k = nu) := by
        by_cases e : k = nu
        · subst e; simp
        · have e2 : (k : Int) ≠ (nu : Int) := by omega
          have : ((k : Int) == (nu : Int)) = false := by simpa using e2
          rw [this, decide_eq_false e]
      generalize decide (k = nu) = dq at *
      have HST := Lib.hid hstep
      clear hstep hip hL hB2
      have i1 : (0 : Int) ≤ (k : Int) := by omega
      have i2 : (k : Int) < (n : Int) := by omega
      go_wp2
      have Xx0 := Bel.cell x0
      have Xx1 := Bel.cell x1
      have Xx2 := Bel.cell x2
      have Xs1 := Bel.cell s1
      clear x0 x1 x2 s1 s2
      refine wp_bel (by kernel_rfl) (by kernel_rfl) ?_
      repeat (gi_big_quiet_step (fail))
      gi_big_quiet_want
      gi_big_quiet_op
      refine ⟨.bool (vowF p), fun x => ?_, ?_⟩
      · exact callsIn_wide.2 ((sylVowel_any p x.1 HP.out).mono (fun e w' h => ⟨h.1, x.next h.2⟩))
      go_big_quiet_on
      repeat (gi_big_quiet_step (fail))
      refine wpQuietIn_nil ?_
      intro _ hw'
      obtain ⟨xW, hw''⟩ := hw'
      subst hw''
      clear Xx0 Xx1 Xx2 Xs1
      obtain ⟨W3, hb3⟩ := xW
      dsimp only
      have H3 := Lib.hid (And.intro (HR.out.1.1.trans (hb3.mono HR.out.1.1.size)) (HR.out.1.2.below hb3 HR.out.1.2.lt))
      clear hb3
      cases hc : (vowF p == dq) with
      | false =>
        have HV := Lib.hid (show oneF l s f = 110 by
          rw [HO2.out, HR.out.2, HST.out]
          have e : (vowF (some p |>.getD ph0) != dq) = true := by show (!(vowF p == dq)) = true; rw [hc]; rfl
          rw [e]; rfl)
        go_wp2
        go_ret
        exact ⟨ret_int HV.out.symm, H3.out.1⟩
      | true =>
        have HV := Lib.hid (show vbad l nu f (t - f) = vbad l nu (k + 1) (t - (k + 1)) by
          rw [HR.out.2, HST.out]
          have e : (vowF (some p |>.getD ph0) != dq) = false := by show (!(vowF p == dq)) = false; rw [hc]; rfl
          rw [e]; rfl)
        go_wp2
        go_roundw
        case rel => exact ⟨k + 1, by omega, by omega, by go_num, Lib.hid ⟨H3.out, HV.out⟩⟩
        case measure => simp [intOf]; omega
    · obtain rfl : k = t := by omega
      have HV := Lib.hid (show oneF l s f = if sh ≠ hvy ∨ ss < 0 ∨ 2 < ss then 2 else 0 by
        rw [HO2.out, HR.out.2, Nat.sub_self]; rfl)
      have s0 : wr.cell? ⟨w.heap.size, 0, none⟩ = some (.int .i64 f) := HR.out.1.2.cell 0
      have s3 : wr.cell? ⟨w.heap.size, 3, none⟩ = some (.int .i64 ss) := HR.out.1.2.cell 3
      have s4 : wr.cell? ⟨w.heap.size, 4, none⟩ = some (.bool sh) := HR.out.1.2.cell 4
      have HB := Lib.hid HR.out.1.1
      have HRD := Lib.hid (And.intro (H.out.1.below HR.out.1.1 hB) (Nat.le_trans hB HR.out.1.1.size))
      clear HR
      go_wp2
      have Xs0 := Bel.cell s0
      have Xs1 := Bel.cell s1
      have Xs2 := Bel.cell s2
      have Xs3 := Bel.cell s3
      have Xs4 := Bel.cell s4
      clear s0 s1 s2 s3 s4
      by_cases u1 : sh = hvy
      case neg =>
        have v1 : (sh == hvy) = false := by simpa using u1
        have HW := Lib.hid (show oneF l s f = 2 by rw [HV.out, if_pos (.inl u1)])
        clear u1
        refine wp_bel (by kernel_rfl) (by kernel_rfl) ?_
        repeat (gi_big_quiet_step (fail))
        gi_big_quiet_want
        gi_big_quiet_op
        refine ⟨.bool hvy, fun x => ?_, ?_⟩
        · exact callsIn_wide.2 ((HH.out x.1 (HRD.out.1.below x.2 HRD.out.2) (Nat.le_trans HRD.out.2 x.2.size)).mono (fun e w' h => ⟨h.1, x.next h.2⟩))
        go_big_quiet_on
        repeat (gi_big_quiet_step (fail))
        refine wpQuietIn_nil ?_
        intro _ hw'
        obtain ⟨xW, hw''⟩ := hw'
        subst hw''
        have HZ := Lib.hid (HB.out.trans (xW.2.mono HB.out.size))
        go_wp2
        go_ret
        exact ⟨ret_int HW.out.symm, HZ.out⟩
      by_cases u2 : ss < 0
      · have v1 : (sh == hvy) = true := by simpa using u1
        have v2 : decide (ss < 0) = true := by simpa using u2
        have HW := Lib.hid (show oneF l s f = 2 by rw [HV.out, if_pos (.inr (.inl u2))])
        clear u1
        refine wp_bel (by kernel_rfl) (by kernel_rfl) ?_
        repeat (gi_big_quiet_step (fail))
        gi_big_quiet_want
        gi_big_quiet_op
        refine ⟨.bool hvy, fun x => ?_, ?_⟩
        · exact callsIn_wide.2 ((HH.out x.1 (HRD.out.1.below x.2 HRD.out.2) (Nat.le_trans HRD.out.2 x.2.size)).mono (fun e w' h => ⟨h.1, x.next h.2⟩))
        go_big_quiet_on
        repeat (gi_big_quiet_step (fail))
        refine wpQuietIn_nil ?_
        intro _ hw'
        obtain ⟨xW, hw''⟩ := hw'
        subst hw''
        have HZ := Lib.hid (HB.out.trans (xW.2.mono HB.out.size))
        go_wp2
        go_ret
        exact ⟨ret_int HW.out.symm, HZ.out⟩
      by_cases u3 : 2 < ss
      · have v1 : (sh == hvy) = true := by simpa using u1
        have v2 : decide (ss < 0) = false := by simpa using u2
        have v3 : decide (2 < ss) = true := by simpa using u3
        have HW := Lib.hid (show oneF l s f = 2 by rw [HV.out, if_pos (.inr (.inr u3))])
        clear u1
        refine wp_bel (by kernel_rfl) (by kernel_rfl) ?_
        repeat (gi_big_quiet_step (fail))
        gi_big_quiet_want
        gi_big_quiet_op
        refine ⟨.bool hvy, fun x => ?_, ?_⟩
        · exact callsIn_wide.2 ((HH.out x.1 (HRD.out.1.below x.2 HRD.out.2) (Nat.le_trans HRD.out.2 x.2.size)).mono (fun e w' h => ⟨h.1, x.next h.2⟩))
        go_big_quiet_on
        repeat (gi_big_quiet_step (fail))
        refine wpQuietIn_nil ?_
        intro _ hw'
        obtain ⟨xW, hw''⟩ := hw'
        subst hw''
        have HZ := Lib.hid (HB.out.trans (xW.2.mono HB.out.size))
        go_wp2
        go_ret
        exact ⟨ret_int HW.out.symm, HZ.out⟩
      · have v1 : (sh == hvy) = true := by simpa using u1
        have v2 : decide (ss < 0) = false := by simpa using u2
        have v3 : decide (2 < ss) = false := by simpa using u3
        have HW := Lib.hid (show oneF l s f = 0 by rw [HV.out, if_neg (by rintro (h | h | h); exact h u1; exact u2 h; exact u3 h)])
        clear u1
        refine wp_bel (by kernel_rfl) (by kernel_rfl) ?_
        repeat (gi_big_quiet_step (fail))
        gi_big_quiet_want
        gi_big_quiet_op
        refine ⟨.bool hvy, fun x => ?_, ?_⟩
        · exact callsIn_wide.2 ((HH.out x.1 (HRD.out.1.below x.2 HRD.out.2) (Nat.le_trans HRD.out.2 x.2.size)).mono (fun e w' h => ⟨h.1, x.next h.2⟩))
        go_big_quiet_on
        repeat (gi_big_quiet_step (fail))
        refine wpQuietIn_nil ?_
        intro _ hw'
        obtain ⟨xW, hw''⟩ := hw'
        subst hw''
        have HZ := Lib.hid (HB.out.trans (xW.2.mono HB.out.size))
        go_wp2
        go_ret
        exact ⟨ret_int HW.out.symm, HZ.out⟩
end Go.Proofs.Ytogofchpocoebaa

namespace Go.Proofs.Ytogofchpocoebaa
open Go.RowKit Go.Maps

theorem mayGo_step {l : List Ph} {ss : List Sy} {k f : Nat} (h : k < ss.length) : mayGo l (ss.drop k) f = if oneF l ss[k] f = 0 then mayGo l (ss.drop (k + 1)) ss[k].to_.toNat else oneF l ss[k] f := by
  rw [List.drop_eq_getElem_cons h]; rfl
theorem mayGo_end {l : List Ph} {ss : List Sy} {k f : Nat} (h : ss.length ≤ k) : mayGo l (ss.drop k) f = if f = l.length then 0 else 2 := by
  rw [List.drop_eq_nil_of_le h]; rfl

set_option maxHeartbeats 4000000 in
set_option maxRecDepth 100000 in
theorem may_any (A D : Option Addr) (n c m d L1 B1 L2 B2 : Nat) (l : List Ph) (ss : List Sy) (w : World) (h : Rd w L1 B1 3 A n (phs l)) (h2 : Rd w L2 B2 5 D m (sys ss)) (z1 : B1 ≤ w.heap.size) (z2 : B2 ≤ w.heap.size) (hf : ∀ p ∈ l, fitP p) :
    Calls Try.prog 83 #[.slice A n c, .slice D m d] w fun e w' => e = .returned (.int .i64 (mayF l ss)) ∧ Below w.heap.size w w' := by
  have eA := h.len_ph
  have eD := h2.len_sy
  have HV := Lib.hid (show mayF l ss = if 128 < l.length ∨ 64 < ss.length then 3 else if l.all isF then if ss = [] then 110 else mayGo l ss 0 else 2 from rfl)
  have H := Lib.hid (And.intro h (And.intro h2 hf))
  clear h h2 hf
  by_cases t1 : 128 < n
  · have b1 : decide ((128 : Int) < (n : Int)) = true := by simp; omega
    have HW := Lib.hid (show mayF l ss = 3 by rw [HV.out, if_pos (by omega)])
    clear t1
    go_enter Try.func83, Try.ntmps83
    go_wp2
    go_ret
    exact ⟨ret_int HW.out.symm, Below.refl _ _⟩
  have b1 : decide ((128 : Int) < (n : Int)) = false := by simp; omega
  by_cases t2 : 64 < m
  · have b2 : decide ((64 : Int) < (m : Int)) = true := by simp; omega
    have HW := Lib.hid (show mayF l ss = 3 by rw [HV.out, if_pos (by omega)])
    clear t1
    go_enter Try.func83, Try.ntmps83
    go_wp2
    go_ret
    exact ⟨ret_int HW.out.symm, Below.refl _ _⟩
  have b2 : decide ((64 : Int) < (m : Int)) = false := by simp; omega
  have HV2 := Lib.hid (show mayF l ss = if l.all isF then if ss = [] then 110 else mayGo l ss 0 else 2 by rw [HV.out, if_neg (by omega)])
  have HP := Lib.hid (phones_any A n c L1 B1 l w H.out.1 z1 (by unfold maxLen; omega) H.out.2.2)
  clear HV
  go_enter Try.func83, Try.ntmps83
  go_wp2_with fail
  refine HP.out.mono ?_
  rintro e w1 ⟨rfl, hb⟩
  have H1 := Lib.hid hb
  clear hb HP
  cases hall : l.all isF with
  | false =>
    have HW := Lib.hid (show mayF l ss = 2 by rw [HV2.out, hall]; rfl)
    clear hall
    go_wp2
    go_ret
    exact ⟨ret_int HW.out.symm, H1.out⟩
  | true =>
    have HALL := Lib.hid hall
    by_cases hm : m = 0
    · have bm : ((m : Int) == 0) = true := by rw [hm]; rfl
      have hss : ss = [] := List.eq_nil_of_length_eq_zero (by omega)
      have HW := Lib.hid (show mayF l ss = 110 by rw [HV2.out, hall, hss]; rfl)
      clear hall hss hm
      go_wp2
      go_ret
      exact ⟨ret_int HW.out.symm, H1.out⟩
    · have bm : ((m : Int) == 0) = false := by simp; omega
      have HW := Lib.hid (show mayF l ss = mayGo l ss 0 by
        rw [HV2.out, hall, if_pos rfl, if_neg]
        intro e
        rw [e] at eD
        exact hm eD.symm)
      clear hall
      go_wp2
      go_loopw [5, 7, 8, 28] (fun v5 _ _ v28 wr => ∃ k f : Nat, k ≤ m ∧ f ≤ n ∧ v5 = .int .i64 f ∧ v28 = .int .i64 k ∧ Hid (Below w.heap.size w wr ∧ mayGo l ss 0 = mayGo l (ss.drop k) f)) (fun _ _ _ v28 _ => m - (intOf v28).toNat)
      case atStart => exact ⟨0, 0, by omega, by omega, rfl, rfl, Lib.hid ⟨H1.out, rfl⟩⟩
      case round =>
        clear H1
        obtain ⟨k, f, hk, hfn, rfl, rfl, HR⟩ := hrel
        by_cases hlt : k < m
        · obtain ⟨b, o, hl, rfl, hL, hB2, x0, x1, x2, x3, x4⟩ := (H.out.2.1.below HR.out.1 z2).sy (k := k) hlt
          have hstep := mayGo_step (l := l) (ss := ss) (k := k) (f := f) hl
          have HOK := Lib.hid (fun h : oneF l ss[k] f = 0 => one_ok h)
          have HON := Lib.hid (fun (W : World) (hb : Below w.heap.size w W) => one_any A n c L1 B1 l ss[k] f W (H.out.1.below hb z1) (Nat.le_trans z1 hb.size) (by omega) HALL.out hfn)
          have HST := Lib.hid hstep
          clear hstep hL hB2
          generalize ss[k] = s at *
          have i1 : (0 : Int) ≤ (k : Int) := by omega
          have i2 : (k : Int) < (m : Int) := by omega
          go_upto_region 11 with (fail)
          refine wp_abs (fun wx => Below w.heap.size w wx ∧ Blk wx wr.heap.size 37 #[.int .i64 s.fr, .int .i64 s.nu, .int .i64 s.to_, .int .i64 s.st, .bool s.hv]) ⟨HR.out.1.trans (((Below.refl _ _).alloc (Nat.le_refl _) _).mono HR.out.1.size), Blk.new _ _ _⟩ ?_
          clear x0 x1 x2 x3 x4
          generalize wr.heap.size = xb at *
          rintro wx ⟨hb, hX⟩
          have x0 : wx.cell? ⟨xb, 0, none⟩ = some (.int .i64 s.fr) := hX.cell 0
          have x1 : wx.cell? ⟨xb, 1, none⟩ = some (.int .i64 s.nu) := hX.cell 1
          have x2 : wx.cell? ⟨xb, 2, none⟩ = some (.int .i64 s.to_) := hX.cell 2
          have x3 : wx.cell? ⟨xb, 3, none⟩ = some (.int .i64 s.st) := hX.cell 3
          have x4 : wx.cell? ⟨xb, 4, none⟩ = some (.bool s.hv) := hX.cell 4
          have HX := Lib.hid (And.intro hb hX)
          clear hb hX
          go_wp2_with fail
          refine (HON.out _ HX.out.1).mono ?_
          rintro e wz ⟨rfl, hb⟩
          have HZ := Lib.hid (And.intro (HX.out.1.trans (hb.mono HX.out.1.size)) (HX.out.2.below hb HX.out.2.lt))
          clear hb HX x0 x1 x2 x3 x4 HON
          have x2 : wz.cell? ⟨xb, 2, none⟩ = some (.int .i64 s.to_) := HZ.out.2.cell 2
          by_cases he : oneF l s f = 0
          · obtain ⟨q1, q2, q3, q4, _⟩ := HOK.out he
            obtain ⟨t, ht⟩ : ∃ t : Nat, s.to_ = t := ⟨s.to_.toNat, by omega⟩
            have HN := Lib.hid (show mayGo l ss 0 = mayGo l (ss.drop (k + 1)) t by rw [HR.out.2, HST.out, if_pos he, ht, Int.toNat_natCast])
            have htn : t ≤ n := by omega
            have hb1 : (oneF l s f != 0) = false := by rw [he]; rfl
            rw [ht] at x2
            clear q1 q2 q3 q4 ht he
            generalize oneF l s f = E at *
            go_wp2
            go_roundw
            case rel => exact ⟨k + 1, t, by omega, htn, rfl, by go_num, Lib.hid ⟨HZ.out.1, HN.out⟩⟩
            case measure => simp [intOf]; omega
          · have HN := Lib.hid (show mayF l ss = oneF l s f by rw [HW.out, HR.out.2, HST.out, if_neg he])
            have hb1 : (oneF l s f != 0) = true := by simpa using he
            clear he
            generalize oneF l s f = E at *
            go_wp2
            go_ret
            exact ⟨ret_int HN.out.symm, HZ.out.1⟩
        · have hkm : k = m := by omega
          subst hkm
          have HE := Lib.hid (show mayF l ss = if f = l.length then 0 else 2 by rw [HW.out, HR.out.2, mayGo_end (by omega)])
          by_cases hfl : f = n
          · have bf : ((f : Int) != (n : Int)) = false := by rw [hfl]; simp
            have HN := Lib.hid (show mayF l ss = 0 by rw [HE.out, if_pos (by omega)])
            clear hfl
            go_wp2
            go_ret
            exact ⟨ret_int HN.out.symm, HR.out.1⟩
          · have bf : ((f : Int) != (n : Int)) = true := by simp; omega
            have HN := Lib.hid (show mayF l ss = 2 by rw [HE.out, if_neg (by omega)])
            clear hfl
            go_wp2
            go_ret
            exact ⟨ret_int HN.out.symm, HR.out.1⟩
end Go.Proofs.Ytogofchpocoebaa
