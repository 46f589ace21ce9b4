/- The reference's vowel, heavy, May. -/
import Derived.Test.YtogofchpocoebaaY1
import Derived.Test.YtogofchpocoebaaS2
namespace Go.Proofs.Ytogofchpocoebaa
open Go.RowKit Go.Maps

theorem refVowel_any (p : Ph) (w : World) : Calls Try.prog 148 #[.agg #[.int .i32 p.1, .bool p.2.1, .int .i32 p.2.2]] w fun e w' => e = .returned (.bool (vowF p)) ∧ Below w.heap.size w w' := by
  have HV := Lib.hid (show vowF p = (traits p.1).vow from rfl)
  go_enter Try.func148, Try.ntmps148
  go_wp2_with fail
  refine (refOf_any p.1 _).mono ?_
  rintro e w1 ⟨rfl, hb⟩
  have H1 := Lib.hid (((Below.refl _ w).alloc (Nat.le_refl _) _).trans (hb.mono (by simp)))
  clear hb
  generalize traits p.1 = t at *
  go_wp2
  go_ret
  exact ⟨ret_bool HV.out.symm, H1.out.trans (((Below.refl _ _).alloc (Nat.le_refl _) _).mono H1.out.size)⟩

set_option maxHeartbeats 1000000 in
theorem refHeavy_any (A : Option Addr) (n c L B : Nat) (l : List Ph) (s : Sy) (w : World) (h : Rd w L B 3 A n (phs l)) (hB : B ≤ w.heap.size) (hz : n ≤ 128) (h0 : 0 ≤ s.nu) (h1 : s.nu < n) :
    Calls Try.prog 149 #[.slice A n c, .agg #[.int .i64 s.fr, .int .i64 s.nu, .int .i64 s.to_, .int .i64 s.st, .bool s.hv]] w fun e w' => e = .returned (.bool (heavyF l s)) ∧ Below w.heap.size w w' := by
  obtain ⟨k, hk⟩ : ∃ k : Nat, s.nu = k := ⟨s.nu.toNat, by omega⟩
  have HV0 := Lib.hid (show ∀ hl : k < l.length, heavyF l s = (l[k].2.1 || l[k].2.2 != 0 || decide ((k : Int) + 1 < s.to_)) from fun hl => by
    unfold heavyF
    rw [hk, Int.toNat_natCast, List.getD_eq_getElem?_getD, List.getElem?_eq_getElem hl]; rfl)
  have i1 : (0 : Int) ≤ (k : Int) := by omega
  have i2 : (k : Int) < (n : Int) := by omega
  have hkb : (k : Int) ≤ 128 := by omega
  rw [hk]
  have HH := Lib.hid h
  clear h h0 h1 hk
  generalize s.fr = sf at *
  generalize s.to_ = st_ at *
  generalize s.st = ss at *
  generalize s.hv = sh at *
  go_enter Try.func149, Try.ntmps149
  go_upto_region 1 with (fail)
  refine wp_abs (fun wx => Below w.heap.size w wx ∧ Blk wx w.heap.size 37 #[.int .i64 sf, .int .i64 k, .int .i64 st_, .int .i64 ss, .bool sh]) ⟨(Below.refl _ _).alloc (Nat.le_refl _) _, Blk.new _ _ _⟩ ?_
  rintro w1 ⟨hb, hs⟩
  have s1 : w1.cell? ⟨w.heap.size, 1, none⟩ = some (.int .i64 k) := hs.cell 1
  have s2 : w1.cell? ⟨w.heap.size, 2, none⟩ = some (.int .i64 st_) := hs.cell 2
  have H1 := Lib.hid hb
  obtain ⟨b, o, hl, rfl, _, hB2, x0, x1, x2⟩ := (HH.out.below hb hB).ph (k := k) (by omega)
  have HV := Lib.hid (HV0.out hl)
  generalize l[k] = p at *
  clear hb hs hB2 HV0
  cases hlg : p.2.1 with
  | true =>
    rw [hlg] at x1
    have HR := Lib.hid (show heavyF l s = true by rw [HV.out, hlg]; rfl)
    clear hlg
    go_wp2
    go_ret
    exact ⟨ret_bool HR.out.symm, H1.out⟩
  | false =>
    rw [hlg] at x1
    cases hg : (p.2.2 != 0) with
    | true =>
      have HR := Lib.hid (show heavyF l s = true by rw [HV.out, hlg, hg]; rfl)
      clear hlg
      go_wp2
      go_ret
      exact ⟨ret_bool HR.out.symm, H1.out⟩
    | false =>
      have HR := Lib.hid (show heavyF l s = decide ((k : Int) + 1 < st_) by rw [HV.out, hlg, hg]; rfl)
      clear hlg
      go_wp2
      go_ret
      exact ⟨ret_bool HR.out.symm, H1.out⟩

set_option maxHeartbeats 8000000 in
set_option maxRecDepth 100000 in
theorem refMay_any (A D : Option Addr) (n c m d L1 B1 L2 B2 : Nat) (l : List Ph) (ss : List Sy) (w : World) (h : Rd w L1 B1 3 A n (phs l)) (h2 : Rd w L2 B2 5 D m (sys ss)) (z1 : B1 ≤ w.heap.size) (z2 : B2 ≤ w.heap.size) :
    Calls Try.prog 111 #[.slice A n c, .slice D m d] w fun e w' => e = .returned (.int .i64 (mayF l ss)) ∧ Below w.heap.size w w' := by
  have eA := h.len_ph
  have eD := h2.len_sy
  have HV := Lib.hid (show mayF l ss = if 128 < l.length ∨ 64 < ss.length then 3 else if l.all isF then if ss = [] then 110 else mayGo l ss 0 else 2 from rfl)
  have H := Lib.hid (And.intro h h2)
  clear h h2
  by_cases t1 : 128 < n
  · have b1 : decide ((128 : Int) < (n : Int)) = true := by simp; omega
    have HW := Lib.hid (show mayF l ss = 3 by rw [HV.out, if_pos (by omega)])
    clear t1
    go_enter Try.func111, Try.ntmps111
    go_wp2
    go_ret
    exact ⟨ret_int HW.out.symm, Below.refl _ _⟩
  have b1 : decide ((128 : Int) < (n : Int)) = false := by simp; omega
  by_cases t2 : 64 < m
  · have b2 : decide ((64 : Int) < (m : Int)) = true := by simp; omega
    have HW := Lib.hid (show mayF l ss = 3 by rw [HV.out, if_pos (by omega)])
    clear t1
    go_enter Try.func111, Try.ntmps111
    go_wp2
    go_ret
    exact ⟨ret_int HW.out.symm, Below.refl _ _⟩
  have b2 : decide ((64 : Int) < (m : Int)) = false := by simp; omega
  have HV2 := Lib.hid (show mayF l ss = if l.all isF then if ss = [] then 110 else mayGo l ss 0 else 2 by rw [HV.out, if_neg (by omega)])
  have HP := Lib.hid (refAll_any A n c L1 B1 l w H.out.1 z1 (by unfold maxLen; omega))
  clear HV
  go_enter Try.func111, Try.ntmps111
  go_wp2_with fail
  refine HP.out.mono ?_
  rintro e w1 ⟨rfl, hb⟩
  have H1 := Lib.hid hb
  clear hb HP
  cases hall : l.all isF with
  | false =>
    have HW := Lib.hid (show mayF l ss = 2 by rw [HV2.out, hall]; rfl)
    clear hall
    go_wp2
    go_ret
    exact ⟨ret_int HW.out.symm, H1.out⟩
  | true =>
    by_cases hm : m = 0
    · have bm : ((m : Int) == 0) = true := by rw [hm]; rfl
      have hss : ss = [] := List.eq_nil_of_length_eq_zero (by omega)
      have HW := Lib.hid (show mayF l ss = 110 by rw [HV2.out, hall, hss]; rfl)
      clear hall hss hm
      go_wp2
      go_ret
      exact ⟨ret_int HW.out.symm, H1.out⟩
    · have bm : ((m : Int) == 0) = false := by simp; omega
      have HW := Lib.hid (show mayF l ss = mayGo l ss 0 by
        rw [HV2.out, hall, if_pos rfl, if_neg]
        intro e
        rw [e] at eD
        exact hm eD.symm)
      clear hall
      have wf : ∀ k, Fence.wide.fn k := fun _ => trivial
      have wd : Fence.wide.depth = none := rfl
      go_wp2
      go_loopw [5, 6, 7, 8] (fun v5 v6 _ _ wr => ∃ k f : Nat, k ≤ m ∧ f ≤ n ∧ v5 = .int .i64 f ∧ v6 = .int .i64 k ∧ Hid (Below w.heap.size w wr ∧ mayGo l ss 0 = mayGo l (ss.drop k) f)) (fun _ v6 _ _ _ => m - (intOf v6).toNat)
      case atStart => exact ⟨0, 0, by omega, by omega, rfl, rfl, Lib.hid ⟨H1.out, rfl⟩⟩
      case round =>
        clear H1
        obtain ⟨j, f, hk, hfn, rfl, rfl, HR⟩ := hrel
        by_cases hlt : j < m
        · obtain ⟨b, o, hl, rfl, hL, hB2, x0, x1, x2, x3, x4⟩ := (H.out.2.below HR.out.1 z2).sy (k := j) hlt
          have hstep := mayGo_step (l := l) (ss := ss) (k := j) (f := f) hl
          have HST := Lib.hid hstep
          clear hstep hL hB2
          generalize ss[j] = s at *
          have j1 : (0 : Int) ≤ (j : Int) := by omega
          have j2 : (j : Int) < (m : Int) := by omega
          have HO := Lib.hid (show oneF l s f = if s.fr ≠ f ∨ s.nu < s.fr ∨ s.to_ ≤ s.nu ∨ l.length < s.to_ then 2 else if vbad l s.nu.toNat f (s.to_.toNat - f) then 110 else if s.hv ≠ heavyF l s ∨ s.st < 0 ∨ 2 < s.st then 2 else 0 from rfl)
          have HNE := Lib.hid (fun h : oneF l s f ≠ 0 => show mayF l ss = oneF l s f by rw [HW.out, HR.out.2, HST.out, if_neg h])
          have HEA := Lib.hid (fun h : (s.fr ≠ f ∨ s.nu < s.fr ∨ s.to_ ≤ s.nu ∨ l.length < s.to_) => show mayF l ss = 2 by
            have e : oneF l s f = 2 := by rw [HO.out, if_pos h]
            rw [HNE.out (by rw [e]; decide), e])
          go_upto_region 12 with (fail)
          refine wp_abs (fun wx => Below w.heap.size w wx ∧ Blk wx wr.heap.size 37 #[.int .i64 s.fr, .int .i64 s.nu, .int .i64 s.to_, .int .i64 s.st, .bool s.hv]) ⟨HR.out.1.trans (((Below.refl _ _).alloc (Nat.le_refl _) _).mono HR.out.1.size), Blk.new _ _ _⟩ ?_
          clear x0 x1 x2 x3 x4
          generalize wr.heap.size = xb at *
          rintro wx ⟨hb, hX⟩
          have x0 : wx.cell? ⟨xb, 0, none⟩ = some (.int .i64 s.fr) := hX.cell 0
          have x1 : wx.cell? ⟨xb, 1, none⟩ = some (.int .i64 s.nu) := hX.cell 1
          have x2 : wx.cell? ⟨xb, 2, none⟩ = some (.int .i64 s.to_) := hX.cell 2
          have HX := Lib.hid (And.intro hb hX)
          clear hb hX
          by_cases t1 : s.fr = f
          case neg =>
            have c1 : (s.fr != (f : Int)) = true := by simpa using t1
            have HQ := Lib.hid (HEA.out (.inl t1))
            clear HO HNE HEA t1
            generalize s.fr = sf at *
            generalize s.nu = sn at *
            generalize s.to_ = st_ at *
            go_wp2
            go_ret
            exact ⟨ret_int HQ.out.symm, HX.out.1⟩
          by_cases t2 : s.nu < s.fr
          · skip
            have c1 : (s.fr != (f : Int)) = false := by simpa using t1
            have c2 : decide (s.nu < s.fr) = true := by simpa using t2
            have HQ := Lib.hid (HEA.out (.inr (.inl t2)))
            clear HO HNE HEA t1
            generalize s.fr = sf at *
            generalize s.nu = sn at *
            generalize s.to_ = st_ at *
            go_wp2
            go_ret
            exact ⟨ret_int HQ.out.symm, HX.out.1⟩
          by_cases t3 : s.to_ ≤ s.nu
          · skip
            have c1 : (s.fr != (f : Int)) = false := by simpa using t1
            have c2 : decide (s.nu < s.fr) = false := by simpa using t2
            have c3 : decide (s.to_ ≤ s.nu) = true := by simpa using t3
            have HQ := Lib.hid (HEA.out (.inr (.inr (.inl t3))))
            clear HO HNE HEA t1
            generalize s.fr = sf at *
            generalize s.nu = sn at *
            generalize s.to_ = st_ at *
            go_wp2
            go_ret
            exact ⟨ret_int HQ.out.symm, HX.out.1⟩
          by_cases t4 : (n : Int) < s.to_
          · skip
            have c1 : (s.fr != (f : Int)) = false := by simpa using t1
            have c2 : decide (s.nu < s.fr) = false := by simpa using t2
            have c3 : decide (s.to_ ≤ s.nu) = false := by simpa using t3
            have c4 : decide ((n : Int) < s.to_) = true := by simpa using t4
            have HQ := Lib.hid (HEA.out (.inr (.inr (.inr (by rw [eA]; exact t4)))))
            clear HO HNE HEA t1
            generalize s.fr = sf at *
            generalize s.nu = sn at *
            generalize s.to_ = st_ at *
            go_wp2
            go_ret
            exact ⟨ret_int HQ.out.symm, HX.out.1⟩
          obtain ⟨nu, hnu⟩ : ∃ k : Nat, s.nu = k := ⟨s.nu.toNat, by omega⟩
          obtain ⟨t, ht⟩ : ∃ k : Nat, s.to_ = k := ⟨s.to_.toNat, by omega⟩
          have hfnu : f ≤ nu := by omega
          have hnt : nu < t := by omega
          have htn : t ≤ n := by omega
          have HO2 := Lib.hid (show oneF l s f = if vbad l nu f (t - f) then 110 else if s.hv ≠ heavyF l s ∨ s.st < 0 ∨ 2 < s.st then 2 else 0 by
            rw [HO.out, if_neg (by rintro (h | h | h | h) <;> omega), hnu, ht, Int.toNat_natCast, Int.toNat_natCast])
          have HH := Lib.hid (fun (W : World) (hr : Rd W L1 B1 3 A n (phs l)) (hb : B1 ≤ W.heap.size) => refHeavy_any A n c L1 B1 l s W hr hb (by omega) (by omega) (by omega))
          have HTO := Lib.hid (show oneF l s f = 0 → mayGo l ss 0 = mayGo l (ss.drop (j + 1)) t from fun h => by rw [HR.out.2, HST.out, if_pos h, ht, Int.toNat_natCast])
          rw [t1, hnu, ht] at HH HX
          rw [t1] at x0
          rw [hnu] at x1
          rw [ht] at x2
          clear HO HEA t1 t2 t3 t4 hnu ht
          have c1 : ((f : Int) != (f : Int)) = false := by simp
          have c2 : decide ((nu : Int) < (f : Int)) = false := by simp; omega
          have c3 : decide ((t : Int) ≤ (nu : Int)) = false := by simp; omega
          have c4 : decide ((n : Int) < (t : Int)) = false := by simp; omega
          generalize hst : s.st = sst at *
          generalize hhv : s.hv = sh at *
          generalize heavyF l s = hvy at *
          clear hst hhv
          go_wp2
          clear x0 x1 x2
          go_loopw [8] (fun v wq => ∃ k : Nat, f ≤ k ∧ k ≤ t ∧ v = .int .i64 k ∧ Hid ((Below w.heap.size w wq ∧ Blk wq xb 37 #[.int .i64 f, .int .i64 nu, .int .i64 t, .int .i64 sst, .bool sh]) ∧ vbad l nu f (t - f) = vbad l nu k (t - k))) (fun v _ => t - (intOf v).toNat)
          case atStart => exact ⟨f, Nat.le_refl _, by omega, rfl, Lib.hid ⟨HX.out, rfl⟩⟩
          case round =>
            clear HX
            obtain ⟨k, hk1, hk2, rfl, HI⟩ := hrel
            have s1 : wr.cell? ⟨xb, 1, none⟩ = some (.int .i64 nu) := HI.out.1.2.cell 1
            have s2 : wr.cell? ⟨xb, 2, none⟩ = some (.int .i64 t) := HI.out.1.2.cell 2
            by_cases hkt : k < t
            · obtain ⟨bp, op, hlp, rfl, hL, hB2, x0, x1, x2⟩ := (H.out.1.below HI.out.1.1 z1).ph (k := k) (by omega)
              have hstep := vbad_step (l := l) (nu := nu) hkt
              rw [List.getD_eq_getElem?_getD, List.getElem?_eq_getElem hlp] at hstep
              generalize l[k] = p at *
              have hq : ((k : Int) == (nu : Int)) = decide (k = nu) := by
                by_cases e : k = nu
                · subst e; simp
                · have e2 : (k : Int) ≠ (nu : Int) := by omega
                  have : ((k : Int) == (nu : Int)) = false := by simpa using e2
                  rw [this, decide_eq_false e]
              generalize decide (k = nu) = dq at *
              have HSP := Lib.hid hstep
              clear hstep hL hB2
              have i1 : (0 : Int) ≤ (k : Int) := by omega
              have i2 : (k : Int) < (n : Int) := by omega
              go_wp2
              have Xx0 := Bel.cell x0
              have Xx1 := Bel.cell x1
              have Xx2 := Bel.cell x2
              have Xs1 := Bel.cell s1
              clear x0 x1 x2 s1 s2
              refine wp_bel (by kernel_rfl) (by kernel_rfl) ?_
              repeat (gi_big_quiet_step (fail))
              gi_big_quiet_want
              gi_big_quiet_op
              refine ⟨.bool (vowF p), fun x => ?_, ?_⟩
              · exact callsIn_wide.2 ((refVowel_any p x.1).mono (fun e w' h => ⟨h.1, x.next h.2⟩))
              go_big_quiet_on
              repeat (gi_big_quiet_step (fail))
              refine wpQuietIn_nil ?_
              intro _ hw'
              obtain ⟨xW, hw''⟩ := hw'
              subst hw''
              clear Xx0 Xx1 Xx2 Xs1
              obtain ⟨W3, hb3⟩ := xW
              dsimp only
              have H3 := Lib.hid (And.intro (HI.out.1.1.trans (hb3.mono HI.out.1.1.size)) (HI.out.1.2.below hb3 HI.out.1.2.lt))
              clear hb3
              cases hc : (vowF p == dq) with
              | false =>
                have HQ := Lib.hid (show mayF l ss = 110 by
                  have e1 : oneF l s f = 110 := by
                    rw [HO2.out, HI.out.2, HSP.out]
                    have e : (vowF (some p |>.getD ph0) != dq) = true := by show (!(vowF p == dq)) = true; rw [hc]; rfl
                    rw [e]; rfl
                  rw [HNE.out (by rw [e1]; decide), e1])
                go_wp2
                go_ret
                exact ⟨ret_int HQ.out.symm, H3.out.1⟩
              | true =>
                have HQ := Lib.hid (show vbad l nu f (t - f) = vbad l nu (k + 1) (t - (k + 1)) by
                  rw [HI.out.2, HSP.out]
                  have e : (vowF (some p |>.getD ph0) != dq) = false := by show (!(vowF p == dq)) = false; rw [hc]; rfl
                  rw [e]; rfl)
                go_wp2
                go_roundw
                case rel => exact ⟨k + 1, by omega, by omega, by go_num, Lib.hid ⟨H3.out, HQ.out⟩⟩
                case measure => simp [intOf]; omega
            · obtain rfl : k = t := by omega
              have HQV := Lib.hid (show oneF l s f = if sh ≠ hvy ∨ sst < 0 ∨ 2 < sst then 2 else 0 by
                rw [HO2.out, HI.out.2, Nat.sub_self]; rfl)
              have HQ2 := Lib.hid (fun h : (sh ≠ hvy ∨ sst < 0 ∨ 2 < sst) => show mayF l ss = 2 by
                have e1 : oneF l s f = 2 := by rw [HQV.out, if_pos h]
                rw [HNE.out (by rw [e1]; decide), e1])
              have s0 : wr.cell? ⟨xb, 0, none⟩ = some (.int .i64 f) := HI.out.1.2.cell 0
              have s3 : wr.cell? ⟨xb, 3, none⟩ = some (.int .i64 sst) := HI.out.1.2.cell 3
              have s4 : wr.cell? ⟨xb, 4, none⟩ = some (.bool sh) := HI.out.1.2.cell 4
              have HB := Lib.hid HI.out.1
              have HRD := Lib.hid (And.intro (H.out.1.below HI.out.1.1 z1) (Nat.le_trans z1 HI.out.1.1.size))
              clear HI
              go_wp2
              have Xs0 := Bel.cell s0
              have Xs1 := Bel.cell s1
              have Xs2 := Bel.cell s2
              have Xs3 := Bel.cell s3
              have Xs4 := Bel.cell s4
              clear s0 s1 s2 s3 s4
              by_cases u1 : sh = hvy
              case neg =>
                have v1 : (sh == hvy) = false := by simpa using u1
                have HZQ := Lib.hid (HQ2.out (.inl u1))
                clear u1
                refine wp_bel (by kernel_rfl) (by kernel_rfl) ?_
                repeat (gi_big_quiet_step (fail))
                gi_big_quiet_want
                gi_big_quiet_op
                refine ⟨.bool hvy, fun x => ?_, ?_⟩
                · exact callsIn_wide.2 ((HH.out x.1 (HRD.out.1.below x.2 HRD.out.2) (Nat.le_trans HRD.out.2 x.2.size)).mono (fun e w' h => ⟨h.1, x.next h.2⟩))
                go_big_quiet_on
                repeat (gi_big_quiet_step (fail))
                refine wpQuietIn_nil ?_
                intro _ hw'
                obtain ⟨xW, hw''⟩ := hw'
                subst hw''
                have HZ := Lib.hid (HB.out.1.trans (xW.2.mono HB.out.1.size))
                go_wp2
                go_ret
                exact ⟨ret_int HZQ.out.symm, HZ.out⟩
              by_cases u2 : sst < 0
              · have v1 : (sh == hvy) = true := by simpa using u1
                have v2 : decide (sst < 0) = true := by simpa using u2
                have HZQ := Lib.hid (HQ2.out (.inr (.inl u2)))
                clear u1
                refine wp_bel (by kernel_rfl) (by kernel_rfl) ?_
                repeat (gi_big_quiet_step (fail))
                gi_big_quiet_want
                gi_big_quiet_op
                refine ⟨.bool hvy, fun x => ?_, ?_⟩
                · exact callsIn_wide.2 ((HH.out x.1 (HRD.out.1.below x.2 HRD.out.2) (Nat.le_trans HRD.out.2 x.2.size)).mono (fun e w' h => ⟨h.1, x.next h.2⟩))
                go_big_quiet_on
                repeat (gi_big_quiet_step (fail))
                refine wpQuietIn_nil ?_
                intro _ hw'
                obtain ⟨xW, hw''⟩ := hw'
                subst hw''
                have HZ := Lib.hid (HB.out.1.trans (xW.2.mono HB.out.1.size))
                go_wp2
                go_ret
                exact ⟨ret_int HZQ.out.symm, HZ.out⟩
              by_cases u3 : 2 < sst
              · have v1 : (sh == hvy) = true := by simpa using u1
                have v2 : decide (sst < 0) = false := by simpa using u2
                have v3 : decide (2 < sst) = true := by simpa using u3
                have HZQ := Lib.hid (HQ2.out (.inr (.inr u3)))
                clear u1
                refine wp_bel (by kernel_rfl) (by kernel_rfl) ?_
                repeat (gi_big_quiet_step (fail))
                gi_big_quiet_want
                gi_big_quiet_op
                refine ⟨.bool hvy, fun x => ?_, ?_⟩
                · exact callsIn_wide.2 ((HH.out x.1 (HRD.out.1.below x.2 HRD.out.2) (Nat.le_trans HRD.out.2 x.2.size)).mono (fun e w' h => ⟨h.1, x.next h.2⟩))
                go_big_quiet_on
                repeat (gi_big_quiet_step (fail))
                refine wpQuietIn_nil ?_
                intro _ hw'
                obtain ⟨xW, hw''⟩ := hw'
                subst hw''
                have HZ := Lib.hid (HB.out.1.trans (xW.2.mono HB.out.1.size))
                go_wp2
                go_ret
                exact ⟨ret_int HZQ.out.symm, HZ.out⟩
              · have v1 : (sh == hvy) = true := by simpa using u1
                have v2 : decide (sst < 0) = false := by simpa using u2
                have v3 : decide (2 < sst) = false := by simpa using u3
                have HZQ := Lib.hid (HTO.out (by rw [HQV.out, if_neg (by rintro (h | h | h); exact h u1; exact u2 h; exact u3 h)]))
                clear u1
                refine wp_bel (by kernel_rfl) (by kernel_rfl) ?_
                repeat (gi_big_quiet_step (fail))
                gi_big_quiet_want
                gi_big_quiet_op
                refine ⟨.bool hvy, fun x => ?_, ?_⟩
                · exact callsIn_wide.2 ((HH.out x.1 (HRD.out.1.below x.2 HRD.out.2) (Nat.le_trans HRD.out.2 x.2.size)).mono (fun e w' h => ⟨h.1, x.next h.2⟩))
                go_big_quiet_on
                repeat (gi_big_quiet_step (fail))
                refine wpQuietIn_nil ?_
                intro _ hw'
                obtain ⟨xW, hw''⟩ := hw'
                subst hw''
                have HZ := Lib.hid (HB.out.1.trans (xW.2.mono HB.out.1.size))
                have x2 : xW.1.cell? ⟨xb, 2, none⟩ = some (.int .i64 k) := Xs2 xW
                clear Xs0 Xs1 Xs2 Xs3 Xs4
                generalize xW.1 = W9 at *
                go_wp2
                go_roundw
                case rel => exact ⟨j + 1, k, by omega, by omega, rfl, by go_num, Lib.hid ⟨HZ.out, HZQ.out⟩⟩
                case measure => simp [intOf]; omega
        · have hkm : j = m := by omega
          subst hkm
          have HE := Lib.hid (show mayF l ss = if f = l.length then 0 else 2 by rw [HW.out, HR.out.2, mayGo_end (by omega)])
          by_cases hfl : f = n
          · have bf : ((f : Int) != (n : Int)) = false := by rw [hfl]; simp
            have HN := Lib.hid (show mayF l ss = 0 by rw [HE.out, if_pos (by omega)])
            clear hfl
            go_wp2
            go_ret
            exact ⟨ret_int HN.out.symm, HR.out.1⟩
          · have bf : ((f : Int) != (n : Int)) = true := by simp; omega
            have HN := Lib.hid (show mayF l ss = 2 by rw [HE.out, if_neg (by omega)])
            clear hfl
            go_wp2
            go_ret
            exact ⟨ret_int HN.out.symm, HR.out.1⟩
end Go.Proofs.Ytogofchpocoebaa
