/- Faults: the walk where the scheme may be and has as many lines as there are keys. -/
import Derived.Test.YtbjfbmienlojkaaT47
import Derived.Deep.DeepMust
namespace Go.Proofs.Ytbjfbmienlojkaa
open Go.RowKit Go.Maps

theorem take_snoc' (ks : List ByteArray) {i : Nat} (h : i < ks.length) : ks.take (i + 1) = ks.take i ++ [ks[i]] := List.take_succ_eq_append_getElem h

set_option maxHeartbeats 4000000 in
set_option maxRecDepth 100000 in
theorem faults_ok (A1 A2 A : Option Addr) (c1 c2 n c L1 L2 L3 : Nat) (ls : List (Int × Int)) (st : List Int) (ks : List ByteArray) (w : World)
    (h1 : Rd w L1 w.heap.size 2 A1 n (prs ls)) (h2 : Rd w L2 w.heap.size 1 A2 st.length (st.map (Value.int .i64))) (h3 : Rd w L3 w.heap.size 1 A n (strs ks)) (hfit : ∀ k ∈ ks, k.size ≤ maxLen) (hm : may ls st = true) :
    Calls Try.prog 36 #[.agg #[.slice A1 n c1, .slice A2 st.length c2], .slice A n c] w fun e w' => ∃ X C, e = .returned (.tuple #[.slice X (faultsPre ls ks n).length C, .int .i64 0]) ∧
      w'.ownsRow w.heap.size 63 3 (.slice X (faultsPre ls ks n).length C) (faultsPre ls ks n).length (tps (faultsPre ls ks n)) ∧ Below w.heap.size w w' := by
  have hln : ls.length = n := by have := h1.1; rw [prs_len] at this; omega
  have hkn := h3.slen
  have hn : n ≤ 512 := by rw [← hln]; exact mayLen hm
  have hs2 := mayStan hm
  have HLN := Lib.hid hln
  have HKN := Lib.hid hkn
  have H1 := Lib.hid h1
  have H2 := Lib.hid h2
  have H3 := Lib.hid h3
  have HFT := Lib.hid hfit
  have HM := Lib.hid hm
  have HOK := Lib.hid (mayLine hm)
  have hmm := @run_makeMap Try.prog
  have hinfo : (Try.prog.info? 63).map (fun i => (i.zero, i.size, i.bytes)) = some (some (.agg #[.int .i64 0, .int .i64 0, .int .i64 0]), 3, 24) := by kernel_rfl
  obtain ⟨i0, hi, hz0, hz1, hz2⟩ := info_parts hinfo
  have HI := Lib.hid (And.intro hi (And.intro hz0 (And.intro hz1 hz2)))
  have hinf : (Try.prog.info? 100).map (·.size) = some 25 := by kernel_rfl
  have HI100 := Lib.hid hinf
  clear h1 h2 h3 hm hfit hln hkn hi hz0 hz1 hz2 hinfo hinf
  have hnb : ((n : Int) != (n : Int)) = false := by simp
  go_enter Try.func36, Try.ntmps36
  go_upto_region 1 with (fail)
  refine wp_abs (fun wx => Blk wx w.heap.size 26 #[.slice A1 n c1, .slice A2 st.length c2] ∧ Below w.heap.size w wx) ⟨Blk.new _ _ _, (Below.refl _ _).alloc (Nat.le_refl _) _⟩ ?_
  rintro wx ⟨k0, hb⟩
  have c00 : wx.cell? ⟨w.heap.size, 0, none⟩ = some (.slice A1 n c1) := k0.cell 0
  have c01 : wx.cell? ⟨w.heap.size, 1, none⟩ = some (.slice A2 st.length c2) := k0.cell 1
  have HK := Lib.hid (And.intro k0 hb)
  clear k0 hb
  go_wp2_with fail
  refine (check_any A1 A2 n c1 st.length c2 L1 L2 ls st wx (H1.out.up HK.out.2 HK.out.2.size) (H2.out.up HK.out.2 HK.out.2.size) (by unfold maxLen; omega) (by unfold maxLen; omega)).mono ?_
  rintro e w1 ⟨rfl, hb1⟩
  have HA := Lib.hid (And.intro (HK.out.1.below hb1 HK.out.1.lt) (HK.out.2.trans (hb1.mono HK.out.2.size)))
  clear c00 c01 hb1 HK
  rw [HM.out]
  simp only [errOf]
  have c00 : w1.cell? ⟨w.heap.size, 0, none⟩ = some (.slice A1 n c1) := HA.out.1.cell 0
  have c01 : w1.cell? ⟨w.heap.size, 1, none⟩ = some (.slice A2 st.length c2) := HA.out.1.cell 1
  go_wp2_with fail
  refine (firsts_any A1 A2 n c1 st.length c2 L1 ls w1 (H1.out.up HA.out.2 HA.out.2.size) hn HOK.out).mono ?_
  rintro e w2 ⟨cs, rfl, hcs1, hcs2, hb2⟩
  have h1c : cs.all (·.oneCell') = true := by
    rw [Array.all_eq_true_iff_forall_mem]
    intro u hu
    obtain ⟨q, hq, rfl⟩ := Array.mem_iff_getElem.1 hu
    have hc := hcs2 q (by omega)
    rw [Array.getElem?_eq_getElem hq] at hc
    injection hc with hc
    rw [hc]; rfl
  have hu := Try.underlying100
  have HB := Lib.hid (And.intro (HA.out.1.below hb2 HA.out.1.lt) (And.intro (HA.out.2.trans (hb2.mono HA.out.2.size)) (And.intro hcs1 (And.intro hcs2 h1c))))
  clear c00 c01 hb2 HA hcs1 hcs2 h1c
  go_upto_region 6 with (refine wpList_store_row rfl 100 _ _ rfl w2.heap.size cs rfl rfl 100 _ (heap_alloc_new w2 _) (by rw [HI100.out, HB.out.2.2.1]) (by rw [HB.out.2.2.1]; rfl) HB.out.2.2.2.2 ?_)
  refine wp_abs (FlSt w (.slice A1 n c1) (.slice A2 st.length c2) w2.heap.size cs (ks.take 0) (.slice none 0 0) (faultsPre ls ks 0)) (fl_init HB.out.1 HB.out.2.1 _ (by rw [HB.out.2.2.1]; rfl)) ?_
  intro w3 hS
  have HS := Lib.hid hS
  clear hS hmm hu
  go_wp2
  go_loopw [8, 31] (fun lv iv wr => ∃ i : Nat, i ≤ n ∧ iv = .int .i64 i ∧ Hid (FlSt w (.slice A1 n c1) (.slice A2 st.length c2) w2.heap.size cs (ks.take i) lv (faultsPre ls ks i) wr)) (fun _ iv _ => n - (intOf iv).toNat)
  case atStart => exact ⟨0, by omega, rfl, HS⟩
  case round =>
    obtain ⟨i, hi, rfl, HS⟩ := hrel
    by_cases hlt : i < n
    · obtain ⟨b, o, hil, rfl, hL, hB, hc⟩ := (H3.out.below HS.out.below (Nat.le_refl _)).str hlt
      obtain ⟨b1, o1, hl, rfl, hL1, hB1, p1, p2⟩ := (H1.out.up HS.out.below HS.out.below.size).two hlt
      have hok := HOK.out _ (List.getElem_mem hl)
      have hce : clsAt ls i = ls[i].1 := clsAt_get hl
      generalize ls[i] = x at p1 p2 hok hce
      obtain ⟨cl, rf⟩ := x
      have hbb := (lineOk_iff (cl, rf)).1 hok
      simp only at hbb p1 p2 hce
      have g1 := hbb.1
      have g2 := hbb.2.1
      have htk := take_snoc' ks hil
      have hks := HFT.out _ (List.getElem_mem hil)
      have hki : ks[i]? = some ks[i] := List.getElem?_eq_getElem hil
      generalize ks[i] = s at hc htk hks hki
      have hfp := faultsPre_len ls ks i
      have hfs := faultsPre_succ ls ks i
      have hfa := faultAt_eq ls ks i s hki
      obtain ⟨m, N, hm, hN, hp⟩ := HS.out.mp
      have hml := hp s
      obtain ⟨XV, XC, rfl⟩ := own_slice HS.out.own
      have htl : (ks.take i).length = i := by rw [List.length_take]; omega
      have HX := Lib.hid (And.intro HS.out (And.intro hm hp))
      have HTK := Lib.hid htk
      have HKI := Lib.hid hki
      have HKS := Lib.hid hks
      have HTL := Lib.hid htl
      have HFS := Lib.hid hfs
      have HCE := Lib.hid hce
      have hff := firstF_le ls i
      have HFA := Lib.hid hfa
      have hN2 : N ≤ i := by omega
      have c00 : wr.cell? ⟨w.heap.size, 0, none⟩ = some (.slice (some ⟨b1, o1, none⟩) n c1) := HS.out.b0.cell 0
      have i1 : (0 : Int) ≤ (i : Int) := by omega
      have i2 : (i : Int) < (n : Int) := by omega
      clear hok hbb htk hks hki hfs hm hp htl hce hfa hL hB hL1 hB1 p2 HS hN
      cases hpos : posB (ks.take i) s
      case' some p =>
        have hml2 : m (litS s) = some (p : Int) := by rw [hml, hpos]; rfl
        have HML := Lib.hid hml2
        have HPS := Lib.hid hpos
        clear hml hml2 hpos
        go_upto_region 13 with (at_lookup; refine wpList_look_ok _ rfl _ _ 103 rfl 9 3 lawS Try.underlying103 Try.underlying3 (zero3 _) (w2.heap.size + 1) _ m rfl HX.out.2.1 _ _ rfl (keyS HKS.out) ?_; rw [HML.out])
        refine wp_abs (FlSt w (.slice (some ⟨b1, o1, none⟩) n c1) (.slice A2 st.length c2) w2.heap.size cs (ks.take (i + 1)) (.slice XV (faultsPre ls ks i).length XC) (faultsPre ls ks i)) (by rw [HTK.out]; exact HX.out.1.met HPS.out) ?_
      case' none =>
        have hml2 : m (litS s) = none := by rw [hml, hpos]; rfl
        have HML := Lib.hid hml2
        have HPS := Lib.hid hpos
        clear hml hml2 hpos
        go_upto_region 13 with (first
          | (at_lookup; refine wpList_look_ok _ rfl _ _ 103 rfl 9 3 lawS Try.underlying103 Try.underlying3 (zero3 _) (w2.heap.size + 1) _ m rfl HX.out.2.1 _ _ rfl (keyS HKS.out) ?_; rw [HML.out])
          | (at_mapUpdate; go_must (refine wpList_put _ rfl _ _ _ 103 rfl 9 3 lawS Try.underlying103 Try.underlying3 (w2.heap.size + 1) _ m rfl HX.out.2.1 (by unfold maxLen; omega) _ _ rfl _ rfl (keyS HKS.out) (wf_nat _ (by omega)) ?_; rw [HML.out]; intro wq hmq hgq; have HQ := Lib.hid (HX.out.1.put (ds' := ks.take i ++ [s]) hmq (by rw [List.length_append, HTL.out]; simp; omega) (by have := HX.out.2.2.put HPS.out; rw [HTL.out] at this; exact this) hgq); clear hmq hgq)))
        refine wp_abs (FlSt w (.slice (some ⟨b1, o1, none⟩) n c1) (.slice A2 st.length c2) w2.heap.size cs (ks.take (i + 1)) (.slice XV (faultsPre ls ks i).length XC) (faultsPre ls ks i)) (by rw [HTK.out]; exact HQ.out) ?_
      all_goals
        intro wb hSb
        have HSB := Lib.hid hSb
        clear hSb
        generalize hfg : firstF ls i = ff at *
        have HFG := Lib.hid hfg
        have bwl := HSB.out.below.size
        have bwq := HSB.out.b6.lt
        have bws := HSB.out.s1
        clear hfg
        by_cases hcond : ff < i
        · have hc0 : 0 ≤ cl := by
            have := firstF_cls ls (i := i) (by rw [HFG.out]; exact hcond)
            rw [HCE.out] at this
            exact this.1
          obtain ⟨cn, rfl⟩ : ∃ cn : Nat, cl = cn := ⟨cl.toNat, by omega⟩
          have hcn : cn < 25 := by omega
          have hfr : frst ls n (cn : Int) = ff + 1 := by
            have := first_frst ls (i := i) (n := n) hlt (by rw [HCE.out]; omega)
            rw [HCE.out, HFG.out] at this
            exact this
          have hcell : wb.cell? ⟨w2.heap.size, cn, none⟩ = some (.int .i64 ((ff : Int) + 1)) := by
            rw [HSB.out.b6.cell, HB.out.2.2.2.1 cn hcn, hfr]
            simp
          have hw1 : IntKind.i64.wrap ((ff : Int) + 1 - 1) = (ff : Int) := by rw [show (ff : Int) + 1 - 1 = (ff : Int) by omega]; exact IntWalk.i64_in _ (by omega)
          have hcb : decide ((ff : Int) < (i : Int)) = true := by simpa using hcond
          obtain ⟨b', o', hfl, hA', hL', hB', hcf⟩ := (H3.out.below HSB.out.below (Nat.le_refl _)).str (k := ff) (by omega)
          injection hA' with hA'
          injection hA' with hA1' hA2'
          subst hA1' hA2'
          have hkf : ks[ff]? = some ks[ff] := List.getElem?_eq_getElem hfl
          generalize ks[ff] = x at hcf hkf
          have i3 : (ff : Int) < (n : Int) := by omega
          have HKF := Lib.hid hkf
          clear hfr hL' hB' hkf
          by_cases hxs : x = s
          · subst hxs
            have hfe : faultAt ls ks i = [] := by rw [HFA.out]; unfold faultAs; rw [if_pos hcond, HKF.out, if_pos (by simp)]
            have HFE := Lib.hid hfe
            clear hfe
            go_wp2
            go_roundw
            case rel => exact ⟨i + 1, by omega, by go_num, Lib.hid (by rw [HFS.out, HFE.out, List.append_nil]; exact HSB.out)⟩
            case measure => simp [intOf]; omega
          · have hb3 : x.toList ≠ s.toList := fun h => hxs (ByteArray.ext (Array.toList_inj.1 (by rw [← ByteArray.toList_eq, ← ByteArray.toList_eq, h])))
            have hb4 : (x.toList == s.toList) = false := by simpa using hb3
            have hb5 : (x.toList != s.toList) = true := by simpa using hb3
            have hfe : faultAt ls ks i = [((i : Int), (ff : Int), 161)] := by rw [HFA.out]; unfold faultAs; rw [if_pos hcond, HKF.out, if_neg (by simpa using hxs)]
            have HFE := Lib.hid hfe
            clear hfe
            go_wp2_with (at_builtin; go_must (refine wpList_append_rd _ rfl _ _ 58 rfl (w2.heap.size + 2) 63 i0 (.agg #[.int .i64 0, .int .i64 0, .int .i64 0]) 3 24 Try.underlying58 HI.out.1 HI.out.2.1 HI.out.2.2.1 HI.out.2.2.2 rfl (by decide) _ _ _ rfl (HSB.out.own.alloc _) _ _ _ 1 1 _ rfl (rd_newT _ _ _ _ _) (by simp [Value.oneCell']) (by unfold maxLen; omega) (by omega) (by have := HSB.out.mp; obtain ⟨_, _, hmm, _⟩ := this; have := hmm.lt; simp; omega) ?_; intro v4 w4 _ hown hgrow _; have HN := Lib.hid ((HSB.out.on ((Below.refl _ _).alloc (Nat.le_refl _) _)).app (out' := faultsPre ls ks i ++ [((i : Int), (ff : Int), 161)]) hown hgrow (by rw [tps_append]; rfl)); clear hown hgrow))
            go_roundw
            case rel => exact ⟨i + 1, by omega, by go_num, Lib.hid (by rw [HFS.out, HFE.out]; exact HN.out)⟩
            case measure => simp [intOf]; omega
        · have hfi : ff = i := by omega
          by_cases hneg : cl < 0
          · have hnb0 : decide (0 ≤ cl) = false := by simp; omega
            first
            | (have hfe : faultAt ls ks i = [((i : Int), (p : Int), 162)] := by rw [HFA.out]; unfold faultAs; rw [if_neg hcond, HPS.out]
               have HFE := Lib.hid hfe
               clear hfe
               go_wp2_with (at_builtin; go_must (refine wpList_append_rd _ rfl _ _ 58 rfl (w2.heap.size + 2) 63 i0 (.agg #[.int .i64 0, .int .i64 0, .int .i64 0]) 3 24 Try.underlying58 HI.out.1 HI.out.2.1 HI.out.2.2.1 HI.out.2.2.2 rfl (by decide) _ _ _ rfl (HSB.out.own.alloc _) _ _ _ 1 1 _ rfl (rd_newT _ _ _ _ _) (by simp [Value.oneCell']) (by unfold maxLen; omega) (by omega) (by have := HSB.out.mp; obtain ⟨_, _, hmm, _⟩ := this; have := hmm.lt; simp; omega) ?_; intro v4 w4 _ hown hgrow _; have HN := Lib.hid ((HSB.out.on ((Below.refl _ _).alloc (Nat.le_refl _) _)).app (out' := faultsPre ls ks i ++ [((i : Int), (p : Int), 162)]) hown hgrow (by rw [tps_append]; rfl)); clear hown hgrow))
               go_roundw
               case rel => exact ⟨i + 1, by omega, by go_num, Lib.hid (by rw [HFS.out, HFE.out]; exact HN.out)⟩
               case measure => simp [intOf]; omega)
            | (have hfe : faultAt ls ks i = [] := by rw [HFA.out]; unfold faultAs; rw [if_neg hcond, HPS.out]
               have HFE := Lib.hid hfe
               clear hfe
               go_wp2
               go_roundw
               case rel => exact ⟨i + 1, by omega, by go_num, Lib.hid (by rw [HFS.out, HFE.out, List.append_nil]; exact HSB.out)⟩
               case measure => simp [intOf]; omega)
          · obtain ⟨cn, rfl⟩ : ∃ cn : Nat, cl = cn := ⟨cl.toNat, by omega⟩
            have hcn : cn < 25 := by omega
            have hfr : frst ls n (cn : Int) = i + 1 := by
              have := first_frst ls (i := i) (n := n) hlt (by rw [HCE.out]; omega)
              rw [HCE.out, HFG.out, hfi] at this
              exact this
            have hcell : wb.cell? ⟨w2.heap.size, cn, none⟩ = some (.int .i64 ((i : Int) + 1)) := by
              rw [HSB.out.b6.cell, HB.out.2.2.2.1 cn hcn, hfr]
              simp
            have hw1 : IntKind.i64.wrap ((i : Int) + 1 - 1) = (i : Int) := by rw [show (i : Int) + 1 - 1 = (i : Int) by omega]; exact IntWalk.i64_in _ (by omega)
            clear hfr hfi
            first
            | (have hfe : faultAt ls ks i = [((i : Int), (p : Int), 162)] := by rw [HFA.out]; unfold faultAs; rw [if_neg hcond, HPS.out]
               have HFE := Lib.hid hfe
               clear hfe
               go_wp2_with (at_builtin; go_must (refine wpList_append_rd _ rfl _ _ 58 rfl (w2.heap.size + 2) 63 i0 (.agg #[.int .i64 0, .int .i64 0, .int .i64 0]) 3 24 Try.underlying58 HI.out.1 HI.out.2.1 HI.out.2.2.1 HI.out.2.2.2 rfl (by decide) _ _ _ rfl (HSB.out.own.alloc _) _ _ _ 1 1 _ rfl (rd_newT _ _ _ _ _) (by simp [Value.oneCell']) (by unfold maxLen; omega) (by omega) (by have := HSB.out.mp; obtain ⟨_, _, hmm, _⟩ := this; have := hmm.lt; simp; omega) ?_; intro v4 w4 _ hown hgrow _; have HN := Lib.hid ((HSB.out.on ((Below.refl _ _).alloc (Nat.le_refl _) _)).app (out' := faultsPre ls ks i ++ [((i : Int), (p : Int), 162)]) hown hgrow (by rw [tps_append]; rfl)); clear hown hgrow))
               go_roundw
               case rel => exact ⟨i + 1, by omega, by go_num, Lib.hid (by rw [HFS.out, HFE.out]; exact HN.out)⟩
               case measure => simp [intOf]; omega)
            | (have hfe : faultAt ls ks i = [] := by rw [HFA.out]; unfold faultAs; rw [if_neg hcond, HPS.out]
               have HFE := Lib.hid hfe
               clear hfe
               go_wp2
               go_roundw
               case rel => exact ⟨i + 1, by omega, by go_num, Lib.hid (by rw [HFS.out, HFE.out, List.append_nil]; exact HSB.out)⟩
               case measure => simp [intOf]; omega)
    · have hin : i = n := by omega
      subst hin
      obtain ⟨XV, XC, rfl⟩ := own_slice HS.out.own
      have hs1 := HS.out.s1
      go_wp2
      go_ret2
      exact ⟨XV, XC, rfl, own_more HS.out.own (by omega), HS.out.below⟩
end Go.Proofs.Ytbjfbmienlojkaa
