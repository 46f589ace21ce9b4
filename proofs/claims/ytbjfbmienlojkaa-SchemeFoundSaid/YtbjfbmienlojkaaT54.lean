/- SchemeFound: the walk of the law, the scheme of which the keys have no faults. -/
import Derived.Test.YtbjfbmienlojkaaT51
import Derived.Test.YtbjfbmienlojkaaT52
import Derived.Test.YtbjfbmienlojkaaT53
import Derived.Deep.DeepCutAuto
namespace Go.Proofs.Ytbjfbmienlojkaa
open Go.RowKit

set_option maxHeartbeats 4000000 in
set_option maxRecDepth 100000 in
theorem schemeFound_w (A1 A2 A : Option Addr) (n1 c1 n2 c2 n c L1 L2 L3 : Nat) (ls : List (Int × Int)) (st : List Int) (ks : List ByteArray) (w : World)
    (h1 : Rd w L1 w.heap.size 2 A1 n1 (prs ls)) (h2 : Rd w L2 w.heap.size 1 A2 n2 (st.map (Value.int .i64))) (h3 : Rd w L3 w.heap.size 1 A n (strs ks)) (hfit : ∀ k ∈ ks, k.size ≤ maxLen)
    (e1 : n1 ≤ maxLen) (e2 : n2 ≤ maxLen) (hnc : n ≤ c) (hc : c * 16 ≤ 140737488351232) :
    Calls Try.prog 8 #[.agg #[.slice A1 n1 c1, .slice A2 n2 c2], .slice A n c] w fun e w' => e = .returned (.bool true) ∧ Below w.heap.size w w' := by
  have hkn := h3.slen
  have H1 := Lib.hid h1
  have H2 := Lib.hid h2
  have H3 := Lib.hid h3
  have HF := Lib.hid hfit
  have HKN := Lib.hid hkn
  have hn : n * 16 ≤ 140737488351232 := by omega
  have hnm : n ≤ maxLen := by unfold maxLen; omega
  clear h1 h2 h3 hfit hkn
  go_enter Try.func8, Try.ntmps8
  go_upto_region 1 with (fail)
  refine wp_abs (fun wx => Blk wx w.heap.size 26 #[.slice A1 n1 c1, .slice A2 n2 c2] ∧ Below w.heap.size w wx) ⟨Blk.new _ _ _, (Below.refl _ _).alloc (Nat.le_refl _) _⟩ ?_
  rintro wx ⟨k0, hb⟩
  have HK := Lib.hid (And.intro k0 hb)
  clear k0 hb
  go_wp2_with fail
  refine (wakes_any wx).mono ?_
  rintro e w1 ⟨rfl, hb1⟩
  have HA := Lib.hid (And.intro (HK.out.1.below hb1 HK.out.1.lt) (HK.out.2.trans (hb1.mono HK.out.2.size)))
  clear hb1 HK
  go_wp2_with fail
  refine (found_any A n c L3 ks w1 (H3.out.up HA.out.2 HA.out.2.size) HF.out hnm).mono ?_
  rintro e w2 ⟨B1, x1, B2, x2, rfl, r1, r2, hb2⟩
  have HB := Lib.hid (And.intro (HA.out.1.below hb2 HA.out.1.lt) (And.intro (HA.out.2.trans (hb2.mono HA.out.2.size)) (And.intro r1 r2)))
  clear hb2 r1 r2 HA
  go_upto_region 4 with (fail)
  refine wp_abs (fun wx => Blk wx w.heap.size 26 #[.slice A1 n1 c1, .slice A2 n2 c2] ∧ Below w.heap.size w wx ∧ Blk wx w2.heap.size 26 #[.slice B1 (foundL ks).length x1, .slice B2 (foundS ks).length x2] ∧ wx.ownsRow w1.heap.size 66 2 (.slice B1 (foundL ks).length x1) (foundL ks).length (prs (foundL ks)) ∧ wx.ownsRow w1.heap.size 3 1 (.slice B2 (foundS ks).length x2) (foundS ks).length ((foundS ks).map (Value.int .i64)))
    ⟨HB.out.1.alloc _, HB.out.2.1.alloc HB.out.2.1.size _, Blk.new _ _ _, HB.out.2.2.1.alloc _, HB.out.2.2.2.alloc _⟩ ?_
  clear HB
  rintro w3 ⟨t0, t1, t2, t3, t4⟩
  have HC := Lib.hid (And.intro t0 (And.intro t1 (And.intro t2 (And.intro t3 t4))))
  clear t0 t1 t2 t3 t4
  go_upto_if 25 with (fail)
  go_cut [7, 8] (fun _ _ wx => Hid (Blk wx w.heap.size 26 #[.slice A1 n1 c1, .slice A2 n2 c2] ∧ Below w.heap.size w wx))
  case first =>
    cases hE : (foundE ks == 0) with
    | false =>
      go_wp2_with (fail)
      go_meet
      exact Lib.hid ⟨HC.out.1, HC.out.2.1⟩
    | true =>
      have hE0 : foundE ks = 0 := by simpa using hE
      have hfl : (foundL ks).length = n := by rw [foundL_length hE0]; exact HKN.out
      have hn5 : n ≤ 512 := by have := (foundE_zero hE0).1; have := HKN.out; omega
      have hcl : faultsPre (foundL ks) ks n = [] := by rw [← HKN.out]; exact found_clean hE0
      have hmy := found_may hE0
      have c00 : w3.cell? ⟨w2.heap.size, 0, none⟩ = some (.slice B1 n x1) := by rw [← hfl]; exact HC.out.2.2.1.cell 0
      have c01 : w3.cell? ⟨w2.heap.size, 1, none⟩ = some (.slice B2 (foundS ks).length x2) := HC.out.2.2.1.cell 1
      have hr1 : w3.ownsRow w1.heap.size 66 2 (.slice B1 n x1) n (prs (foundL ks)) := by have := HC.out.2.2.2.1; rw [hfl] at this; exact this
      have hbx : Blk w3 w2.heap.size 26 #[.slice B1 n x1, .slice B2 (foundS ks).length x2] := by rw [← hfl]; exact HC.out.2.2.1
      have HR1 := Lib.hid (And.intro hr1 hbx)
      have HE0 := Lib.hid (And.intro hE0 (And.intro hfl (And.intro hcl hmy)))
      clear hE0 hfl hcl hmy hr1 hbx
      go_wp2_with fail
      refine (faults_ok B1 B2 A x1 x2 n c 0 0 L3 (foundL ks) (foundS ks) ks w3 (own_rdz HR1.out.1) (own_rdz HC.out.2.2.2.2) (H3.out.up HC.out.2.1 HC.out.2.1.size) HF.out HE0.out.2.2.2).mono ?_
      rintro e w4 ⟨X4, C4, rfl, o4, hb4⟩
      rw [HE0.out.2.2.1]
      have HD := Lib.hid (show Blk w4 w.heap.size 26 #[.slice A1 n1 c1, .slice A2 n2 c2] ∧ Below w.heap.size w w4 ∧ Blk w4 w2.heap.size 26 #[.slice B1 n x1, .slice B2 (foundS ks).length x2] ∧ Rd w4 0 w4.heap.size 2 B1 n (prs (foundL ks)) from
        ⟨HC.out.1.below hb4 HC.out.1.lt, HC.out.2.1.trans (hb4.mono HC.out.2.1.size), HR1.out.2.below hb4 HR1.out.2.lt, own_rdz (own_stay HR1.out.1 (Only.of_below hb4 (fun _ => False)))⟩)
      clear hb4 o4 c00 c01 HC HR1
      go_wp2
      go_loopw [41] (fun iv wr => ∃ i : Nat, i ≤ n ∧ iv = .int .i64 i ∧ Hid (Below w4.heap.size w4 wr)) (fun iv _ => n - (intOf iv).toNat)
      case atStart => exact ⟨0, by omega, rfl, Lib.hid (Below.refl _ _)⟩
      case round =>
        obtain ⟨i, hi, rfl, HS⟩ := hrel
        by_cases hlt : i < n
        · have j1 : (0 : Int) ≤ (i : Int) := by omega
          have j2 : (i : Int) < (n : Int) := by omega
          have j3 : (i : Int) ≤ (c : Int) := by omega
          have j4 : i ≤ c := by omega
          go_wp2
          go_loopw [48] (fun kv wq => ∃ k : Nat, k ≤ i ∧ kv = .int .i64 k ∧ Hid (Below w4.heap.size w4 wq)) (fun kv _ => i - (intOf kv).toNat)
          case atStart => exact ⟨0, by omega, rfl, HS⟩
          case round =>
            rename_i wq
            clear HS
            obtain ⟨k, hk, rfl, HS⟩ := hrel
            by_cases hki : k < i
            · have hrd := HD.out.2.2.2.up HS.out HS.out.size
              have hbw := HD.out.2.1.trans (HS.out.mono HD.out.2.1.size)
              obtain ⟨b, o, hil, rfl, hL, hB, p1, p2⟩ := hrd.two hlt
              obtain ⟨b', o', hkl, hA, hL', hB', p3, p4⟩ := hrd.two (k := k) (by omega)
              injection hA with hA
              injection hA with hA1 hA2
              subst hA1 hA2
              obtain ⟨b2, o2, hisl, rfl, _, _, q1⟩ := (H3.out.below hbw (Nat.le_refl _)).str hlt
              obtain ⟨b2', o2', hksl, hA', _, _, q2⟩ := (H3.out.below hbw (Nat.le_refl _)).str (k := k) (by omega)
              injection hA' with hA'
              injection hA' with hA1' hA2'
              subst hA1' hA2'
              have d0 : wr.cell? ⟨w2.heap.size, 0, none⟩ = some (.slice (some ⟨b, o, none⟩) n x1) := (HD.out.2.2.1.below HS.out HD.out.2.2.1.lt).cell 0
              have hiff := found_iff HE0.out.1 (List.getElem?_eq_getElem hisl) (List.getElem?_eq_getElem hksl)
              rw [clsAt_get hil, clsAt_get hkl] at hiff
              generalize (foundL ks)[i].1 = ci at *
              generalize (foundL ks)[k].1 = ck at *
              generalize ks[i] = si at *
              generalize ks[k] = sk at *
              have j5 : (0 : Int) ≤ (k : Int) := by omega
              have j6 : (k : Int) < (n : Int) := by omega
              clear hrd hbw hL hB hL' hB' p2 p4
              by_cases hss : si = sk
              · have hcc := hiff.2 hss
                subst hss hcc
                clear hiff
                go_wp2
                go_quiet (fail)
                go_wp2
                go_roundw
                case rel => exact ⟨k + 1, by omega, by go_num, Lib.hid (bdrawn HS.out _)⟩
                case measure => simp [intOf]; omega
              · have hcc : ci ≠ ck := fun h => hss (hiff.1 h)
                have hcb : (ci == ck) = false := by simpa using hcc
                have hb3 := ne_lists hss
                have hb4 : (si.toList == sk.toList) = false := by simpa using hb3
                clear hiff
                go_wp2
                go_quiet (fail)
                go_wp2
                go_roundw
                case rel => exact ⟨k + 1, by omega, by go_num, Lib.hid (bdrawn HS.out _)⟩
                case measure => simp [intOf]; omega
            · by_cases h200 : 200 < i
              · have hb2 : decide ((200 : Int) < (i : Int)) = true := by simp; omega
                go_wp2
                go_meet
                exact Lib.hid ⟨HD.out.1.below HS.out HD.out.1.lt, HD.out.2.1.trans (HS.out.mono HD.out.2.1.size)⟩
              · have hb2 : decide ((200 : Int) < (i : Int)) = false := by simp; omega
                go_wp2
                go_roundw
                case rel => exact ⟨i + 1, by omega, by go_num, HS⟩
                case measure => simp [intOf]; omega
        · go_wp2
          go_meet
          exact Lib.hid ⟨HD.out.1.below HS.out HD.out.1.lt, HD.out.2.1.trans (HS.out.mono HD.out.2.1.size)⟩
  case rest =>
    clear HC
    have c00 : wc.cell? ⟨w.heap.size, 0, none⟩ = some (.slice A1 n1 c1) := hcut.out.1.cell 0
    have c01 : wc.cell? ⟨w.heap.size, 1, none⟩ = some (.slice A2 n2 c2) := hcut.out.1.cell 1
    have HU := Lib.hid hcut.out
    clear hcut
    by_cases hbad : may ls st = false ∨ n ≠ n1
    · go_wp2_with fail
      refine (faults_bad A1 A2 A n1 c1 n2 c2 n c L1 L2 ls st wc (H1.out.up HU.out.2 HU.out.2.size) (H2.out.up HU.out.2 HU.out.2.size) e2 e1 hbad).mono ?_
      rintro e w5 ⟨rfl, hb5⟩
      have HV := Lib.hid (HU.out.2.trans (hb5.mono HU.out.2.size))
      clear hb5 c00 c01 hbad
      go_wp2
      refine wp_loop_rounds 1 ?_
      rw [rounds_succ]
      go_wp2_with fail
      refine (wakes_any w5).mono ?_
      rintro e w6 ⟨rfl, hb6⟩
      have HX := Lib.hid (HV.out.trans (hb6.mono HV.out.size))
      clear hb6
      go_wp2
      go_ret
      exact ⟨rfl, HX.out⟩
    · have hm : may ls st = true := by
        cases hm : may ls st with
        | false => exact absurd (.inl hm) hbad
        | true => rfl
      obtain rfl : n = n1 := Decidable.byContradiction fun hn => hbad (.inr hn)
      obtain rfl : st.length = n2 := by have := H2.out.1; simpa using this
      have hln : ls.length = n := by have := H1.out.1; rw [prs_len] at this; omega
      have hn5 : n ≤ 512 := by rw [← hln]; exact mayLen hm
      have HM := Lib.hid (And.intro hm hln)
      clear hbad hm hln
      go_wp2_with fail
      refine (faults_ok A1 A2 A c1 c2 n c L1 L2 L3 ls st ks wc (H1.out.up HU.out.2 HU.out.2.size) (H2.out.up HU.out.2 HU.out.2.size) (H3.out.up HU.out.2 HU.out.2.size) HF.out HM.out.1).mono ?_
      rintro e w5 ⟨X5, C5, rfl, o5, hb5⟩
      have hfl := faultsPre_len ls ks n
      by_cases hemp : faultsPre ls ks n = []
      · rw [hemp]
        have HV := Lib.hid (And.intro (HU.out.1.below hb5 HU.out.1.lt) (And.intro (HU.out.2.trans (hb5.mono HU.out.2.size)) hemp))
        clear hb5 c00 c01 o5 hfl hemp HU
        go_wp2
        go_loopw [125] (fun iv wr => ∃ i : Nat, i ≤ n ∧ iv = .int .i64 i ∧ Hid (Below w5.heap.size w5 wr)) (fun iv _ => n - (intOf iv).toNat)
        case atStart => exact ⟨0, by omega, rfl, Lib.hid (Below.refl _ _)⟩
        case round =>
          obtain ⟨i, hi, rfl, HS⟩ := hrel
          by_cases hlt : i < n
          · have j1 : (0 : Int) ≤ (i : Int) := by omega
            have j2 : (i : Int) < (n : Int) := by omega
            have j3 : (i : Int) ≤ (c : Int) := by omega
            have j4 : i ≤ c := by omega
            go_wp2
            go_loopw [132] (fun kv wq => ∃ k : Nat, k ≤ i ∧ kv = .int .i64 k ∧ Hid (Below w5.heap.size w5 wq)) (fun kv _ => i - (intOf kv).toNat)
            case atStart => exact ⟨0, by omega, rfl, HS⟩
            case round =>
              rename_i wq
              clear HS
              obtain ⟨k, hk, rfl, HS⟩ := hrel
              by_cases hki : k < i
              · have hbw := HV.out.2.1.trans (HS.out.mono HV.out.2.1.size)
                have hrd := H1.out.up hbw hbw.size
                obtain ⟨b, o, hil, rfl, hL, hB, p1, p2⟩ := hrd.two hlt
                obtain ⟨b', o', hkl, hA, hL', hB', p3, p4⟩ := hrd.two (k := k) (by omega)
                injection hA with hA
                injection hA with hA1 hA2
                subst hA1 hA2
                obtain ⟨b2, o2, hisl, rfl, _, _, q1⟩ := (H3.out.below hbw (Nat.le_refl _)).str hlt
                obtain ⟨b2', o2', hksl, hA', _, _, q2⟩ := (H3.out.below hbw (Nat.le_refl _)).str (k := k) (by omega)
                injection hA' with hA'
                injection hA' with hA1' hA2'
                subst hA1' hA2'
                have d0 : wr.cell? ⟨w.heap.size, 0, none⟩ = some (.slice (some ⟨b, o, none⟩) n c1) := (HV.out.1.below HS.out HV.out.1.lt).cell 0
                have hneg := clean_neg HV.out.2.2 hlt hki (List.getElem?_eq_getElem hisl) (List.getElem?_eq_getElem hksl)
                have hiff := clean_iff HV.out.2.2 hlt hki (List.getElem?_eq_getElem hisl) (List.getElem?_eq_getElem hksl)
                rw [clsAt_get hil] at hneg
                rw [clsAt_get hil, clsAt_get hkl] at hiff
                generalize ls[i].1 = ci at *
                generalize ls[k].1 = ck at *
                generalize ks[i] = si at *
                generalize ks[k] = sk at *
                have j5 : (0 : Int) ≤ (k : Int) := by omega
                have j6 : (k : Int) < (n : Int) := by omega
                clear hrd hbw hL hB hL' hB' p2 p4
                by_cases hci : ci < 0
                · have hb3 := ne_lists (hneg hci)
                  have hb3' := ne_lists (fun h => hneg hci h.symm)
                  have hb4 : (si.toList == sk.toList) = false := by simpa using hb3'
                  have hd1 : decide (0 ≤ ci) = false := by simp; omega
                  have hd2 : decide (ci < 0) = true := by simpa using hci
                  clear hiff hneg
                  go_wp2
                  go_quiet (fail)
                  go_wp2
                  go_quiet (fail)
                  go_wp2
                  go_roundw
                  case rel => exact ⟨k + 1, by omega, by go_num, Lib.hid (bdrawn HS.out _)⟩
                  case measure => simp [intOf]; omega
                · have hd1 : decide (0 ≤ ci) = true := by simp; omega
                  have hd2 : decide (ci < 0) = false := by simp; omega
                  by_cases hck : ck < 0
                  · have hcb : (ci == ck) = false := by simp; omega
                    have hd3 : decide (0 ≤ ck) = false := by simp; omega
                    clear hiff hneg
                    go_wp2
                    go_quiet (fail)
                    go_wp2
                    go_quiet (fail)
                    go_wp2
                    go_roundw
                    case rel => exact ⟨k + 1, by omega, by go_num, Lib.hid (bdrawn HS.out _)⟩
                    case measure => simp [intOf]; omega
                  · have hd3 : decide (0 ≤ ck) = true := by simp; omega
                    have hiff2 := hiff (by omega) (by omega)
                    by_cases hss : si = sk
                    · have hcc := hiff2.2 hss
                      subst hss hcc
                      clear hiff hneg hiff2
                      go_wp2
                      go_quiet (fail)
                      go_wp2
                      go_quiet (fail)
                      go_wp2
                      go_roundw
                      case rel => exact ⟨k + 1, by omega, by go_num, Lib.hid (bdrawn HS.out _)⟩
                      case measure => simp [intOf]; omega
                    · have hcc : ci ≠ ck := fun h => hss (hiff2.1 h)
                      have hcb : (ci == ck) = false := by simpa using hcc
                      have hb3 := ne_lists hss
                      have hb4 : (si.toList == sk.toList) = false := by simpa using hb3
                      clear hiff hneg hiff2
                      go_wp2
                      go_quiet (fail)
                      go_wp2
                      go_quiet (fail)
                      go_wp2
                      go_roundw
                      case rel => exact ⟨k + 1, by omega, by go_num, Lib.hid (bdrawn HS.out _)⟩
                      case measure => simp [intOf]; omega
              · go_wp2
                go_roundw
                case rel => exact ⟨i + 1, by omega, by go_num, HS⟩
                case measure => simp [intOf]; omega
          · go_wp2_with fail
            refine (wakes_any wr).mono ?_
            rintro e w6 ⟨rfl, hb6⟩
            have hbw := HV.out.2.1.trans (HS.out.mono HV.out.2.1.size)
            have HX := Lib.hid (hbw.trans (hb6.mono hbw.size))
            clear hb6 hbw
            go_wp2
            go_ret
            exact ⟨rfl, HX.out⟩
      · have hl0 : 0 < (faultsPre ls ks n).length := by
          cases hq : faultsPre ls ks n with
          | nil => exact absurd hq hemp
          | cons a t => simp
        obtain ⟨fl, hflE⟩ : ∃ fl, fl = faultsPre ls ks n := ⟨_, rfl⟩
        have hfs : ∀ (a : Nat) (ha : a + 1 < fl.length), fl[a].1 < fl[a + 1].1 ∧ fl[a + 1].2.1 < fl[a + 1].1 := by
          subst hflE
          exact faults_step ls ks n
        rw [← hflE] at o5 hfl hl0 hemp ⊢
        clear hflE
        have HV := Lib.hid (And.intro (HU.out.2.trans (hb5.mono HU.out.2.size)) (own_rdz o5))
        have HFS := Lib.hid hfs
        have hf5 : fl.length ≤ 512 := by omega
        have hlb : decide ((0 : Int) < (fl.length : Int)) = true := by simp; omega
        have hlb2 : decide (0 < fl.length) = true := by simp; omega
        clear hb5 c00 c01 o5 hfl hfs hemp HU
        go_wp2
        go_loopw [13] (fun iv wr => ∃ i : Nat, i + 1 ≤ fl.length ∧ iv = .int .i64 ((i : Int) + 1) ∧ Hid (Below w5.heap.size w5 wr)) (fun iv _ => fl.length - (intOf iv).toNat)
        case atStart => exact ⟨0, by omega, rfl, Lib.hid (Below.refl _ _)⟩
        case round =>
          obtain ⟨i, hi, rfl, HS⟩ := hrel
          by_cases hlt : i + 1 < fl.length
          · have hbd : decide ((i : Int) + 1 < (fl.length : Int)) = true := by simp; omega
            have hrd := HV.out.2.up HS.out HS.out.size
            obtain ⟨b, o, hil, rfl, hL, hB, p1, p2, p3⟩ := hrd.three (k := i + 1) hlt
            obtain ⟨b', o', hkl, hA, hL', hB', p4, p5, p6⟩ := hrd.three (k := i) (by omega)
            injection hA with hA
            injection hA with hA1 hA2
            subst hA1 hA2
            obtain ⟨s1, s2⟩ := HFS.out i hlt
            generalize fl[i + 1] = x at *
            generalize fl[i] = y at *
            obtain ⟨x1, x2, x3⟩ := x
            obtain ⟨y1, y2, y3⟩ := y
            simp only at p1 p2 p3 p4 p5 p6 s1 s2
            have hd1 : decide (x1 ≤ y1) = false := by simp; omega
            have hd2 : decide (x1 ≤ x2) = false := by simp; omega
            have j1 : (0 : Int) ≤ (i : Int) + 1 := by omega
            have j2 : (i : Int) + 1 < (fl.length : Int) := by omega
            have j3 : (0 : Int) ≤ (i : Int) := by omega
            have j4 : (i : Int) < (fl.length : Int) := by omega
            have w1' : IntKind.i64.wrap ((i : Int) + 1 - 1) = (i : Int) := by rw [show (i : Int) + 1 - 1 = (i : Int) by omega]; exact IntWalk.i64_in _ (by omega)
            have e5 : ((i : Int) + 1).toNat = i + 1 := by omega
            clear hrd hL hB hL' hB' p3 p5 p6
            go_wp2
            go_quiet (fail)
            clear w1' e5
            go_wp2
            go_roundw
            case rel => exact ⟨i + 1, by omega, by go_num, Lib.hid (bdrawn HS.out _)⟩
            case measure => simp [intOf]; omega
          · have hbd : decide ((i : Int) + 1 < (fl.length : Int)) = false := by simp; omega
            go_wp2_with fail
            refine (wakes_any wr).mono ?_
            rintro e w6 ⟨rfl, hb6⟩
            have hbw := HV.out.1.trans (HS.out.mono HV.out.1.size)
            have HX := Lib.hid (hbw.trans (hb6.mono hbw.size))
            clear hb6 hbw
            go_wp2
            go_ret
            exact ⟨rfl, HX.out⟩
end Go.Proofs.Ytbjfbmienlojkaa
