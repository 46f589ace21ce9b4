/- SchemeFinds: the walk of the law where the scheme may be and has as many lines as there are keys. -/
import Derived.Test.YtbjfbmienlojkaaT51
namespace Go.Proofs.Ytbjfbmienlojkaa
open Go.RowKit

theorem Rd.three {w : World} {L B n : Nat} {A : Option Addr} {l : List (Int × Int × Int)} (h : Rd w L B 3 A n (tps l)) {k : Nat} (hk : k < n) :
    ∃ b o, ∃ hl : k < l.length, A = some ⟨b, o, none⟩ ∧ L ≤ b ∧ b < B ∧ w.cell? ⟨b, o + k * 3, none⟩ = some (.int .i64 l[k].1) ∧ w.cell? ⟨b, o + k * 3 + 1, none⟩ = some (.int .i64 l[k].2.1) ∧ w.cell? ⟨b, o + k * 3 + 2, none⟩ = some (.int .i64 l[k].2.2) := by
  have hn : l.length = n := by have := h.1; rw [tps_len] at this; omega
  obtain ⟨b, o, e, hl, hb, hc⟩ := h.2 (by omega)
  have key : ∀ (l : List (Int × Int × Int)) (k : Nat) (hk : k < l.length), (tps l)[k * 3]? = some (.int .i64 l[k].1) ∧ (tps l)[k * 3 + 1]? = some (.int .i64 l[k].2.1) ∧ (tps l)[k * 3 + 2]? = some (.int .i64 l[k].2.2) := by
    intro l
    induction l with
    | nil => intro k hk; simp at hk
    | cons a l ih =>
      intro k hk
      rcases k with _ | k
      · simp [tps]
      · have := ih k (by simpa using hk)
        simp only [tps, List.flatMap_cons] at this ⊢
        rw [show (k + 1) * 3 = k * 3 + 3 by omega]
        simpa using this
  obtain ⟨k1, k2, k3⟩ := key l k (by omega)
  exact ⟨b, o, by omega, e, hl, hb, hc _ _ k1, by rw [Nat.add_assoc]; exact hc _ _ k2, by rw [Nat.add_assoc]; exact hc _ _ k3⟩

set_option maxHeartbeats 4000000 in
set_option maxRecDepth 100000 in
theorem schemeFinds_ok (A1 A2 A : Option Addr) (n c1 n2 c2 c L1 L2 L3 : Nat) (ls : List (Int × Int)) (st : List Int) (ks : List ByteArray) (w : World)
    (h1 : Rd w L1 w.heap.size 2 A1 n (prs ls)) (h2 : Rd w L2 w.heap.size 1 A2 n2 (st.map (Value.int .i64))) (h3 : Rd w L3 w.heap.size 1 A n (strs ks)) (hfit : ∀ k ∈ ks, k.size ≤ maxLen)
    (hnc : n ≤ c) (hc : c * 16 ≤ 140737488351232) (hm : may ls st = true) :
    Calls Try.prog 7 #[.agg #[.slice A1 n c1, .slice A2 n2 c2], .slice A n c] w fun e w' => e = .returned (.bool true) ∧ Below w.heap.size w w' := by
  obtain rfl : st.length = n2 := by have := h2.1; simpa using this
  have hln : ls.length = n := by have := h1.1; rw [prs_len] at this; omega
  have hn5 : n ≤ 512 := by rw [← hln]; exact mayLen hm
  have hs5 := mayStan hm
  have e1 : n ≤ maxLen := by unfold maxLen; omega
  have e2 : st.length ≤ maxLen := by unfold maxLen; omega
  have H1 := Lib.hid h1
  have H2 := Lib.hid h2
  have H3 := Lib.hid h3
  have HF := Lib.hid hfit
  have HM := Lib.hid hm
  have hn : n * 16 ≤ 140737488351232 := by omega
  have hnm : n ≤ maxLen := by unfold maxLen; omega
  clear h1 h2 h3 hfit hm hln
  go_enter Try.func7, Try.ntmps7
  go_upto_region 1 with (fail)
  refine wp_abs (fun wx => Blk wx w.heap.size 26 #[.slice A1 n c1, .slice A2 st.length c2] ∧ Below w.heap.size w wx) ⟨Blk.new _ _ _, (Below.refl _ _).alloc (Nat.le_refl _) _⟩ ?_
  rintro wx ⟨k0, hb⟩
  have HK := Lib.hid (And.intro k0 hb)
  clear k0 hb
  go_wp2_with fail
  refine (wakes_any wx).mono ?_
  rintro e w1 ⟨rfl, hb1⟩
  have HA := Lib.hid (And.intro (HK.out.1.below hb1 HK.out.1.lt) (HK.out.2.trans (hb1.mono HK.out.2.size)))
  clear hb1 HK
  go_wp2_with fail
  refine (texts_any A n c L3 w.heap.size ks w1 (H3.out.below HA.out.2 (Nat.le_refl _)) HA.out.2.size hnc hc).mono ?_
  rintro e w2 ⟨X, C, rfl, o2, hb2⟩
  have hcap := own_cap o2
  have HB := Lib.hid (show LfSt w (.slice A1 n c1) (.slice A2 st.length c2) w1.heap.size X n C ks w2 from ⟨HA.out.1.below hb2 HA.out.1.lt, o2, HA.out.2.trans (hb2.mono HA.out.2.size)⟩)
  clear hb2 o2 HA hnc hc
  have i1 : (n : Int) ≤ (C : Int) := by omega
  have hnC : n ≤ C := by omega
  clear hcap
  go_wp2_with fail
  refine (found_any X n C 0 ks w2 (padded_rd (own_rdz HB.out.own)) HF.out hnm).mono ?_
  rintro e w3 ⟨B1, x1, B2, x2, rfl, r1, r2, hb3⟩
  have HC := Lib.hid (And.intro (HB.out.on hb3) (And.intro r1 r2))
  clear hb3 r1 r2 HB
  have fl := foundL_len ks
  go_upto_region 5 with (fail)
  refine wp_abs (fun wx => LfSt w (.slice A1 n c1) (.slice A2 st.length c2) w1.heap.size X n C ks wx ∧ Blk wx w3.heap.size 26 #[.slice B1 (foundL ks).length x1, .slice B2 (foundS ks).length x2] ∧ wx.ownsRow w2.heap.size 66 2 (.slice B1 (foundL ks).length x1) (foundL ks).length (prs (foundL ks)) ∧ wx.ownsRow w2.heap.size 3 1 (.slice B2 (foundS ks).length x2) (foundS ks).length ((foundS ks).map (Value.int .i64)))
    ⟨HC.out.1.on ((Below.refl _ _).alloc (Nat.le_refl _) _), Blk.new _ _ _, HC.out.2.1.alloc _, HC.out.2.2.alloc _⟩ ?_
  clear HC
  rintro w4 ⟨t0, t1, t2, t3⟩
  have HD := Lib.hid (And.intro t0 (And.intro t1 (And.intro t2 t3)))
  clear t0 t1 t2 t3
  go_wp2_with fail
  refine (refFound_any A n c L3 ks w4 (H3.out.up HD.out.1.below HD.out.1.below.size) hnm).mono ?_
  rintro e w5 ⟨G1, y1, G2, y2, rfl, r1, r2, hb5⟩
  have HE := Lib.hid (And.intro (HD.out.1.on hb5) (And.intro (HD.out.2.1.below hb5 HD.out.2.1.lt) (And.intro (own_stay HD.out.2.2.1 (Only.of_below hb5 (fun _ => False))) (And.intro (own_stay HD.out.2.2.2 (Only.of_below hb5 (fun _ => False))) (And.intro r1 r2)))))
  clear hb5 r1 r2 HD
  go_upto_region 6 with (fail)
  refine wp_abs (Lf2 w (.slice A1 n c1) (.slice A2 st.length c2) w1.heap.size X n C ks w3.heap.size w5.heap.size (.slice B1 (foundL ks).length x1) (.slice B2 (foundS ks).length x2) (.slice G1 (foundL ks).length y1) (.slice G2 (foundS ks).length y2))
    ⟨HE.out.1.on ((Below.refl _ _).alloc (Nat.le_refl _) _), HE.out.2.1.alloc _, Blk.new _ _ _, ⟨_, HE.out.2.2.1.alloc _⟩, ⟨_, HE.out.2.2.2.1.alloc _⟩, ⟨_, HE.out.2.2.2.2.1.alloc _⟩, ⟨_, HE.out.2.2.2.2.2.alloc _⟩⟩ ?_
  clear HE
  intro w6 hS
  have x0 : w6.cell? ⟨w3.heap.size, 0, none⟩ = some (.slice B1 (foundL ks).length x1) := hS.b6.cell 0
  have x1' : w6.cell? ⟨w3.heap.size, 1, none⟩ = some (.slice B2 (foundS ks).length x2) := hS.b6.cell 1
  have y0 : w6.cell? ⟨w5.heap.size, 0, none⟩ = some (.slice G1 (foundL ks).length y1) := hS.b8.cell 0
  have y1' : w6.cell? ⟨w5.heap.size, 1, none⟩ = some (.slice G2 (foundS ks).length y2) := hS.b8.cell 1
  have HG := Lib.hid hS
  clear hS
  generalize foundE ks = fe
  go_wp2_with fail
  obtain ⟨q1, r1⟩ := HG.out.x1
  obtain ⟨q2, r2⟩ := HG.out.x2
  obtain ⟨q3, r3⟩ := HG.out.y1
  obtain ⟨q4, r4⟩ := HG.out.y2
  refine (equal_any B1 B2 G1 G2 _ x1 _ x2 _ y1 _ y2 0 0 0 0 (foundL ks) (foundL ks) (foundS ks) (foundS ks) w6 (own_rdz r1) (own_rdz r2) (own_rdz r3) (own_rdz r4) (by unfold maxLen; omega) (by unfold maxLen; omega) (by unfold maxLen; omega) (by unfold maxLen; omega)).mono ?_
  rw [eqS_same]
  rintro e w7 ⟨rfl, hb7⟩
  have HJ := Lib.hid (HG.out.lf.on hb7)
  clear hb7 HG x0 x1' y0 y1' r1 r2 r3 r4
  go_wp2_with fail
  refine (stayed_any X A n C c 0 L3 _ w.heap.size ks w7 (own_rdz HJ.out.own) (H3.out.below HJ.out.below (Nat.le_refl _)) (Nat.le_refl _) HJ.out.below.size hn).mono ?_
  rintro e w8 ⟨rfl, hb8⟩
  have HL := Lib.hid (HJ.out.on hb8)
  clear hb8 HJ
  have KB : ∀ W, Below w8.heap.size w8 W → W.cell? ⟨w.heap.size, 0, none⟩ = some (.slice A1 n c1) ∧ W.cell? ⟨w.heap.size, 1, none⟩ = some (.slice A2 st.length c2) :=
    fun W hb => ⟨(HL.out.on hb).b0.cell 0, (HL.out.on hb).b0.cell 1⟩
  have HKB := Lib.hid KB
  clear KB
  go_wp2
  go_region_held3 (fun W => W.cell? ⟨w.heap.size, 0, none⟩ = some (.slice A1 n c1) ∧ W.cell? ⟨w.heap.size, 1, none⟩ = some (.slice A2 st.length c2))
    ((refine HKB.out _ ?_; first | exact HR1.out.1 | exact ⟨rfl, rfl, rfl, Nat.le_refl _, fun _ _ => rfl⟩))
    (first
      | (go_at_call 36
         refine (faults_ok A1 A2 X c1 c2 n C L1 L2 0 ls st ks _ (H1.out.up HL.out.below HL.out.below.size).drew (H2.out.up HL.out.below HL.out.below.size).drew (padded_rd (own_rdz HL.out.own)).drew HF.out HM.out).mono ?_
         rintro e v1 ⟨F1, f1, rfl, of, hb⟩
         have hbx : Below w8.heap.size w8 v1 := ⟨hb.os, hb.tape, hb.output, hb.size, hb.block⟩
         have HR1 := Lib.hid (And.intro hbx of)
         clear hb hbx of))
  have HM2 := Lib.hid (HL.out.on HR1.out.1)
  have HFL := Lib.hid (own_rdz HR1.out.2)
  clear HR1 HKB HL
  go_wp2_with fail
  refine (stayed_any X A n C c 0 L3 _ w.heap.size ks v1 (own_rdz HM2.out.own) (H3.out.below HM2.out.below (Nat.le_refl _)) (Nat.le_refl _) HM2.out.below.size hn).mono ?_
  rintro e w9 ⟨rfl, hb9⟩
  have HN := Lib.hid (HM2.out.on hb9)
  have HFL2 := Lib.hid (HFL.out.up hb9 hb9.size)
  clear hb9 HM2 HFL
  have c00 : w9.cell? ⟨w.heap.size, 0, none⟩ = some (.slice A1 n c1) := HN.out.b0.cell 0
  have c01 : w9.cell? ⟨w.heap.size, 1, none⟩ = some (.slice A2 st.length c2) := HN.out.b0.cell 1
  go_wp2_with fail
  refine (refMay_any A1 A2 n c1 st.length c2 L1 L2 ls st w9 (H1.out.up HN.out.below HN.out.below.size) (H2.out.up HN.out.below HN.out.below.size) e2 e1).mono ?_
  rintro e w10 ⟨rfl, hb10⟩
  have HO := Lib.hid (HN.out.on hb10)
  have HFL3 := Lib.hid (HFL2.out.up hb10 hb10.size)
  clear hb10 HN c00 c01 HFL2
  rw [HM.out]
  have c00 : w10.cell? ⟨w.heap.size, 0, none⟩ = some (.slice A1 n c1) := HO.out.b0.cell 0
  have c01 : w10.cell? ⟨w.heap.size, 1, none⟩ = some (.slice A2 st.length c2) := HO.out.b0.cell 1
  have hbn : ((n : Int) != (n : Int)) = false := by simp
  go_wp2_with fail
  refine (refFaults_any A1 A2 A c1 st.length c2 n c L1 L3 ls ks w10 (H1.out.up HO.out.below HO.out.below.size) (H3.out.up HO.out.below HO.out.below.size) hn5).mono ?_
  rintro e w11 ⟨F2, f2, rfl, of2, hb11⟩
  have HP := Lib.hid (HO.out.on hb11)
  have HQ := Lib.hid (And.intro (HFL3.out.up hb11 hb11.size) (own_rdz of2))
  clear hb11 of2 HO HFL3 c00 c01
  have hfl := faultsPre_len ls ks n
  generalize faultsPre ls ks n = fl at *
  have hbl : ((fl.length : Int) != (fl.length : Int)) = false := by simp
  have hfl2 : fl.length ≤ 512 := by omega
  go_wp2
  go_loopw [94] (fun iv wr => ∃ i : Nat, i ≤ fl.length ∧ iv = .int .i64 i ∧ Hid (Below w11.heap.size w11 wr)) (fun iv _ => fl.length - (intOf iv).toNat)
  case atStart => exact ⟨0, by omega, rfl, Lib.hid (Below.refl _ _)⟩
  case round =>
    obtain ⟨i, hi, rfl, HS⟩ := hrel
    by_cases hlt : i < fl.length
    · obtain ⟨b, o, hil, rfl, hL, hB, p1, p2, p3⟩ := (HQ.out.1.up HS.out HS.out.size).three hlt
      obtain ⟨b', o', hil', rfl, hL', hB', p1', p2', p3'⟩ := (HQ.out.2.up HS.out HS.out.size).three hlt
      generalize fl[i] = x at *
      obtain ⟨x1, x2, x3⟩ := x
      simp only at p1 p2 p3 p1' p2' p3'
      have i1 : (0 : Int) ≤ (i : Int) := by omega
      have i2 : (i : Int) < (fl.length : Int) := by omega
      clear hL hB hL' hB'
      go_wp2
      go_quiet (fail)
      go_wp2
      go_roundw
      case rel => exact ⟨i + 1, by omega, by go_num, Lib.hid (bdrawn HS.out _)⟩
      case measure => simp [intOf]; omega
    · go_wp2_with fail
      refine (wakes_any wr).mono ?_
      rintro e w12 ⟨rfl, hb12⟩
      have HT := Lib.hid ((HP.out.below.trans (HS.out.mono HP.out.below.size)).trans (hb12.mono (Nat.le_trans HP.out.below.size HS.out.size)))
      clear hb12
      go_wp2
      go_ret
      exact ⟨rfl, HT.out⟩
end Go.Proofs.Ytbjfbmienlojkaa
