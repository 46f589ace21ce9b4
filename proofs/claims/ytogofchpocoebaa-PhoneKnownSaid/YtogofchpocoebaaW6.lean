/- syllable.Print. -/
import Derived.Test.YtogofchpocoebaaW3
import Derived.Test.YtogofchpocoebaaU1
namespace Go.Proofs.Ytogofchpocoebaa
open Go.RowKit Go.Maps

theorem sign_len (i : Nat) (s : Sy) : (signB i s).length ≤ 2 := by
  unfold signB
  split
  · simp
  · split
    · simp
    · split <;> simp
theorem spGo_le {l : List Ph} (hall : l.all isF = true) : ∀ (ss : List Sy) (i : Nat), (spGo l i ss).length ≤ ss.length * (2 + 7 * l.length) := by
  intro ss
  induction ss with
  | nil => intro i; simp [spGo]
  | cons s r ih =>
    intro i
    have h1 := ih (i + 1)
    have h2 := sign_len i s
    have h3 := texts_len _ (cut_all hall s.fr.toNat s.to_.toNat)
    have h4 : (cutL l s.fr.toNat s.to_.toNat).length ≤ l.length := by unfold cutL; rw [List.length_take, List.length_drop]; omega
    rw [spGo_cons, List.length_append, List.length_append, List.length_cons, Nat.add_mul]
    have h5 : 7 * (cutL l s.fr.toNat s.to_.toNat).length ≤ 7 * l.length := Nat.mul_le_mul_left 7 h4
    omega
/-- memory while Print runs -/
structure PsSt (w0 : World) (bb : Nat) (t : List UInt8) (W : World) : Prop where
  bld : Lib.IsBuilder 173 5 bb bb (Lib.byteCells t) W
  below : Below w0.heap.size w0 W
  lo : w0.heap.size ≤ bb
theorem PsSt.on {w0 : World} {bb : Nat} {t : List UInt8} {W W' : World} (h : PsSt w0 bb t W) (hb : Below W.heap.size W W') : PsSt w0 bb t W' :=
  ⟨bld_on h.bld hb, h.below.trans (hb.mono h.below.size), h.lo⟩
theorem PsSt.wrote {w0 : World} {bb : Nat} {t u : List UInt8} {W W' : World} (h : PsSt w0 bb t W) {cs : List Value} (hcs : cs = Lib.byteCells u) (h1 : Lib.BuilderAt 173 5 bb bb (.pointer (some ⟨bb, 0, none⟩)) (Lib.byteCells t ++ cs) W') (hb : Below bb W W') : PsSt w0 bb (t ++ u) W' :=
  ⟨.inr (by rw [Lib.byteCells_append, ← hcs]; exact h1), h.below.trans (hb.mono h.lo), h.lo⟩
theorem sg_enc (r : Int) (l : List UInt8) (h0 : 0 ≤ r) (h1 : r < 2048) (e : encL r = l) : Lib.runeCells r = Lib.byteCells l := by rw [rune_enc h0 h1, e]

set_option maxHeartbeats 8000000 in
set_option maxRecDepth 100000 in
theorem sprint_any (A D : Option Addr) (n c m d L1 B1 L2 B2 : Nat) (l : List Ph) (ss : List Sy) (w : World) (h : Rd w L1 B1 3 A n (phs l)) (h2 : Rd w L2 B2 5 D m (sys ss)) (z1 : B1 ≤ w.heap.size) (z2 : B2 ≤ w.heap.size) (hnc : n ≤ c) (hf : ∀ p ∈ l, fitP p) :
    Calls Try.prog 81 #[.slice A n c, .slice D m d] w fun e w' => e = .returned (.tuple #[.string (bts (spT l ss)), .int .i64 (mayF l ss)]) ∧ Below w.heap.size w w' := by
  have eA := h.len_ph
  have eD := h2.len_sy
  have HMY := Lib.hid (may_any A D n c m d L1 B1 L2 B2 l ss w h h2 z1 z2 hf)
  have H := Lib.hid (And.intro h (And.intro h2 hf))
  clear h h2 hf
  by_cases hm : mayF l ss = 0
  case neg =>
    have HS := Lib.hid (show spT l ss = [] by unfold spT; rw [if_neg hm])
    have hb : (mayF l ss != 0) = true := by simpa using hm
    rw [HS.out]
    generalize mayF l ss = E at *
    clear hm
    go_enter Try.func81, Try.ntmps81
    go_wp2_with fail
    refine HMY.out.mono ?_
    rintro e w1 ⟨rfl, hb1⟩
    have H1 := Lib.hid hb1
    clear hb1 HMY
    go_wp2
    go_ret2
    exact ⟨rfl, H1.out⟩
  have hF := form_of hm
  have HF := Lib.hid hF
  have HS := Lib.hid (show spT l ss = spGo l 0 ss by unfold spT; rw [if_pos hm])
  have hn128 : n ≤ 128 := by have := hF.n128; omega
  have hm64 : m ≤ 64 := by have := hF.m64; omega
  rw [hm] at HMY ⊢
  have HMM := Lib.hid hm
  clear hF hm
  go_enter Try.func81, Try.ntmps81
  go_wp2_with fail
  refine HMY.out.mono ?_
  rintro e w1 ⟨rfl, hb1⟩
  have H1 := Lib.hid hb1
  clear hb1 HMY
  go_upto_region 5 with (fail)
  refine wp_abs (PsSt w w1.heap.size []) ⟨bld_new w1, H1.out.trans (((Below.refl _ _).alloc (Nat.le_refl _) _).mono H1.out.size), H1.out.size⟩ ?_
  intro w2 hS
  have HSS := Lib.hid hS
  clear hS H1
  generalize w1.heap.size = bb at *
  go_wp2
  go_loopw [8, 9, 10, 11, 20] (fun _ _ _ _ v20 wr => ∃ k : Nat, k ≤ m ∧ v20 = .int .i64 k ∧ Hid (PsSt w bb (spGo l 0 (ss.take k)) wr)) (fun _ _ _ _ v20 _ => m - (intOf v20).toNat)
  case atStart => exact ⟨0, by omega, rfl, HSS⟩
  case round =>
    obtain ⟨k, hk, rfl, HR⟩ := hrel
    clear HSS
    by_cases hlt : k < m
    · obtain ⟨b, o, hl0, rfl, hL, hB, x0, x1, x2, x3, x4⟩ := (H.out.2.1.below HR.out.below z2).sy (k := k) hlt
      have hsn : ss.take (k + 1) = ss.take k ++ [ss[k]] := List.take_succ_eq_append_getElem hl0
      have htk : (ss.take k).length = k := by rw [List.length_take]; omega
      have hsp : spGo l 0 (ss.take (k + 1)) = spGo l 0 (ss.take k) ++ signB k ss[k] ++ texts (cutL l ss[k].fr.toNat ss[k].to_.toNat) := by
        rw [hsn, spGo_append, Nat.zero_add, htk, spGo_cons]
        simp [spGo]
      obtain ⟨q1, q2, q3, q4⟩ := HF.out.nuc _ (List.getElem_mem hl0)
      have hst := HF.out.ok _ (List.getElem_mem hl0)
      have hle : (spGo l 0 (ss.take k)).length ≤ 57472 := by
        have h1 := spGo_le HF.out.all (ss.take k) 0
        rw [htk] at h1
        have h2 : k * (2 + 7 * l.length) ≤ 64 * (2 + 7 * 128) := Nat.mul_le_mul (by omega) (by omega)
        omega
      generalize ss[k] = s at *
      obtain ⟨fr, hfr⟩ : ∃ k : Nat, s.fr = k := ⟨s.fr.toNat, by omega⟩
      obtain ⟨t, ht⟩ : ∃ k : Nat, s.to_ = k := ⟨s.to_.toNat, by omega⟩
      have hft : fr < t := by omega
      have htn : t ≤ n := by omega
      rw [hfr, ht, Int.toNat_natCast, Int.toNat_natCast] at hsp
      rw [hfr] at x0
      rw [ht] at x2
      have HSP := Lib.hid hsp
      have HLE := Lib.hid hle
      have HTX := Lib.hid (show prS (cutL l fr t) = bts (texts (cutL l fr t)) ∧ (texts (cutL l fr t)).length ≤ 896 by
        have e0 : prE (cutL l fr t) = 0 := by unfold prE; rw [cut_len (by omega), if_neg (by omega), cut_all HF.out.all]; rfl
        refine ⟨by unfold prS; rw [e0]; rfl, ?_⟩
        have := texts_len _ (cut_all HF.out.all fr t)
        rw [cut_len (by omega)] at this
        omega)
      have hK : bb < wr.heap.size := bld_lt HR.out.bld
      clear hsn htk hsp hle q1 q2 q3 q4 hL hB
      have i1 : (0 : Int) ≤ (k : Int) := by omega
      have i2 : (k : Int) < (m : Int) := by omega
      go_upto_region 8 with (fail)
      refine wp_abs (fun wx => PsSt w bb (spGo l 0 (ss.take k)) wx ∧ Blk wx wr.heap.size 37 #[.int .i64 fr, .int .i64 s.nu, .int .i64 t, .int .i64 s.st, .bool s.hv]) ⟨HR.out.on ((Below.refl _ _).alloc (Nat.le_refl _) _), Blk.new _ _ _⟩ ?_
      clear x0 x1 x2 x3 x4 HR
      generalize wr.heap.size = pb at *
      rintro wx hX
      have HX := Lib.hid hX
      clear hX
      have x3 : wx.cell? ⟨pb, 3, none⟩ = some (.int .i64 s.st) := HX.out.2.cell 3
      have x0 : wx.cell? ⟨pb, 0, none⟩ = some (.int .i64 fr) := HX.out.2.cell 0
      have x2 : wx.cell? ⟨pb, 2, none⟩ = some (.int .i64 t) := HX.out.2.cell 2
      obtain ⟨ba, oa, eA2, _, _⟩ := H.out.1.2 (by omega)
      cases eA2
      have HRD := Lib.hid (fun (W : World) (hb : Below w.heap.size w W) => ((H.out.1.below hb z1).cutP (N := fr) (M := t) (by omega) htn).more (Nat.le_refl _) (Nat.le_trans z1 hb.size))
      have f1 : (0 : Int) ≤ (fr : Int) := by omega
      have f2 : (fr : Int) ≤ (t : Int) := by omega
      have f3 : (t : Int) ≤ (c : Int) := by omega
      have f4 : (fr : Int) < (c : Int) := by omega
      have f5 : (t : Int) ≤ (n : Int) := by omega
      have HFT := Lib.hid (show ∀ p ∈ cutL l fr t, fitP p from fun p hp => H.out.2.2 p (cut_mem hp))
      by_cases s2 : s.st = 2
      · have hsb : signB k s = [203, 136] := by unfold signB; rw [if_pos s2]
        have HSB := Lib.hid hsb
        rw [s2] at x3
        clear hsb hst s2
        go_wp2_with fail
        refine (writeRune_any bb bb _ 712 _ HX.out.1.bld (by rw [Lib.byteCells_length]; have h1 := HLE.out; omega) (Nat.le_of_lt (bld_lt HX.out.1.bld)) (by decide) (by decide)).mono ?_
        rintro e wz ⟨⟨_, rfl⟩, h1, hb1, hk1⟩
        have HZ := Lib.hid (And.intro (HX.out.1.wrote (u := [203, 136]) (sg_enc 712 _ (by decide) (by decide) (by decide +kernel)) h1 hb1) (HX.out.2.others hk1 (Nat.ne_of_gt hK) (by decide)))
        clear h1 hb1 hk1 x0 x2 x3
        have x0 : wz.cell? ⟨pb, 0, none⟩ = some (.int .i64 fr) := HZ.out.2.cell 0
        have x2 : wz.cell? ⟨pb, 2, none⟩ = some (.int .i64 t) := HZ.out.2.cell 2
        go_wp2_with fail
        refine (print_any _ _ _ L1 (cutL l fr t) _ (HRD.out _ HZ.out.1.below) HFT.out (by unfold maxLen; omega)).mono ?_
        rintro e w3 ⟨rfl, hb3⟩
        rw [HTX.out.1]
        have H3 := Lib.hid (HZ.out.1.on hb3)
        have hK3 : bb < w3.heap.size := bld_lt H3.out.bld
        clear hb3 x0 x2
        go_wp2_with fail
        refine (writeString_any bb bb _ (bts (texts (cutL l fr t))) _ H3.out.bld (by rw [Lib.byteCells_length, bts_size]; have h1 := HLE.out; have h2 := HTX.out.2; (try simp only [List.length_append, List.length_cons, List.length_nil]); omega) (Nat.le_of_lt hK3)).mono ?_
        rintro e w4 ⟨⟨_, rfl⟩, h1, hb1, hk1⟩
        have H4 := Lib.hid (H3.out.wrote (u := texts (cutL l fr t)) rfl h1 hb1)
        clear h1 hb1 hk1
        go_wp2
        go_roundw
        case rel => exact ⟨k + 1, by omega, by go_num, Lib.hid (by rw [HSP.out, HSB.out]; exact H4.out)⟩
        case measure => simp [intOf]; omega
      by_cases s1 : s.st = 1
      · have hsb : signB k s = [203, 140] := by unfold signB; rw [if_neg s2, if_pos s1]
        have HSB := Lib.hid hsb
        rw [s1] at x3
        clear hsb hst s1
        go_wp2_with fail
        refine (writeRune_any bb bb _ 716 _ HX.out.1.bld (by rw [Lib.byteCells_length]; have h1 := HLE.out; omega) (Nat.le_of_lt (bld_lt HX.out.1.bld)) (by decide) (by decide)).mono ?_
        rintro e wz ⟨⟨_, rfl⟩, h1, hb1, hk1⟩
        have HZ := Lib.hid (And.intro (HX.out.1.wrote (u := [203, 140]) (sg_enc 716 _ (by decide) (by decide) (by decide +kernel)) h1 hb1) (HX.out.2.others hk1 (Nat.ne_of_gt hK) (by decide)))
        clear h1 hb1 hk1 x0 x2 x3
        have x0 : wz.cell? ⟨pb, 0, none⟩ = some (.int .i64 fr) := HZ.out.2.cell 0
        have x2 : wz.cell? ⟨pb, 2, none⟩ = some (.int .i64 t) := HZ.out.2.cell 2
        go_wp2_with fail
        refine (print_any _ _ _ L1 (cutL l fr t) _ (HRD.out _ HZ.out.1.below) HFT.out (by unfold maxLen; omega)).mono ?_
        rintro e w3 ⟨rfl, hb3⟩
        rw [HTX.out.1]
        have H3 := Lib.hid (HZ.out.1.on hb3)
        have hK3 : bb < w3.heap.size := bld_lt H3.out.bld
        clear hb3 x0 x2
        go_wp2_with fail
        refine (writeString_any bb bb _ (bts (texts (cutL l fr t))) _ H3.out.bld (by rw [Lib.byteCells_length, bts_size]; have h1 := HLE.out; have h2 := HTX.out.2; (try simp only [List.length_append, List.length_cons, List.length_nil]); omega) (Nat.le_of_lt hK3)).mono ?_
        rintro e w4 ⟨⟨_, rfl⟩, h1, hb1, hk1⟩
        have H4 := Lib.hid (H3.out.wrote (u := texts (cutL l fr t)) rfl h1 hb1)
        clear h1 hb1 hk1
        go_wp2
        go_roundw
        case rel => exact ⟨k + 1, by omega, by go_num, Lib.hid (by rw [HSP.out, HSB.out]; exact H4.out)⟩
        case measure => simp [intOf]; omega
      have s0 : s.st = 0 := by omega
      have hs0 : signB k s = if 0 < k then [46] else [] := by unfold signB; rw [if_neg s2, if_neg s1]
      rw [s0] at x3
      clear s2 s1 s0 hst
      by_cases hk0 : 0 < k
      · have HSB := Lib.hid (show signB k s = [46] by rw [hs0, if_pos hk0])
        have dk : decide ((0 : Int) < (k : Int)) = true := decide_eq_true (by omega)
        clear hs0
        go_wp2_with fail
        refine (writeRune_any bb bb _ 46 _ HX.out.1.bld (by rw [Lib.byteCells_length]; have h1 := HLE.out; omega) (Nat.le_of_lt (bld_lt HX.out.1.bld)) (by decide) (by decide)).mono ?_
        rintro e wz ⟨⟨_, rfl⟩, h1, hb1, hk1⟩
        have HZ := Lib.hid (And.intro (HX.out.1.wrote (u := [46]) (sg_enc 46 _ (by decide) (by decide) (by decide +kernel)) h1 hb1) (HX.out.2.others hk1 (Nat.ne_of_gt hK) (by decide)))
        clear h1 hb1 hk1 x0 x2 x3
        have x0 : wz.cell? ⟨pb, 0, none⟩ = some (.int .i64 fr) := HZ.out.2.cell 0
        have x2 : wz.cell? ⟨pb, 2, none⟩ = some (.int .i64 t) := HZ.out.2.cell 2
        go_wp2_with fail
        refine (print_any _ _ _ L1 (cutL l fr t) _ (HRD.out _ HZ.out.1.below) HFT.out (by unfold maxLen; omega)).mono ?_
        rintro e w3 ⟨rfl, hb3⟩
        rw [HTX.out.1]
        have H3 := Lib.hid (HZ.out.1.on hb3)
        have hK3 : bb < w3.heap.size := bld_lt H3.out.bld
        clear hb3 x0 x2
        go_wp2_with fail
        refine (writeString_any bb bb _ (bts (texts (cutL l fr t))) _ H3.out.bld (by rw [Lib.byteCells_length, bts_size]; have h1 := HLE.out; have h2 := HTX.out.2; (try simp only [List.length_append, List.length_cons, List.length_nil]); omega) (Nat.le_of_lt hK3)).mono ?_
        rintro e w4 ⟨⟨_, rfl⟩, h1, hb1, hk1⟩
        have H4 := Lib.hid (H3.out.wrote (u := texts (cutL l fr t)) rfl h1 hb1)
        clear h1 hb1 hk1
        go_wp2
        go_roundw
        case rel => exact ⟨k + 1, by omega, by go_num, Lib.hid (by rw [HSP.out, HSB.out]; exact H4.out)⟩
        case measure => simp [intOf]; omega
      · have HSB := Lib.hid (show signB k s = [] by rw [hs0, if_neg hk0])
        have dk : decide ((0 : Int) < (k : Int)) = false := decide_eq_false (by omega)
        have HZ := HX
        clear hs0
        go_wp2_with fail
        refine (print_any _ _ _ L1 (cutL l fr t) _ (HRD.out _ HZ.out.1.below) HFT.out (by unfold maxLen; omega)).mono ?_
        rintro e w3 ⟨rfl, hb3⟩
        rw [HTX.out.1]
        have H3 := Lib.hid (HZ.out.1.on hb3)
        have hK3 : bb < w3.heap.size := bld_lt H3.out.bld
        clear hb3 x0 x2 x3
        go_wp2_with fail
        refine (writeString_any bb bb _ (bts (texts (cutL l fr t))) _ H3.out.bld (by rw [Lib.byteCells_length, bts_size]; have h1 := HLE.out; have h2 := HTX.out.2; (try simp only [List.length_append, List.length_cons, List.length_nil]); omega) (Nat.le_of_lt hK3)).mono ?_
        rintro e w4 ⟨⟨_, rfl⟩, h1, hb1, hk1⟩
        have H4 := Lib.hid (H3.out.wrote (u := texts (cutL l fr t)) rfl h1 hb1)
        clear h1 hb1 hk1
        go_wp2
        go_roundw
        case rel => exact ⟨k + 1, by omega, by go_num, Lib.hid (by rw [HSP.out, HSB.out, List.append_nil]; exact H4.out)⟩
        case measure => simp [intOf]; omega
    · obtain rfl : k = m := by omega
      have HTK := Lib.hid (show spT l ss = spGo l 0 (ss.take k) by rw [HS.out, List.take_of_length_le (by omega)])
      have di : ¬ ((k : Int) < (k : Int)) := by omega
      generalize spGo l 0 (ss.take k) = T at *
      go_wp2_with fail
      refine (Try.Builder_String_any bb bb T wr HR.out.bld (Nat.le_of_lt (bld_lt HR.out.bld))).mono ?_
      rintro e wz ⟨rfl, hb⟩
      have HZ := Lib.hid (HR.out.below.trans (hb.mono HR.out.lo))
      clear hb
      go_wp2
      go_ret2
      exact ⟨by rw [HTK.out]; rfl, HZ.out⟩
end Go.Proofs.Ytogofchpocoebaa
