/- The law SyllableParts, walked. -/
import Derived.Test.YtogofchpocoebaaU2
import Derived.Test.YtogofchpocoebaaW17
namespace Go.Proofs.Ytogofchpocoebaa
open Go.RowKit Go.Maps

/-- a row parted: where each syllable begins, its vowel -/
structure PartIs (l : List Ph) (M : Nat) (F A : Nat → Nat) (hv : Nat → Bool) : Prop where
  f0 : F 0 = 0
  fM : F M = l.length
  num : (nucs l l.length).length = M
  pos : 0 < M
  at_ : ∀ k, k < M → (spL l)[k]? = some ((F k : Int), (A k : Int), (F (k + 1) : Int), 0, hv k)
  inn : ∀ k, k < M → F k ≤ A k ∧ A k < F (k + 1) ∧ F (k + 1) ≤ l.length
  vow : ∀ k, k < M → ∀ i, F k ≤ i → i < F (k + 1) → vowF (l.getD i ph0) = decide (i = A k)
  on : ∀ k, k < M → 0 < k → onsetF (cutL l (F k) (A k)) = true
  big : ∀ k, k < M → 0 < k → A (k - 1) + 1 < F k → onsetF (cutL l (F k - 1) (A k)) = false
theorem part_all {l : List Ph} (h : spE l = 0) : ∃ F A hv, PartIs l (spL l).length F A hv := by
  have hL : spL l = sylL l (nucs l l.length) l.length (heavyF l) := by unfold spL; rw [if_pos h]
  have hlen := sylL_len l (nucs l l.length) l.length (heavyF l)
  have hne : nucs l l.length ≠ [] := by
    intro e
    unfold spE at h
    rw [e] at h
    split at h
    · cases h
    · split at h
      · rw [if_pos rfl] at h; cases h
      · cases h
  have hp : 0 < (nucs l l.length).length := List.length_pos_iff.2 hne
  have ht : ∀ k, k < (nucs l l.length).length → toK l (nucs l l.length) l.length k = if k + 1 < (nucs l l.length).length then frK l (nucs l l.length) (k + 1) else l.length := fun k _ => rfl
  have hf : ∀ k, k < (nucs l l.length).length → (if k < (nucs l l.length).length then frK l (nucs l l.length) k else l.length) = frK l (nucs l l.length) k := fun k hk => if_pos hk
  rw [hL, hlen]
  refine ⟨fun k => if k < (nucs l l.length).length then frK l (nucs l l.length) k else l.length, fun k => (nucs l l.length).getD k 0, fun k => (sylK l (nucs l l.length) l.length (heavyF l) k).hv, ?_, ?_, rfl, hp, ?_, ?_, ?_, ?_, ?_⟩
  · show (if 0 < (nucs l l.length).length then frK l (nucs l l.length) 0 else l.length) = 0
    rw [if_pos hp]; rfl
  · show (if (nucs l l.length).length < (nucs l l.length).length then _ else l.length) = l.length
    rw [if_neg (by omega)]
  · intro k hk
    rw [hL, sylL_at hk]
    show some (sylK l (nucs l l.length) l.length (heavyF l) k) = _
    try dsimp only
    rw [hf k hk, ← ht k hk]
    rfl
  · intro k hk
    try dsimp only
    rw [hf k hk, ← ht k hk]
    exact ⟨(fr_in hk).1, (to_in hk).1, (to_in hk).2.1⟩
  · intro k hk i h1 h2
    try dsimp only at h1 h2 ⊢
    rw [hf k hk] at h1
    rw [← ht k hk] at h2
    exact vow_in hk h1 h2
  · intro k hk h0
    try dsimp only
    rw [hf k hk]
    exact part_on h0
  · intro k hk h0 h1
    try dsimp only at h1 ⊢
    rw [hf k hk] at h1 ⊢
    exact part_big hk h0 h1

set_option maxHeartbeats 16000000 in
set_option maxRecDepth 100000 in
theorem syllableParts_any (A : Option Addr) (n c : Nat) (l : List Ph) (w : World) (h : Rd w 0 w.heap.size 3 A n (phs l)) (hf : ∀ p ∈ l, fitP p) (hnc : n ≤ c) :
    Calls Try.prog 19 #[.slice A n c] w fun e w' => e = .returned (.bool true) ∧ Below w.heap.size w w' := by
  have HF := Lib.hid hf
  have HL := Lib.hid h.len_ph
  have H0 := Lib.hid h
  clear hf h
  have wf : ∀ k, Fence.wide.fn k := fun _ => trivial
  have wd : Fence.wide.depth = none := rfl
  go_enter Try.func19, Try.ntmps19
  go_wp2_with fail
  refine (works11_any _).mono ?_
  rintro e w1 ⟨rfl, hb⟩
  have H1 := Lib.hid (And.intro hb (H0.out.up hb hb.size))
  clear hb H0
  go_wp2_with fail
  refine (split_any A n c 0 _ l _ H1.out.2 (Nat.le_refl _) hnc HF.out).mono ?_
  rintro e w2 ⟨v, rfl, ho, hb⟩
  by_cases hE : spE l = 0
  case neg =>
    have hSL : spL l = [] := by unfold spL; rw [if_neg hE]
    have hEb : (spE l != 0) = true := by simpa using hE
    rw [hSL] at ho
    obtain ⟨D, d, rfl⟩ := own_slice ho
    have H2 := Lib.hid (H1.out.1.trans (hb.mono H1.out.1.size))
    clear ho hb H1 hSL hE
    generalize spE l = E at *
    have d0 : (([] : List Sy).length : Int) = 0 := rfl
    have e0 : ([] : List Sy).length = 0 := rfl
    rw [e0]
    go_wp2_with fail
    refine (works11_any _).mono ?_
    rintro e w3 ⟨rfl, hb⟩
    have H3 := Lib.hid (H2.out.trans (hb.mono H2.out.size))
    clear hb H2
    go_wp2
    go_ret
    exact ⟨rfl, H3.out⟩
  obtain ⟨F, A2, hvs, hP⟩ := part_all hE
  have HP := Lib.hid hP
  have hMY := may_split hE
  obtain ⟨_, hn128, hm64⟩ := may_fit hMY
  rw [HL.out] at hn128
  have HFO := Lib.hid (form_of hMY).all
  have HNV := Lib.hid hP.num
  rw [hE]
  clear hE hP
  generalize hSP : spL l = ss at *
  have HSP := Lib.hid hSP
  clear hSP
  generalize hM : ss.length = M at *
  obtain ⟨D, d, rfl⟩ := own_slice ho
  have H2 := Lib.hid (And.intro (H1.out.1.trans (hb.mono H1.out.1.size)) (And.intro (H1.out.2.up hb hb.size) ((own_rd ho).more (Nat.zero_le _) (Nat.le_refl _))))
  clear ho hb H1
  go_wp2_with fail
  refine (may_any A D n c M d 0 _ 0 _ l ss _ H2.out.2.1 H2.out.2.2 (Nat.le_refl _) (Nat.le_refl _) HF.out).mono ?_
  rintro e w3 ⟨rfl, hb⟩
  rw [hMY]
  clear hMY
  have H3 := Lib.hid (And.intro (H2.out.1.trans (hb.mono H2.out.1.size)) (And.intro (H2.out.2.1.up hb hb.size) (H2.out.2.2.up hb hb.size)))
  clear hb H2
  have hn0 : 0 < n := by have h1 := HP.out.inn 0 HP.out.pos; have h2 := HL.out; omega
  obtain ⟨b, o, rfl, _, _, _⟩ := H3.out.2.1.2 (by omega)
  go_wp2
  go_loopw [5, 7, 8, 9, 33] (fun v5 _ _ _ v33 wr => ∃ k : Nat, k ≤ M ∧ v33 = .int .i64 k ∧ v5 = .int .i64 (F k : Nat) ∧ Hid (Below w3.heap.size w3 wr)) (fun _ _ _ _ v33 _ => M - (intOf v33).toNat)
  case atStart => exact ⟨0, by omega, rfl, by rw [HP.out.f0]; rfl, Lib.hid (Below.refl _ _)⟩
  case round =>
    obtain ⟨k, hk, rfl, rfl, HR⟩ := hrel
    by_cases hlt : k < M
    · obtain ⟨bD, oD, hl0, rfl, _, _, x0, x1, x2, x3, x4⟩ := (H3.out.2.2.below HR.out (Nat.le_refl _)).sy (k := k) hlt
      have hat := HP.out.at_ k hlt
      rw [HSP.out, List.getElem?_eq_getElem hl0] at hat
      injection hat with hat
      rw [hat] at x0 x1 x2 x3 x4
      obtain ⟨y1, y2, y3⟩ := HP.out.inn k hlt
      have HV := Lib.hid (HP.out.vow k hlt)
      have HON := Lib.hid (HP.out.on k hlt)
      have HBI := Lib.hid (HP.out.big k hlt)
      have hln := HL.out
      have ht' : (F (k + 1)) ≤ n := by omega
      generalize hF1 : F (k + 1) = t at *
      generalize hF0 : F k = f at *
      generalize hA0 : A2 k = a at *
      have HFT := Lib.hid (And.intro hF1 hF0)
      clear hF1 hF0 hat hln y3
      have x0 : wr.cell? ⟨bD, oD + k * 5, none⟩ = some (.int .i64 f) := x0
      have x1 : wr.cell? ⟨bD, oD + k * 5 + 1, none⟩ = some (.int .i64 a) := x1
      have x2 : wr.cell? ⟨bD, oD + k * 5 + 2, none⟩ = some (.int .i64 t) := x2
      have x3 : wr.cell? ⟨bD, oD + k * 5 + 3, none⟩ = some (.int .i64 0) := x3
      have x4 : wr.cell? ⟨bD, oD + k * 5 + 4, none⟩ = some (.bool (hvs k)) := x4
      generalize hvs k = hv at *
      have i1 : (0 : Int) ≤ (k : Int) := by omega
      have i2 : (k : Int) < (M : Int) := by omega
      go_upto_region 12 with (fail)
      refine wp_abs (fun wx => Below w3.heap.size w3 wx ∧ Blk wx wr.heap.size 37 #[.int .i64 f, .int .i64 a, .int .i64 t, .int .i64 0, .bool hv]) ⟨HR.out.trans (((Below.refl _ _).alloc (Nat.le_refl _) _).mono HR.out.size), Blk.new _ _ _⟩ ?_
      clear x0 x1 x2 x3 x4 HR
      generalize wr.heap.size = pb at *
      rintro wx hX
      have HX := Lib.hid hX
      clear hX
      have x0 : wx.cell? ⟨pb, 0, none⟩ = some (.int .i64 f) := HX.out.2.cell 0
      have x3 : wx.cell? ⟨pb, 3, none⟩ = some (.int .i64 0) := HX.out.2.cell 3
      go_wp2
      clear x0 x3
      go_loopw [9] (fun v wq => ∃ j : Nat, f ≤ j ∧ j ≤ t ∧ v = .int .i64 j ∧ Hid (Below w3.heap.size w3 wq ∧ Blk wq pb 37 #[.int .i64 f, .int .i64 a, .int .i64 t, .int .i64 0, .bool hv])) (fun v _ => t - (intOf v).toNat)
      case atStart => exact ⟨f, Nat.le_refl _, by omega, rfl, Lib.hid HX.out⟩
      case round =>
        obtain ⟨j, hj1, hj2, rfl, HI⟩ := hrel
        clear HX
        have s1 : wr.cell? ⟨pb, 1, none⟩ = some (.int .i64 a) := HI.out.2.cell 1
        have s2 : wr.cell? ⟨pb, 2, none⟩ = some (.int .i64 t) := HI.out.2.cell 2
        by_cases hjt : j < t
        · obtain ⟨bp, op, hlp, eA1, _, _, x0, x1, x2⟩ := (H3.out.2.1.below HI.out.1 (Nat.le_refl _)).ph (k := j) (by omega)
          cases eA1
          have hvw := HV.out j hj1 hjt
          rw [List.getD_eq_getElem?_getD, List.getElem?_eq_getElem hlp] at hvw
          have hvw : vowF l[j] = decide (j = a) := hvw
          have hpf := HF.out _ (List.getElem_mem hlp)
          have hpi := List.all_eq_true.1 HFO.out _ (List.getElem_mem hlp)
          generalize l[j] = p at *
          have hq : ((j : Int) == (a : Int)) = decide (j = a) := by
            by_cases e : j = a
            · subst e; simp
            · have e2 : (j : Int) ≠ (a : Int) := by omega
              have : ((j : Int) == (a : Int)) = false := by simpa using e2
              rw [this, decide_eq_false e]
          have hsv : (sonF p == 7) = decide (j = a) := (son_vow hpi).trans hvw
          have HFI := Lib.hid hpf.1
          clear hvw hpf hpi
          generalize decide (j = a) = dq at *
          have i1 : (0 : Int) ≤ (j : Int) := by omega
          have i2 : (j : Int) < (n : Int) := by omega
          go_wp2
          have Xx0 := Bel.cell x0
          have Xx1 := Bel.cell x1
          have Xx2 := Bel.cell x2
          have Xs1 := Bel.cell s1
          clear x0 x1 x2 s1 s2
          refine wp_bel (by kernel_rfl) (by kernel_rfl) ?_
          repeat (gi_big_quiet_step (fail))
          gi_big_quiet_want
          gi_big_quiet_op
          refine ⟨.int .i64 (sonF p), fun x => ?_, ?_⟩
          · exact callsIn_wide.2 ((son_any p x.1 HFI.out).mono (fun e w' h => ⟨h.1, x.next h.2⟩))
          go_big_quiet_on
          repeat (gi_big_quiet_step (fail))
          refine wpQuietIn_nil ?_
          intro _ hw'
          obtain ⟨xW, hw''⟩ := hw'
          subst hw''
          clear Xx0 Xx1 Xx2 Xs1
          obtain ⟨W3, hb3⟩ := xW
          dsimp only
          have HZ := Lib.hid (And.intro (HI.out.1.trans (hb3.mono HI.out.1.size)) (HI.out.2.below hb3 HI.out.2.lt))
          clear hb3 HI
          go_wp2
          go_roundw
          case rel => exact ⟨j + 1, by omega, by omega, by go_num, Lib.hid HZ.out⟩
          case measure => simp [intOf]; omega
        · obtain rfl : j = t := by omega
          have s0 : wr.cell? ⟨pb, 0, none⟩ = some (.int .i64 f) := HI.out.2.cell 0
          have HB := Lib.hid HI.out
          clear HI
          by_cases hk0 : k = 0
          · subst hk0
            go_wp2
            have Xs0 := Bel.cell s0
            have Xs2 := Bel.cell s2
            refine wp_bel (by kernel_rfl) (by kernel_rfl) ?_
            repeat (gi_big_quiet_step (fail))
            refine wpQuietIn_nil ?_
            intro _ hw'
            obtain ⟨xW, hw''⟩ := hw'
            subst hw''
            clear Xs0 Xs2 s0 s1 s2
            obtain ⟨W3, hb3⟩ := xW
            dsimp only
            have HZ := Lib.hid (And.intro (HB.out.1.trans (hb3.mono HB.out.1.size)) (HB.out.2.below hb3 HB.out.2.lt))
            have s2 : W3.cell? ⟨pb, 2, none⟩ = some (.int .i64 j) := HZ.out.2.cell 2
            clear hb3 HB
            go_wp2
            go_roundw
            case rel => exact ⟨1, by omega, rfl, by rw [HFT.out.1], Lib.hid HZ.out.1⟩
            case measure => simp [intOf]; omega
          obtain ⟨q, rfl⟩ : ∃ q, k = q + 1 := ⟨k - 1, by omega⟩
          have dk : decide ((0 : Int) < ((q + 1 : Nat) : Int)) = true := decide_eq_true (by omega)
          have wk : IntKind.i64.wrap (((q + 1 : Nat) : Int) - 1) = (q : Int) := by rw [IntWalk.i64_in _ (by omega)]; omega
          have hon := HON.out (by omega)
          have hbig := HBI.out (by omega)
          rw [show q + 1 - 1 = q by omega] at hbig
          obtain ⟨y0, y4, y5⟩ := HP.out.inn q (by omega)
          obtain ⟨bD', oD', hl1, eD, _, _, _, z1, _, _, _⟩ := (H3.out.2.2.below HB.out.1 (Nat.le_refl _)).sy (k := q) (by omega)
          cases eD
          have hat := HP.out.at_ q (by omega)
          rw [HSP.out, List.getElem?_eq_getElem hl1] at hat
          injection hat with hat
          rw [hat] at z1
          have z1 : wr.cell? ⟨bD, oD + q * 5 + 1, none⟩ = some (.int .i64 (A2 q : Nat)) := z1
          have hln := HL.out
          have ha1 : A2 q ≤ 128 := by omega
          generalize A2 q = a1 at *
          clear hat y0 y4 y5 hln
          have wa : IntKind.i64.wrap ((a1 : Int) + 1) = (a1 : Int) + 1 := IntWalk.i64_in _ (by omega)
          have j1 : (0 : Int) ≤ (q : Int) := by omega
          have j2 : (q : Int) < (M : Int) := by omega
          have f1 : (0 : Int) ≤ (f : Int) := by omega
          have f2 : (f : Int) ≤ (a : Int) := by omega
          have f3 : (a : Int) ≤ (c : Int) := by omega
          have f5 : (a : Int) ≤ (n : Int) := by omega
          have f4 : (f : Int) < (c : Int) := by omega
          have HC1 := Lib.hid (fun (W : World) (hb : Below w3.heap.size w3 W) => (H3.out.2.1.below hb (Nat.le_refl _)).cutP (N := f) (M := a) (by omega) (by omega))
          have HC2 := Lib.hid (fun (W : World) (hb : Below w3.heap.size w3 W) => (H3.out.2.1.below hb (Nat.le_refl _)).cutP (N := f - 1) (M := a) (by omega) (by omega))
          have HFC := Lib.hid (fun x y => show ∀ p ∈ cutL l x y, fitP p from fun p hp => HF.out p (cut_mem hp))
          have s1 : wr.cell? ⟨pb, 1, none⟩ = some (.int .i64 a) := HB.out.2.cell 1
          by_cases hgt : a1 + 1 < f
          case neg =>
            have dg : decide ((a1 : Int) + 1 < (f : Int)) = false := decide_eq_false (by omega)
            clear hbig
            go_wp2
            have Xs0 := Bel.cell s0
            have Xs1 := Bel.cell s1
            have Xs2 := Bel.cell s2
            have Xz1 := Bel.cell z1
            refine wp_bel (by kernel_rfl) (by kernel_rfl) ?_
            repeat (gi_big_quiet_step (fail))
            gi_big_quiet_want
            gi_big_quiet_op
            refine ⟨.bool true, fun x => ?_, ?_⟩
            · exact callsIn_wide.2 ((onset_any _ _ _ 0 w3.heap.size (cutL l f a) x.1 (HC1.out _ (HB.out.1.trans (x.2.mono HB.out.1.size))) (Nat.le_trans HB.out.1.size x.2.size) (by unfold maxLen; omega) (HFC.out _ _)).mono (fun e w' h => ⟨by rw [h.1, hon], x.next h.2⟩))
            go_big_quiet_on
            repeat (gi_big_quiet_step (fail))
            refine wpQuietIn_nil ?_
            intro _ hw'
            obtain ⟨xW, hw''⟩ := hw'
            subst hw''
            clear Xs0 Xs1 Xs2 Xz1 s0 s1 s2 z1
            obtain ⟨W3, hb3⟩ := xW
            dsimp only
            have HZ := Lib.hid (And.intro (HB.out.1.trans (hb3.mono HB.out.1.size)) (HB.out.2.below hb3 HB.out.2.lt))
            have s2 : W3.cell? ⟨pb, 2, none⟩ = some (.int .i64 j) := HZ.out.2.cell 2
            clear hb3 HB
            go_wp2
            go_roundw
            case rel => exact ⟨q + 2, by omega, by go_num, by rw [HFT.out.1], Lib.hid HZ.out.1⟩
            case measure => simp [intOf]; omega
          have dg : decide ((a1 : Int) + 1 < (f : Int)) = true := decide_eq_true (by omega)
          have hbg := hbig hgt
          obtain ⟨f', hf'⟩ : ∃ f', f = f' + 1 := ⟨f - 1, by omega⟩
          have wf1 : IntKind.i64.wrap ((f : Int) - 1) = (f' : Int) := by rw [IntWalk.i64_in _ (by omega)]; omega
          rw [show f - 1 = f' by omega] at hbg HC2
          have g1 : (0 : Int) ≤ (f' : Int) := by omega
          have g2 : (f' : Int) ≤ (a : Int) := by omega
          have g4 : (f' : Int) < (c : Int) := by omega
          have HFE := Lib.hid hf'
          clear hbig hf' hgt
          go_wp2
          have Xs0 := Bel.cell s0
          have Xs1 := Bel.cell s1
          have Xs2 := Bel.cell s2
          have Xz1 := Bel.cell z1
          refine wp_bel (by kernel_rfl) (by kernel_rfl) ?_
          repeat (gi_big_quiet_step (fail))
          gi_big_quiet_want
          gi_big_quiet_op
          refine ⟨.bool true, fun x => ?_, ?_⟩
          · exact callsIn_wide.2 ((onset_any _ _ _ 0 w3.heap.size (cutL l f a) x.1 (HC1.out _ (HB.out.1.trans (x.2.mono HB.out.1.size))) (Nat.le_trans HB.out.1.size x.2.size) (by unfold maxLen; omega) (HFC.out _ _)).mono (fun e w' h => ⟨by rw [h.1, hon], x.next h.2⟩))
          go_big_quiet_on
          repeat (gi_big_quiet_step (fail))
          gi_big_quiet_want
          gi_big_quiet_op
          refine ⟨.bool false, fun x => ?_, ?_⟩
          · exact callsIn_wide.2 ((onset_any _ _ _ 0 w3.heap.size (cutL l f' a) x.1 (HC2.out _ (HB.out.1.trans (x.2.mono HB.out.1.size))) (Nat.le_trans HB.out.1.size x.2.size) (by unfold maxLen; omega) (HFC.out _ _)).mono (fun e w' h => ⟨by rw [h.1, hbg], x.next h.2⟩))
          go_big_quiet_on
          repeat (gi_big_quiet_step (fail))
          refine wpQuietIn_nil ?_
          intro _ hw'
          obtain ⟨xW, hw''⟩ := hw'
          subst hw''
          clear Xs0 Xs1 Xs2 Xz1 s0 s1 s2 z1
          obtain ⟨W3, hb3⟩ := xW
          dsimp only
          have HZ := Lib.hid (And.intro (HB.out.1.trans (hb3.mono HB.out.1.size)) (HB.out.2.below hb3 HB.out.2.lt))
          have s2 : W3.cell? ⟨pb, 2, none⟩ = some (.int .i64 j) := HZ.out.2.cell 2
          clear hb3 HB
          go_wp2
          go_roundw
          case rel => exact ⟨q + 2, by omega, by go_num, by rw [HFT.out.1], Lib.hid HZ.out.1⟩
          case measure => simp [intOf]; omega
    · obtain rfl : k = M := by omega
      have hFM : F k = n := by rw [HP.out.fM, HL.out]
      rw [hFM]
      clear hFM
      have di : ¬ ((k : Int) < (k : Int)) := by omega
      go_wp2
      go_loopw [6, 11, 105] (fun v6 _ v105 wq => ∃ j : Nat, j ≤ n ∧ v105 = .int .i64 j ∧ v6 = .int .i64 ((nucs l j).length : Nat) ∧ (nucs l j).length ≤ j ∧ Hid (Below w3.heap.size w3 wq)) (fun _ _ v105 _ => n - (intOf v105).toNat)
      case atStart => exact ⟨0, by omega, rfl, rfl, Nat.le_refl _, Lib.hid HR.out⟩
      case round =>
        obtain ⟨j, hj, rfl, rfl, hle, HI⟩ := hrel
        clear HR
        by_cases hjt : j < n
        · obtain ⟨bp, op, hlp, eA1, _, _, x0, x1, x2⟩ := (H3.out.2.1.below HI.out (Nat.le_refl _)).ph (k := j) hjt
          cases eA1
          have hns := nucs_step l j
          rw [List.getD_eq_getElem?_getD, List.getElem?_eq_getElem hlp] at hns
          have hns : nucs l (j + 1) = nucs l j ++ (if vowF l[j] then [j] else []) := hns
          have hpf := HF.out _ (List.getElem_mem hlp)
          have hpi := List.all_eq_true.1 HFO.out _ (List.getElem_mem hlp)
          generalize l[j] = p at *
          have hsv : (sonF p == 7) = vowF p := son_vow hpi
          have HFI := Lib.hid hpf.1
          clear hpf hpi
          have hlen : (nucs l (j + 1)).length = (nucs l j).length + (if vowF p then 1 else 0) := by
            rw [hns, List.length_append]
            cases vowF p <;> rfl
          have HNL := Lib.hid hlen
          clear hns hlen
          generalize (nucs l j).length = cn at *
          have i1 : (0 : Int) ≤ (j : Int) := by omega
          have i2 : (j : Int) < (n : Int) := by omega
          go_wp2_with fail
          refine (son_any p _ HFI.out).mono ?_
          rintro e wz ⟨rfl, hb⟩
          have HZ := Lib.hid (HI.out.trans (((Below.refl _ _).alloc (Nat.le_refl _) _).mono HI.out.size |>.trans (hb.mono (by have := HI.out.size; simp; omega))))
          clear hb x0 x1 x2
          cases hvp : vowF p with
          | true =>
            have HN2 := Lib.hid (show (nucs l (j + 1)).length = cn + 1 by rw [HNL.out, hvp]; rfl)
            rw [hvp] at hsv
            clear HNL hvp
            go_wp2
            go_roundw
            case rel => exact ⟨j + 1, by omega, by go_num, by rw [HN2.out]; go_num, by rw [HN2.out]; omega, Lib.hid HZ.out⟩
            case measure => simp [intOf]; omega
          | false =>
            have HN2 := Lib.hid (show (nucs l (j + 1)).length = cn by rw [HNL.out, hvp]; rfl)
            rw [hvp] at hsv
            clear HNL hvp
            go_wp2
            go_roundw
            case rel => exact ⟨j + 1, by omega, by go_num, by rw [HN2.out], by rw [HN2.out]; omega, Lib.hid HZ.out⟩
            case measure => simp [intOf]; omega
        · obtain rfl : j = n := by omega
          have hnv : (nucs l j).length = k := by rw [← HNV.out, HL.out]
          rw [hnv]
          clear hnv hle
          have dj : ¬ ((j : Int) < (j : Int)) := by omega
          have HH3 := Lib.hid (H3.out.1.trans (HI.out.mono H3.out.1.size))
          clear HI
          go_wp2_with fail
          refine (works11_any _).mono ?_
          rintro e w9 ⟨rfl, hb⟩
          have H9 := Lib.hid (HH3.out.trans (hb.mono HH3.out.size))
          clear hb HH3
          go_wp2
          go_ret
          exact ⟨rfl, H9.out⟩
end Go.Proofs.Ytogofchpocoebaa
