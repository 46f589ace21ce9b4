/- The reference's among and Onset. -/
import Derived.Test.YtogofchpocoebaaW2
import Derived.Test.YtogofchpocoebaaY3
import Derived.Test.YtogofchpocoebaaS6
namespace Go.Proofs.Ytogofchpocoebaa
open Go.RowKit Go.Maps

set_option maxHeartbeats 4000000 in
set_option maxRecDepth 100000 in
theorem among_any (r x0 x1 x2 x3 x4 x5 x6 x7 : Int) (w : World) : Calls Try.prog 151 #[.int .i32 r, .agg #[.int .i32 x0, .int .i32 x1, .int .i32 x2, .int .i32 x3, .int .i32 x4, .int .i32 x5, .int .i32 x6, .int .i32 x7]] w fun e w' => e = .returned (.bool (r != 0 && [x0, x1, x2, x3, x4, x5, x6, x7].contains r)) ∧ Below w.heap.size w w' := by
  obtain ⟨V, hV⟩ : ∃ V, V = (r != 0 && [x0, x1, x2, x3, x4, x5, x6, x7].contains r) := ⟨_, rfl⟩
  rw [← hV]
  go_enter Try.func151, Try.ntmps151
  go_upto_region 1 with (fail)
  refine wp_abs (fun wx => Blk wx w.heap.size 220 ([x0, x1, x2, x3, x4, x5, x6, x7].map (Value.int .i32)).toArray ∧ Below w.heap.size w wx) ⟨Blk.new _ _ _, (Below.refl _ _).alloc (Nat.le_refl _) _⟩ ?_
  have hXL : [x0, x1, x2, x3, x4, x5, x6, x7].length = 8 := rfl
  generalize [x0, x1, x2, x3, x4, x5, x6, x7] = X at *
  have HX := Lib.hid (And.intro hXL hV)
  obtain ⟨G, hG⟩ : ∃ G : Nat → Bool, G = fun k => (r != 0 && (X.take k).contains r) := ⟨_, rfl⟩
  have HG := Lib.hid hG
  clear hXL hV hG
  rintro w1 h1
  have H1 := Lib.hid h1
  clear h1
  go_wp2
  go_loopw [5] (fun v wr => ∃ k : Nat, k ≤ 8 ∧ v = .int .i64 k ∧ Hid ((Blk wr w.heap.size 220 (X.map (Value.int .i32)).toArray ∧ Below w.heap.size w wr) ∧ G k = false)) (fun v _ => 8 - (intOf v).toNat)
  case atStart => exact ⟨0, by omega, rfl, Lib.hid ⟨H1.out, by rw [HG.out]; simp⟩⟩
  case round =>
    obtain ⟨k, hk, rfl, HR⟩ := hrel
    clear H1
    by_cases hlt : k < 8
    · have hkl : k < X.length := by rw [HX.out.1]; exact hlt
      have z : wr.cell? ⟨w.heap.size, k, none⟩ = some (.int .i32 X[k]) := by
        have z0 := HR.out.1.1.cell k
        rw [z0]
        simp [hkl]
      have hsn : X.take (k + 1) = X.take k ++ [X[k]] := List.take_succ_eq_append_getElem hkl
      have hyes : (r != 0) = true → (X[k] == r) = true → V = true := fun h1 h2 => by
        rw [HX.out.2, h1, Bool.true_and, List.contains_iff_mem]
        rw [← beq_iff_eq.1 h2]
        exact List.getElem_mem hkl
      have hno : ((r != 0) = false ∨ (X[k] == r) = false) → G (k + 1) = false := fun h => by
        rw [HG.out]
        show (r != 0 && (X.take (k + 1)).contains r) = false
        rcases h with h | h
        · rw [h]; rfl
        · rw [hsn]
          have := HR.out.2
          rw [HG.out] at this
          have this : (r != 0 && (X.take k).contains r) = false := this
          cases hr : (r != 0) with
          | false => rfl
          | true =>
            rw [hr, Bool.true_and] at this
            have e : ¬ r = X[k] := fun e => by rw [e] at h; simp at h
            simp only [List.contains_eq_mem, List.mem_append, List.mem_singleton, Bool.true_and, decide_eq_false_iff_not, not_or] at this ⊢
            exact ⟨this, e⟩
      have HY := Lib.hid (And.intro hyes hno)
      have HB := Lib.hid HR.out.1
      clear hyes hno hsn HR
      generalize X[k] = x at *
      have i1 : (0 : Int) ≤ (k : Int) := by omega
      have i2 : (k : Int) < 8 := by omega
      by_cases c1 : x = r
      case neg =>
        have c1b : (x == r) = false := beq_eq_false_iff_ne.2 c1
        have HN := Lib.hid (HY.out.2 (.inr c1b))
        clear HY
        go_wp2
        go_roundw
        case rel => exact ⟨k + 1, by omega, by go_num, Lib.hid ⟨HB.out, HN.out⟩⟩
        case measure => simp [intOf]; omega
      subst c1
      by_cases c2 : x = 0
      · have c2b : (x != 0) = false := by simpa using c2
        have HN := Lib.hid (HY.out.2 (.inl c2b))
        clear HY c2
        go_wp2
        go_roundw
        case rel => exact ⟨k + 1, by omega, by go_num, Lib.hid ⟨HB.out, HN.out⟩⟩
        case measure => simp [intOf]; omega
      · have c2b : (x != 0) = true := by simpa using c2
        have HN := Lib.hid (HY.out.1 c2b (beq_self_eq_true x))
        clear HY
        go_wp2
        go_ret
        exact ⟨ret_bool HN.out.symm, HB.out.2⟩
    · obtain rfl : k = 8 := by omega
      have HN := Lib.hid (show V = false by have := HR.out.2; rw [HG.out] at this; have this : (r != 0 && (X.take 8).contains r) = false := this; rw [List.take_of_length_le (by rw [HX.out.1]; exact Nat.le_refl _)] at this; rw [HX.out.2, this])
      go_wp2
      go_ret
      exact ⟨ret_bool HN.out.symm, HR.out.1.2⟩
theorem am8 (r : Int) : (r != 0 && [112, 116, 107, 109, 110, 102, 108, 119].contains r) = pairs8.contains r := by
  by_cases h : r = 0
  · subst h; rfl
  · have : (r != 0) = true := by simpa using h
    rw [this]; rfl
theorem am3 (r : Int) : (r != 0 && [112, 116, 107, 0, 0, 0, 0, 0].contains r) = pairs3.contains r := by
  by_cases h : r = 0
  · subst h; rfl
  · have : (r != 0) = true := by simpa using h
    rw [this]
    simp [pairs3, h]
theorem am4 (r : Int) : (r != 0 && [108, 114, 106, 119, 0, 0, 0, 0].contains r) = pairs4.contains r := by
  by_cases h : r = 0
  · subst h; rfl
  · have : (r != 0) = true := by simpa using h
    rw [this]
    simp [pairs4, h]

set_option maxHeartbeats 8000000 in
set_option maxRecDepth 100000 in
theorem refOnset_any (A : Option Addr) (n c L B : Nat) (l : List Ph) (w : World) (h : Rd w L B 3 A n (phs l)) (hB : B ≤ w.heap.size) (hz : n ≤ maxLen) :
    Calls Try.prog 97 #[.slice A n c] w fun e w' => e = .returned (.bool (onsetF l)) ∧ Below w.heap.size w w' := by
  unfold maxLen at hz
  have HN := Lib.hid h.len_ph
  have H := Lib.hid h
  have HO := Lib.hid (show onsetF l = (l.all (onOne l.length) && onShape l) from rfl)
  clear h
  go_enter Try.func97, Try.ntmps97
  go_wp2
  go_loopw [3] (fun v wr => ∃ k : Nat, k ≤ n ∧ v = .int .i64 k ∧ Hid (Below w.heap.size w wr ∧ (l.take k).all (onOne l.length) = true)) (fun v _ => n - (intOf v).toNat)
  case atStart => exact ⟨0, by omega, rfl, Below.refl _ _, rfl⟩
  case round =>
    obtain ⟨k, hk, rfl, HR⟩ := hrel
    by_cases hlt : k < n
    · obtain ⟨b, o, hl, rfl, hL, hB2, x0, x1, x2⟩ := (H.out.below HR.out.1 hB).ph hlt
      have hsn : l.take (k + 1) = l.take k ++ [l[k]] := List.take_succ_eq_append_getElem hl
      have hno : onOne l.length l[k] = false → onsetF l = false := fun h => by
        rw [HO.out]
        have : l.all (onOne l.length) = false := by
          cases hh : l.all (onOne l.length) with
          | false => rfl
          | true => rw [List.all_eq_true.1 hh _ (List.getElem_mem hl)] at h; cases h
        rw [this]; rfl
      have hon : onOne l.length l[k] = (isF l[k] && !vowF l[k] && l[k].1 != 331 && !(decide (1 < n) && l[k].2.1)) := by
        unfold onOne; rw [HN.out]
      have HC := Lib.hid (fun (W : World) (hb : Below w.heap.size w W) => show W.cell? ⟨b, o + k * 3, none⟩ = some (.int .i32 l[k].1) ∧ W.cell? ⟨b, o + k * 3 + 1, none⟩ = some (.bool l[k].2.1) ∧ W.cell? ⟨b, o + k * 3 + 2, none⟩ = some (.int .i32 l[k].2.2) by
        obtain ⟨_, _, _, e, _, _, y0, y1, y2⟩ := (H.out.below hb hB).ph hlt
        cases e
        exact ⟨y0, y1, y2⟩)
      have hrl : (l.take (k + 1)).all (onOne l.length) = true ↔ onOne l.length l[k] = true := by rw [hsn, List.all_append, HR.out.2]; simp
      have HRL := Lib.hid hrl
      clear hrl hsn
      generalize l[k] = p at *
      have HSN := Lib.hid (And.intro hno hon)
      have HB0 := Lib.hid HR.out.1
      clear hno hL hB2 hon HR
      have i1 : (0 : Int) ≤ (k : Int) := by omega
      have i2 : (k : Int) < (n : Int) := by omega
      go_wp2_with fail
      refine (refIs_any p _).mono ?_
      rintro e w1 ⟨rfl, hb⟩
      have H1 := Lib.hid (HB0.out.trans (hb.mono HB0.out.size))
      clear hb x0 x1 x2 HB0
      obtain ⟨x0, x1, x2⟩ := HC.out _ H1.out
      have HON := Lib.hid HSN.out.2
      cases c1 : isF p with
      | false =>
        have HF := Lib.hid (HSN.out.1 (by rw [HON.out, c1]; rfl))
        go_wp2
        go_ret
        exact ⟨ret_bool HF.out.symm, H1.out⟩
      | true =>
      go_wp2_with fail
      refine (refVowel_any p _).mono ?_
      rintro e w2 ⟨rfl, hb⟩
      have H2 := Lib.hid (H1.out.trans (hb.mono H1.out.size))
      clear hb x0 x1 x2 H1
      obtain ⟨x0, x1, x2⟩ := HC.out _ H2.out
      cases c2 : vowF p with
      | true =>
        have HF := Lib.hid (HSN.out.1 (by rw [HON.out, c1, c2]; rfl))
        go_wp2
        go_ret
        exact ⟨ret_bool HF.out.symm, H2.out⟩
      | false =>
      cases c3 : (p.1 == 331) with
      | true =>
        have HF := Lib.hid (HSN.out.1 (by rw [HON.out, c1, c2]; have e : (p.1 != 331) = false := by (show (!(p.1 == 331)) = false; rw [c3]; rfl)
                                          rw [e]; rfl))
        go_wp2
        go_ret
        exact ⟨ret_bool HF.out.symm, H2.out⟩
      | false =>
      have c3' : (p.1 != 331) = true := by (show (!(p.1 == 331)) = true; rw [c3]; rfl)
      cases c4 : p.2.1 with
      | false =>
        rw [c4] at x1
        have HF := Lib.hid (show onOne l.length p = true by rw [HON.out, c1, c2, c3', c4]; simp)
        clear c4
        by_cases c5 : 1 < n
        · have c5' : decide ((1 : Int) < (n : Int)) = true := by simp; omega
          go_wp2
          go_roundw
          case rel => exact ⟨k + 1, by omega, by go_num, Lib.hid ⟨H2.out, HRL.out.2 HF.out⟩⟩
          case measure => simp [intOf]; omega
        · have c5' : decide ((1 : Int) < (n : Int)) = false := by simp; omega
          go_wp2
          go_roundw
          case rel => exact ⟨k + 1, by omega, by go_num, Lib.hid ⟨H2.out, HRL.out.2 HF.out⟩⟩
          case measure => simp [intOf]; omega
      | true =>
        rw [c4] at x1
        by_cases c5 : 1 < n
        · have c5' : decide ((1 : Int) < (n : Int)) = true := by simp; omega
          have HF := Lib.hid (HSN.out.1 (by rw [HON.out, c1, c2, c3', c4, decide_eq_true c5]; rfl))
          clear c4
          go_wp2
          go_ret
          exact ⟨ret_bool HF.out.symm, H2.out⟩
        · have c5' : decide ((1 : Int) < (n : Int)) = false := by simp; omega
          have HF := Lib.hid (show onOne l.length p = true by rw [HON.out, c1, c2, c3', c4, decide_eq_false c5]; rfl)
          clear c4
          go_wp2
          go_roundw
          case rel => exact ⟨k + 1, by omega, by go_num, Lib.hid ⟨H2.out, HRL.out.2 HF.out⟩⟩
          case measure => simp [intOf]; omega
    · have hkn : k = n := by omega
      subst hkn
      have HL := Lib.hid (show l.all (onOne l.length) = true by have := HR.out.2; rwa [List.take_of_length_le (by rw [HN.out]; exact Nat.le_refl _)] at this)
      obtain ⟨V, hV⟩ : ∃ V, V = onsetF l := ⟨_, rfl⟩
      have HVV := Lib.hid hV
      have HO2 := Lib.hid (show V = onShape l by rw [hV, HO.out, HL.out]; rfl)
      clear hV
      clear HO
      have hk2 : ¬ (k : Int) < (k : Int) := by omega
      obtain ⟨m, hm⟩ : ∃ m, m = l := ⟨l, rfl⟩
      have HN2 := Lib.hid (show m.length = k by rw [hm]; exact HN.out)
      have H2 := Lib.hid (show Rd w L B 3 A k (phs m) by rw [hm]; exact H.out)
      have HO3 := Lib.hid (show V = onShape m by rw [hm]; exact HO2.out)
      have HR2 := Lib.hid HR.out.1
      clear hm HN H HL HO2 HR
      match m, HN2, H2, HO3 with
      | [], HN, H, HO2 =>
        obtain rfl : k = 0 := by have := HN.out; simpa using this.symm
        clear hk2
        go_wp2
        go_ret
        exact ⟨ret_bool ((show true = V from HO2.out.symm).trans HVV.out), HR2.out⟩
      | [p], HN, H, HO2 =>
        obtain rfl : k = 1 := by have := HN.out; simpa using this.symm
        clear hk2
        go_wp2
        go_ret
        exact ⟨ret_bool ((show true = V from HO2.out.symm).trans HVV.out), HR2.out⟩
      | [p, q], HN, H, HO2 =>
        obtain rfl : k = 2 := by have := HN.out; simpa using this.symm
        have sp := son_le p
        have sq := son_le q
        obtain ⟨b, o, hl0, rfl, _, _, x0, x1, x2⟩ := (H.out.below HR2.out hB).ph (k := 0) (by omega)
        obtain ⟨_, _, hl1, e1, _, _, y0, y1, y2⟩ := (H.out.below HR2.out hB).ph (k := 1) (by omega)
        cases e1
        have HC2 := Lib.hid (fun (W : World) (hb : Below w.heap.size w W) => show W.cell? ⟨b, o, none⟩ = some (.int .i32 p.1) ∧ W.cell? ⟨b, o + 3, none⟩ = some (.int .i32 q.1) by
          obtain ⟨_, _, _, e, _, _, y0, _, _⟩ := (H.out.below hb hB).ph (k := 0) (by omega)
          cases e
          obtain ⟨_, _, _, e, _, _, z0, _, _⟩ := (H.out.below hb hB).ph (k := 1) (by omega)
          cases e
          simp only [List.getElem_cons_zero, List.getElem_cons_succ, Nat.zero_mul, Nat.one_mul, Nat.add_zero] at y0 z0
          exact ⟨y0, z0⟩)
        simp only [List.getElem_cons_zero, List.getElem_cons_succ, Nat.zero_mul, Nat.one_mul, Nat.add_zero] at x0 x1 x2 y0 y1 y2
        have HB := Lib.hid HR2.out
        have wf : ∀ k, Fence.wide.fn k := fun _ => trivial
        have wd : Fence.wide.depth = none := rfl
        have HO3 := Lib.hid (show V = (decide (2 ≤ sonF q - sonF p) || (p.1 == 115 && pairs8.contains q.1)) from HO2.out)
        clear HO2 H HN hl0 hl1 hk2
        generalize hC : pairs8.contains q.1 = C at *
        generalize hSp : sonF p = Sp at *
        generalize hSq : sonF q = Sq at *
        have hwr : IntKind.i64.wrap (Sq - Sp) = Sq - Sp := IntWalk.i64_in _ (by omega)
        have HC := Lib.hid (And.intro hC (And.intro hSp hSq))
        clear hC hSp hSq
        go_wp2
        have Xx0 := Bel.cell x0
        have Xx1 := Bel.cell x1
        have Xx2 := Bel.cell x2
        have Xy0 := Bel.cell y0
        have Xy1 := Bel.cell y1
        have Xy2 := Bel.cell y2
        clear x0 x1 x2 y0 y1 y2
        refine wp_bel (by kernel_rfl) (by kernel_rfl) ?_
        repeat (gi_big_quiet_step (fail))
        gi_big_quiet_want
        gi_big_quiet_op
        refine ⟨.int .i64 Sq, fun x => ?_, ?_⟩
        · exact callsIn_wide.2 ((refSon_any q x.1).mono (fun e w' h => ⟨by rw [← HC.out.2.2]; exact h.1, x.next h.2⟩))
        go_big_quiet_on
        repeat (gi_big_quiet_step (fail))
        gi_big_quiet_want
        gi_big_quiet_op
        refine ⟨.int .i64 Sp, fun x => ?_, ?_⟩
        · exact callsIn_wide.2 ((refSon_any p x.1).mono (fun e w' h => ⟨by rw [← HC.out.2.1]; exact h.1, x.next h.2⟩))
        go_big_quiet_on
        repeat (gi_big_quiet_step (fail))
        refine wpQuietIn_nil ?_
        intro _ hw'
        obtain ⟨xW, hw''⟩ := hw'
        subst hw''
        obtain ⟨W3, hb3⟩ := xW
        dsimp only
        have HZ := Lib.hid (HB.out.trans (hb3.mono HB.out.size))
        clear hb3 Xx0 Xx1 Xx2 Xy0 Xy1 Xy2
        obtain ⟨x0, y0⟩ := HC2.out _ HZ.out
        by_cases d : 2 ≤ Sq - Sp
        · have d1 : decide ((2 : Int) ≤ Sq - Sp) = true := by simpa using d
          have HV := Lib.hid (show V = true by rw [HO3.out, d1]; rfl)
          clear HO3
          go_wp2
          go_ret
          exact ⟨ret_bool (HV.out.symm.trans HVV.out), HZ.out⟩
        have d1 : decide ((2 : Int) ≤ Sq - Sp) = false := by simpa using d
        cases hs : (p.1 == 115) with
        | true =>
          have HV := Lib.hid (show V = C by rw [HO3.out, d1, hs]; rfl)
          clear HO3
          go_wp2_with fail
          refine (among_any q.1 112 116 107 109 110 102 108 119 _).mono ?_
          rintro e w5 ⟨rfl, hb⟩
          rw [am8, HC.out.1]
          have HZ2 := Lib.hid (HZ.out.trans (hb.mono HZ.out.size))
          clear hb
          go_wp2
          go_ret
          exact ⟨ret_bool (HV.out.symm.trans HVV.out), HZ2.out⟩
        | false =>
          have HV := Lib.hid (show V = false by rw [HO3.out, d1, hs]; rfl)
          clear HO3
          go_wp2
          go_ret
          exact ⟨ret_bool (HV.out.symm.trans HVV.out), HZ.out⟩
      | [p, q, r], HN, H, HO2 =>
        obtain rfl : k = 3 := by have := HN.out; simpa using this.symm
        obtain ⟨b, o, hl0, rfl, _, hbB, x0, x1, x2⟩ := (H.out.below HR2.out hB).ph (k := 0) (by omega)
        obtain ⟨_, _, hl1, e1, _, _, y0, y1, y2⟩ := (H.out.below HR2.out hB).ph (k := 1) (by omega)
        cases e1
        obtain ⟨_, _, hl2, e2, _, _, z0, z1, z2⟩ := (H.out.below HR2.out hB).ph (k := 2) (by omega)
        cases e2
        simp only [List.getElem_cons_zero, List.getElem_cons_succ, Nat.zero_mul, Nat.one_mul, Nat.add_zero] at x0 x1 x2 y0 y1 y2 z0 z1 z2
        have HB := Lib.hid HR2.out
        have HO3 := Lib.hid (show V = (p.1 == 115 && pairs3.contains q.1 && pairs4.contains r.1) from HO2.out)
        clear HO2 H HN hl0 hl1 hl2 hk2
        generalize hC : pairs3.contains q.1 = C at *
        generalize hD : pairs4.contains r.1 = D at *
        have HC := Lib.hid (And.intro hC hD)
        clear hC hD
        cases hs : (p.1 == 115) with
        | false =>
          have HV := Lib.hid (show V = false by rw [HO3.out, hs]; rfl)
          clear HO3
          go_wp2
          go_ret
          exact ⟨ret_bool (HV.out.symm.trans HVV.out), HB.out⟩
        | true =>
        have bl : b < wr.heap.size := by have := HB.out.size; omega
        go_wp2_with fail
        refine (among_any q.1 112 116 107 0 0 0 0 0 _).mono ?_
        rintro e w1 ⟨rfl, hb⟩
        rw [am3, HC.out.1]
        have v0 := (hb.cell (p := ⟨b, o + 2 * 3, none⟩) bl).trans z0
        have HB1 := Lib.hid (HB.out.trans (hb.mono HB.out.size))
        clear hb x0 x1 x2 y0 y1 y2 z0 z1 z2
        cases C with
        | false =>
          have HV := Lib.hid (show V = false by rw [HO3.out, hs]; rfl)
          clear HO3
          go_wp2
          go_ret
          exact ⟨ret_bool (HV.out.symm.trans HVV.out), HB1.out⟩
        | true =>
          have HV := Lib.hid (show V = D by rw [HO3.out, hs]; rfl)
          clear HO3
          go_wp2_with fail
          refine (among_any r.1 108 114 106 119 0 0 0 0 _).mono ?_
          rintro e w2 ⟨rfl, hb⟩
          rw [am4, HC.out.2]
          have HB2 := Lib.hid (HB1.out.trans (hb.mono HB1.out.size))
          clear hb v0
          go_wp2
          go_ret
          exact ⟨ret_bool (HV.out.symm.trans HVV.out), HB2.out⟩
      | p :: q :: r :: s :: t, HN, H, HO2 =>
        have h4 : 4 ≤ k := by have := HN.out; simp at this; omega
        have d0 : ((k : Int) == 0) = false := by simp; omega
        have d1 : ((k : Int) == 1) = false := by simp; omega
        have d2 : ((k : Int) == 2) = false := by simp; omega
        have d3 : ((k : Int) == 3) = false := by simp; omega
        clear h4 hk2
        go_wp2
        go_ret
        exact ⟨ret_bool ((show false = V from HO2.out.symm).trans HVV.out), HR2.out⟩
end Go.Proofs.Ytogofchpocoebaa
