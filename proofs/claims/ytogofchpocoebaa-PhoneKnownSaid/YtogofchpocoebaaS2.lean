/- slices.Equal and slices.Clone at phones; the reference's All, Text and Print.
   The reference's Wrong; phone.Within.
   The reference's Costs: words. -/
import Derived.Test.YtogofchpocoebaaR1
import Derived.Test.YtogofchpocoebaaQ6
import Derived.BigQuiet
import Derived.Test.YtogofchpocoebaaQ11
import Derived.Test.YtogofchpocoebaaMem
namespace Go.Proofs.Ytogofchpocoebaa
open Go.RowKit Go.Maps

theorem bdrawn {B : Nat} {w w' : World} (h : Below B w w') (n : Nat) : Below B w (w'.drewN n) := ⟨h.os, h.tape, h.output, h.size, h.block⟩
theorem drop_atP (l : List Ph) (k : Nat) (h : k < l.length) : l.drop k = l[k] :: l.drop (k + 1) := List.drop_eq_getElem_cons h

set_option maxHeartbeats 2000000 in
theorem equalH_any (A B : Option Addr) (n c m d L1 L2 B1 B2 : Nat) (l1 l2 : List Ph) (w : World)
    (h1 : Rd w L1 B1 3 A n (phs l1)) (h2 : Rd w L2 B2 3 B m (phs l2)) (e1 : n ≤ maxLen) (e2 : m ≤ maxLen) (z1 : B1 ≤ w.heap.size) (z2 : B2 ≤ w.heap.size) :
    Calls Try.prog 49 #[.slice A n c, .slice B m d] w fun e w' => e = .returned (.bool (decide (l1 = l2))) ∧ Below w.heap.size w w' := by
  unfold maxLen at e1 e2
  have Q := Lib.hid (And.intro h1.len_ph h2.len_ph)
  have H1 := Lib.hid h1
  have H2 := Lib.hid h2
  clear h1 h2
  by_cases hn : n = m
  · subst hn
    have hb1 : ((n : Int) != (n : Int)) = false := by simp
    go_enter Try.func49, Try.ntmps49
    go_wp2
    go_loopw [13] (fun v wr => ∃ k : Nat, k ≤ n ∧ v = .int .i64 k ∧ Hid (Below w.heap.size w wr ∧ decide (l1 = l2) = decide (l1.drop k = l2.drop k))) (fun v _ => n - (intOf v).toNat)
    case atStart => exact ⟨0, by omega, rfl, Below.refl _ _, rfl⟩
    case round =>
      obtain ⟨k, hk, rfl, H⟩ := hrel
      by_cases hlt : k < n
      · obtain ⟨b, o, hl, rfl, hL, hB, p1, p2, p5⟩ := H1.out.ph hlt
        obtain ⟨b', o', hl', rfl, hL', hB', p3, p4, p6⟩ := H2.out.ph hlt
        generalize hx : l1[k] = x at p1 p2 p5
        generalize hy : l2[k] = y at p3 p4 p6
        obtain ⟨x1, x2, x3⟩ := x
        obtain ⟨y1, y2, y3⟩ := y
        have r1 := (H.out.1.cell (p := ⟨b, o + k * 3, none⟩) (Nat.lt_of_lt_of_le hB z1)).trans p1
        have r2 := (H.out.1.cell (p := ⟨b, o + k * 3 + 1, none⟩) (Nat.lt_of_lt_of_le hB z1)).trans p2
        have r5 := (H.out.1.cell (p := ⟨b, o + k * 3 + 2, none⟩) (Nat.lt_of_lt_of_le hB z1)).trans p5
        have r3 := (H.out.1.cell (p := ⟨b', o' + k * 3, none⟩) (Nat.lt_of_lt_of_le hB' z2)).trans p3
        have r4 := (H.out.1.cell (p := ⟨b', o' + k * 3 + 1, none⟩) (Nat.lt_of_lt_of_le hB' z2)).trans p4
        have r6 := (H.out.1.cell (p := ⟨b', o' + k * 3 + 2, none⟩) (Nat.lt_of_lt_of_le hB' z2)).trans p6
        have hde : decide (l1.drop k = l2.drop k) = (decide ((x1, x2, x3) = (y1, y2, y3)) && decide (l1.drop (k + 1) = l2.drop (k + 1))) := by
          rw [drop_atP l1 k hl, drop_atP l2 k hl', hx, hy]
          simp [Bool.and_assoc, List.cons.injEq]
        have HDE := Lib.hid hde
        have i1 : (0 : Int) ≤ (k : Int) := by omega
        have i2 : (k : Int) < (n : Int) := by omega
        clear hde hx hy p1 p2 p3 p4 p5 p6
        by_cases g1 : x1 = y1
        · subst g1
          by_cases g2 : x2 = y2
          · subst g2
            by_cases g3 : x3 = y3
            · subst g3
              go_wp2
              go_quiet (fail)
              go_wp2
              go_roundw
              case rel => exact ⟨k + 1, by omega, by go_num, Lib.hid ⟨bdrawn H.out.1 _, by rw [H.out.2, HDE.out]; simp⟩⟩
              case measure => simp [intOf]; omega
            · go_wp2
              go_quiet (fail)
              go_wp2
              go_ret
              exact ⟨ret_bool (by rw [H.out.2, HDE.out]; simp [g3]), bdrawn H.out.1 _⟩
          · go_wp2
            go_quiet (fail)
            go_wp2
            go_ret
            exact ⟨ret_bool (by rw [H.out.2, HDE.out]; simp [g2]), bdrawn H.out.1 _⟩
        · go_wp2
          go_quiet (fail)
          go_wp2
          go_ret
          exact ⟨ret_bool (by rw [H.out.2, HDE.out]; simp [g1]), bdrawn H.out.1 _⟩
      · have hkn : k = n := by omega
        subst hkn
        have HL := Lib.hid (show decide (l1 = l2) = true by rw [H.out.2, List.drop_of_length_le (by rw [Q.out.1]; exact Nat.le_refl _), List.drop_of_length_le (by rw [Q.out.2]; exact Nat.le_refl _)]; rfl)
        go_wp2
        go_ret
        exact ⟨ret_bool HL.out.symm, H.out.1⟩
  · have hs : decide (l1 = l2) = false := by
      simp only [decide_eq_false_iff_not]
      intro hh; apply hn; rw [← Q.out.1, ← Q.out.2, hh]
    have hb1 : ((n : Int) != (m : Int)) = true := by simp; omega
    have HS := Lib.hid hs
    clear hs hn
    go_enter Try.func49, Try.ntmps49
    go_wp2
    go_ret
    exact ⟨ret_bool HS.out.symm, Below.refl _ _⟩

theorem info43' : (Try.prog.info? 43).map (fun i => (i.zero, i.size, i.bytes)) = some (some (.agg #[.int .i32 0, .bool false, .int .i32 0]), 3, 12) := by kernel_rfl

set_option maxHeartbeats 1000000 in
set_option maxRecDepth 100000 in
theorem cloneH_any (A : Option Addr) (n c L B : Nat) (ls : List Ph) (w : World) (h : Rd w L B 3 A n (phs ls)) (hn : n * 12 ≤ 140737488351232) :
    Calls Try.prog 46 #[.slice A n c] w fun e w' => ∃ A' C', e = .returned (.slice A' n C') ∧ w'.ownsRow w.heap.size 43 3 (.slice A' n C') n (phs ls) ∧ Below w.heap.size w w' := by
  have q23 : ∀ (w : World) (a : Option Addr) (n c n' c' : Nat), (binOp .eql 22 (.slice a n c) (.slice none n' c')).run Try.prog w = .ok (.bool a.isNone) w := fun w a n c n' c' => Lib.run_eql_slice_nil w _ _ a n c n' c' Try.underlying22
  have u23 : ∀ w, Sem.run Try.prog (underlying 22) w = .ok (TypeDesc.slice 43) w := run_underlying Try.underlying22
  have H := Lib.hid h
  clear h
  cases A with
  | none =>
    have hn0 : n = 0 := by
      rcases Nat.eq_zero_or_pos n with h0 | h0
      · exact h0
      · obtain ⟨_, _, e, _⟩ := H.out.2 h0; cases e
    subst hn0
    have hl : phs ls = [] := List.eq_nil_of_length_eq_zero (by have := H.out.1; omega)
    rw [hl]
    go_enter Try.func46, Try.ntmps46
    go_wp2
    go_ret
    exact ⟨none, 0, rfl, World.ownsRow_nil _ _ _ _, Below.refl _ _⟩
  | some ad =>
    obtain ⟨j0, hj, jz0, jz1, jz2⟩ := info_parts info43'
    go_enter Try.func46, Try.ntmps46
    go_wp2_with (at_builtin; refine wpList_append_own _ rfl _ _ 22 rfl w.heap.size 43 j0 (.agg #[.int .i32 0, .bool false, .int .i32 0]) 3 12 Try.underlying22 hj jz0 jz1 jz2 rfl (by decide) _ _ _ rfl (World.ownsRow_made w #[] 0 (Nat.le_refl _) (Nat.zero_le _) rfl) ad n c (phs ls) rfl ?qc1 ?qc2 ?qc3 ?qc4 ?qc5 ?qc6 ?_)
    case qc1 => exact H.out.1
    case qc2 =>
      intro j u hu
      exact Lib.cell?_alloc_some _ (H.out.at_add j u hu)
    case qc3 => exact phs_one ls
    case qc4 => unfold maxLen; omega
    case qc5 => omega
    case qc6 => simp
    intro v' w1 hown hgrow hnil
    obtain ⟨A', C', rfl⟩ := own_slice hown
    go_wp2
    go_ret
    exact ⟨A', C', rfl, by simpa using hown, ((Below.refl _ w).alloc (Nat.le_refl _) _).grown hgrow (by simp) (by intro k hk; simp [Value.ownBlock] at hk; omega)⟩

set_option maxHeartbeats 1000000 in
theorem refAll_any (A : Option Addr) (n c L B : Nat) (l : List Ph) (w : World) (h : Rd w L B 3 A n (phs l)) (hB : B ≤ w.heap.size) (hz : n ≤ maxLen) :
    Calls Try.prog 121 #[.slice A n c] w fun e w' => e = .returned (.bool (l.all isF)) ∧ Below w.heap.size w w' := by
  unfold maxLen at hz
  have HN := Lib.hid h.len_ph
  have H := Lib.hid h
  clear h
  go_enter Try.func121, Try.ntmps121
  go_wp2
  go_loopw [3] (fun v wr => ∃ k : Nat, k ≤ n ∧ v = .int .i64 k ∧ Hid (Below w.heap.size w wr ∧ (l.take k).all isF = true)) (fun v _ => n - (intOf v).toNat)
  case atStart => exact ⟨0, by omega, rfl, Below.refl _ _, rfl⟩
  case round =>
    obtain ⟨k, hk, rfl, HR⟩ := hrel
    by_cases hlt : k < n
    · obtain ⟨b, o, hl, rfl, hL, hB2, x0, x1, x2⟩ := (H.out.below HR.out.1 hB).ph hlt
      have hsn : l.take (k + 1) = l.take k ++ [l[k]] := List.take_succ_eq_append_getElem hl
      have hal : l.all isF = true → isF l[k] = true := fun h => List.all_eq_true.1 h _ (List.getElem_mem hl)
      generalize l[k] = p at *
      have HSN := Lib.hid (And.intro hsn hal)
      clear hsn hal hL hB2
      have i1 : (0 : Int) ≤ (k : Int) := by omega
      have i2 : (k : Int) < (n : Int) := by omega
      go_wp2_with fail
      refine (refIs_any p _).mono ?_
      rintro e wz ⟨rfl, hb⟩
      have HX := Lib.hid (HR.out.1.trans (hb.mono HR.out.1.size))
      clear hb
      cases hF : isF p with
      | false =>
        have HF := Lib.hid (show l.all isF = false by
          cases hh : l.all isF with
          | false => rfl
          | true => rw [HSN.out.2 hh] at hF; cases hF)
        clear hF
        go_wp2
        go_ret
        exact ⟨ret_bool HF.out.symm, HX.out⟩
      | true =>
        have HF := Lib.hid hF
        clear hF
        go_wp2
        go_roundw
        case rel => exact ⟨k + 1, by omega, by go_num, Lib.hid ⟨HX.out, by rw [HSN.out.1, List.all_append, HR.out.2]; simp [HF.out]⟩⟩
        case measure => simp [intOf]; omega
    · have hkn : k = n := by omega
      subst hkn
      have HL := Lib.hid (show l.all isF = true by have := HR.out.2; rwa [List.take_of_length_le (by rw [HN.out]; exact Nat.le_refl _)] at this)
      go_wp2
      go_ret
      exact ⟨ret_bool HL.out.symm, HR.out.1⟩

theorem enc_bts (r : Int) : Utf8.encode r = bts (encL r) := rfl
set_option maxHeartbeats 1000000 in
theorem refText_any (p : Ph) (w : World) : Calls Try.prog 112 #[.agg #[.int .i32 p.1, .bool p.2.1, .int .i32 p.2.2]] w fun e w' => e = .returned (.string (bts (textP p))) ∧ Below w.heap.size w w' := by
  have g1 : (⟨#[203, 144]⟩ : ByteArray).size = 2 := rfl
  have g2 : (⟨#[204, 175]⟩ : ByteArray).size = 2 := rfl
  have z1 := encode_size_le p.1
  have z2 := encode_size_le p.2.2
  have q1 : ∀ W : World, Sem.run Try.prog (Op.stringOp .add (Utf8.encode p.1) ⟨#[203, 144]⟩) W = .ok (.string (Utf8.encode p.1 ++ ⟨#[203, 144]⟩)) W := fun W => run_string_add_sum W _ _ (by rw [g1]; omega)
  have q2 : ∀ W : World, Sem.run Try.prog (Op.stringOp .add (Utf8.encode p.2.2) ⟨#[204, 175]⟩) W = .ok (.string (Utf8.encode p.2.2 ++ ⟨#[204, 175]⟩)) W := fun W => run_string_add_sum W _ _ (by rw [g2]; omega)
  have q3 : ∀ W : World, Sem.run Try.prog (Op.stringOp .add (Utf8.encode p.1 ++ ⟨#[203, 144]⟩) (Utf8.encode p.2.2 ++ ⟨#[204, 175]⟩)) W = .ok (.string ((Utf8.encode p.1 ++ ⟨#[203, 144]⟩) ++ (Utf8.encode p.2.2 ++ ⟨#[204, 175]⟩))) W := fun W => run_string_add_sum W _ _ (by simp only [ByteArray.size_append, g1, g2]; omega)
  have q4 : ∀ W : World, Sem.run Try.prog (Op.stringOp .add (Utf8.encode p.1) (Utf8.encode p.2.2 ++ ⟨#[204, 175]⟩)) W = .ok (.string (Utf8.encode p.1 ++ (Utf8.encode p.2.2 ++ ⟨#[204, 175]⟩))) W := fun W => run_string_add_sum W _ _ (by simp only [ByteArray.size_append, g2]; omega)
  clear z1 z2 g1 g2
  have HT := Lib.hid (show textP p = encL p.1 ++ (if p.2.1 then longL else []) ++ (if p.2.2 = 0 then [] else encL p.2.2 ++ glideL) from rfl)
  go_enter Try.func112, Try.ntmps112
  go_upto_region 1 with (fail)
  refine wp_abs (fun wx => Below w.heap.size w wx ∧ Blk wx w.heap.size 43 #[.int .i32 p.1, .bool p.2.1, .int .i32 p.2.2]) ⟨(Below.refl _ _).alloc (Nat.le_refl _) _, Blk.new _ _ _⟩ ?_
  generalize hpb : w.heap.size = pb
  rintro wx ⟨hb, hx⟩
  rw [← hpb] at hb
  have c0 : wx.cell? ⟨pb, 0, none⟩ = some (.int .i32 p.1) := hx.cell 0
  have c1 : wx.cell? ⟨pb, 1, none⟩ = some (.bool p.2.1) := hx.cell 1
  have c2 : wx.cell? ⟨pb, 2, none⟩ = some (.int .i32 p.2.2) := hx.cell 2
  have HX := Lib.hid hb
  have HPB := Lib.hid hpb
  clear hb hx hpb
  cases hlg : p.2.1 with
  | true =>
    rw [hlg] at c1
    by_cases hg : p.2.2 = 0
    · have hgb : (p.2.2 != 0) = false := by rw [hg]; rfl
      have HV := Lib.hid (show Utf8.encode p.1 ++ ⟨#[203, 144]⟩ = bts (textP p) by rw [HT.out, hlg, if_pos hg, enc_bts]; simp [longL, ← bts_append]; rfl)
      clear hg
      go_wp2
      go_ret
      exact ⟨congrArg (fun s => Ending.returned (Value.string s)) HV.out, HX.out⟩
    · have hgb : (p.2.2 != 0) = true := by simpa using hg
      have HV := Lib.hid (show (Utf8.encode p.1 ++ ⟨#[203, 144]⟩) ++ (Utf8.encode p.2.2 ++ ⟨#[204, 175]⟩) = bts (textP p) by rw [HT.out, hlg, if_neg hg, enc_bts, enc_bts]; simp only [longL, glideL, ← bts_append, if_true]; rfl)
      clear hg
      go_wp2
      go_ret
      exact ⟨congrArg (fun s => Ending.returned (Value.string s)) HV.out, HX.out⟩
  | false =>
    rw [hlg] at c1
    by_cases hg : p.2.2 = 0
    · have hgb : (p.2.2 != 0) = false := by rw [hg]; rfl
      have HV := Lib.hid (show Utf8.encode p.1 = bts (textP p) by rw [HT.out, hlg, if_pos hg, enc_bts]; simp)
      clear hg
      go_wp2
      go_ret
      exact ⟨congrArg (fun s => Ending.returned (Value.string s)) HV.out, HX.out⟩
    · have hgb : (p.2.2 != 0) = true := by simpa using hg
      have HV := Lib.hid (show Utf8.encode p.1 ++ (Utf8.encode p.2.2 ++ ⟨#[204, 175]⟩) = bts (textP p) by rw [HT.out, hlg, if_neg hg, enc_bts, enc_bts]; simp [glideL, ← bts_append]; rfl)
      clear hg
      go_wp2
      go_ret
      exact ⟨congrArg (fun s => Ending.returned (Value.string s)) HV.out, HX.out⟩

set_option maxHeartbeats 1000000 in
theorem refPrint_any (A : Option Addr) (n c L B : Nat) (l : List Ph) (w : World) (h : Rd w L B 3 A n (phs l)) (hB : B ≤ w.heap.size) (hz : n ≤ maxLen) :
    Calls Try.prog 48 #[.slice A n c] w fun e w' => e = .returned (.tuple #[.string (prS l), .int .i64 (prE l)]) ∧ Below w.heap.size w w' := by
  have hz' := hz
  unfold maxLen at hz
  have HN := Lib.hid h.len_ph
  have H := Lib.hid h
  clear h
  by_cases hlong : 128 < n
  · have he : prE l = 3 := by unfold prE; rw [if_pos (by rw [HN.out]; exact hlong)]
    have HV := Lib.hid (And.intro he (show prS l = bts [] by unfold prS; rw [he]; rfl))
    clear he
    have hd : decide ((128 : Int) < (n : Int)) = true := by simp; omega
    go_enter Try.func48, Try.ntmps48
    go_wp2
    go_ret2
    exact ⟨by rw [HV.out.1, HV.out.2]; rfl, Below.refl _ _⟩
  · have hd : decide ((128 : Int) < (n : Int)) = false := by simp; omega
    go_enter Try.func48, Try.ntmps48
    go_wp2_with fail
    refine (refAll_any A n c L B l _ H.out hB hz').mono ?_
    rintro e w1 ⟨rfl, hb⟩
    have H1 := Lib.hid hb
    clear hb
    cases hF : l.all isF with
    | false =>
      have he : prE l = 2 := by unfold prE; rw [if_neg (by rw [HN.out]; omega), hF]; rfl
      have HV := Lib.hid (And.intro he (show prS l = bts [] by unfold prS; rw [he]; rfl))
      clear he hF
      go_wp2
      go_ret2
      exact ⟨by rw [HV.out.1, HV.out.2]; rfl, H1.out⟩
    | true =>
      have he : prE l = 0 := by unfold prE; rw [if_neg (by rw [HN.out]; omega), hF]; rfl
      have HV := Lib.hid (And.intro he (show prS l = bts (texts l) by unfold prS; rw [he]; rfl))
      have HF := Lib.hid hF
      clear he hF
      go_wp2
      go_loopw [4, 5] (fun sv v wr => ∃ k : Nat, k ≤ n ∧ v = .int .i64 k ∧ Hid (Below w.heap.size w wr ∧ sv = .string (bts (texts (l.take k))))) (fun _ v _ => n - (intOf v).toNat)
      case atStart => exact ⟨0, by omega, rfl, Lib.hid ⟨H1.out, rfl⟩⟩
      case round =>
        obtain ⟨k, hk, rfl, HR⟩ := hrel
        have hsv := HR.out.2
        subst hsv
        by_cases hlt : k < n
        · obtain ⟨b, o, hl, rfl, hL, hB2, x0, x1, x2⟩ := (H.out.below HR.out.1 hB).ph hlt
          have hsn : texts (l.take (k + 1)) = texts (l.take k) ++ textP l[k] := by rw [List.take_succ_eq_append_getElem hl, texts_snoc]
          have b1 := texts_len (l.take k) (List.all_eq_true.2 fun x hx => List.all_eq_true.1 HF.out x (List.mem_of_mem_take hx))
          have b2 := textP_len (List.all_eq_true.1 HF.out _ (List.getElem_mem hl))
          rw [List.length_take] at b1
          generalize l[k] = p at *
          have q1 : ∀ W : World, Sem.run Try.prog (Op.stringOp .add (bts (texts (l.take k))) (bts (textP p))) W = .ok (.string (bts (texts (l.take k)) ++ bts (textP p))) W := fun W => run_string_add_sum W _ _ (by simp only [bts_size]; omega)
          have HSN := Lib.hid hsn
          clear hsn hL hB2 b1 b2
          have i1 : (0 : Int) ≤ (k : Int) := by omega
          have i2 : (k : Int) < (n : Int) := by omega
          go_wp2_with fail
          refine (refText_any p _).mono ?_
          rintro e wz ⟨rfl, hb⟩
          have HX := Lib.hid (HR.out.1.trans (hb.mono HR.out.1.size))
          clear hb
          go_wp2
          go_roundw
          case rel => exact ⟨k + 1, by omega, by go_num, Lib.hid ⟨HX.out, by rw [HSN.out, ← bts_append]⟩⟩
          case measure => simp [intOf]; omega
        · have hkn : k = n := by omega
          subst hkn
          have HL := Lib.hid (show texts (l.take k) = texts l by rw [List.take_of_length_le (by rw [HN.out]; exact Nat.le_refl _)])
          go_wp2
          go_ret2
          exact ⟨by rw [HV.out.1, HV.out.2, ← HL.out]; rfl, HR.out.1⟩
end Go.Proofs.Ytogofchpocoebaa

namespace Go.Proofs.Ytogofchpocoebaa
open Go.RowKit Go.Maps

theorem wrong_any (A B : Option Addr) (la ca lb cb L1 B1 L2 B2 : Nat) (a b : List Ph) (w : World) (ra : Rd w L1 B1 3 A la (phs a)) (rb : Rd w L2 B2 3 B lb (phs b)) (z1 : B1 ≤ w.heap.size) (z2 : B2 ≤ w.heap.size) :
    Calls Try.prog 132 #[.slice A la ca, .slice B lb cb] w fun e w' => e = .returned (.int .i64 (dsE a b)) ∧ Below w.heap.size w w' := by
  have ea := ra.len_ph
  have eb := rb.len_ph
  have HE := Lib.hid (show dsE a b = if 128 < a.length ∨ 128 < b.length then 3 else if a.all isF && b.all isF then 0 else 2 from rfl)
  have HR := Lib.hid (And.intro ra rb)
  by_cases h1 : 128 < la
  · have d1 : decide ((128 : Int) < (la : Int)) = true := by simp; omega
    have HV := Lib.hid (show dsE a b = 3 by rw [HE.out, if_pos (by omega)])
    clear ra rb HE h1
    go_enter Try.func132, Try.ntmps132
    go_wp2
    go_ret
    exact ⟨ret_int HV.out.symm, Below.refl _ _⟩
  · have d1 : decide ((128 : Int) < (la : Int)) = false := by simp; omega
    by_cases h2 : 128 < lb
    · have d2 : decide ((128 : Int) < (lb : Int)) = true := by simp; omega
      have HV := Lib.hid (show dsE a b = 3 by rw [HE.out, if_pos (by omega)])
      clear ra rb HE h1
      go_enter Try.func132, Try.ntmps132
      go_wp2
      go_ret
      exact ⟨ret_int HV.out.symm, Below.refl _ _⟩
    · have d2 : decide ((128 : Int) < (lb : Int)) = false := by simp; omega
      have HV := Lib.hid (show dsE a b = if a.all isF && b.all isF then 0 else 2 by rw [HE.out, if_neg (by omega)])
      have m1 : la ≤ maxLen := by unfold maxLen; omega
      have m2 : lb ≤ maxLen := by unfold maxLen; omega
      have HM := Lib.hid (And.intro m1 m2)
      clear ra rb HE m1 m2 ea eb h1 h2
      go_enter Try.func132, Try.ntmps132
      go_wp2_with fail
      refine (refAll_any A la ca L1 B1 a _ HR.out.1 z1 HM.out.1).mono ?_
      rintro e w1 ⟨rfl, hb⟩
      have H1 := Lib.hid hb
      clear hb
      cases hA : a.all isF with
      | false =>
        have HW := Lib.hid (show dsE a b = 2 by rw [HV.out, hA]; rfl)
        clear hA
        go_wp2
        go_ret
        exact ⟨ret_int HW.out.symm, H1.out⟩
      | true =>
        go_wp2_with fail
        refine (refAll_any B lb cb L2 B2 b _ (HR.out.2.below H1.out z2) (Nat.le_trans z2 H1.out.size) HM.out.2).mono ?_
        rintro e w2 ⟨rfl, hb⟩
        have H2 := Lib.hid (H1.out.trans (hb.mono H1.out.size))
        clear hb
        cases hB : b.all isF with
        | false =>
          have HW := Lib.hid (show dsE a b = 2 by rw [HV.out, hA, hB]; rfl)
          clear hA hB
          go_wp2
          go_ret
          exact ⟨ret_int HW.out.symm, H2.out⟩
        | true =>
          have HW := Lib.hid (show dsE a b = 0 by rw [HV.out, hA, hB]; rfl)
          clear hA hB
          go_wp2
          go_ret
          exact ⟨ret_int HW.out.symm, H2.out⟩

/-- Within's answers -/
def wiE (a b : List Ph) (most : Int) : Int := if dsE a b = 0 then if most < 0 then 2 else 0 else dsE a b
def wiB (a b : List Ph) (most : Int) : Bool := decide (dsE a b = 0) && decide (0 ≤ most) && decide (costF a b ≤ most)
def wiV (a b : List Ph) (most : Int) : Int := if wiB a b most then costF a b else 0

theorem within_any (A B : Option Addr) (la ca lb cb L1 L2 : Nat) (a b : List Ph) (most : Int) (w : World) (ra : Rd w L1 w.heap.size 3 A la (phs a)) (rb : Rd w L2 w.heap.size 3 B lb (phs b)) (fa : ∀ p ∈ a, fitP p) (fb : ∀ p ∈ b, fitP p) :
    Calls Try.prog 66 #[.slice A la ca, .slice B lb cb, .int .i64 most] w fun e w' => e = .returned (.tuple #[.int .i64 (wiV a b most), .bool (wiB a b most), .int .i64 (wiE a b most)]) ∧ Below w.heap.size w w' := by
  have HV := Lib.hid (And.intro (show wiE a b most = if dsE a b = 0 then if most < 0 then 2 else 0 else dsE a b from rfl) (And.intro (show wiB a b most = (decide (dsE a b = 0) && decide (0 ≤ most) && decide (costF a b ≤ most)) from rfl) (And.intro (show wiV a b most = if wiB a b most then costF a b else 0 from rfl) (show dsV a b = if dsE a b = 0 then costF a b else 0 from rfl))))
  have HR := Lib.hid (And.intro (And.intro ra rb) (And.intro fa fb))
  clear ra rb fa fb
  go_enter Try.func66, Try.ntmps66
  go_wp2_with fail
  refine (distance_any A B la ca lb cb L1 L2 a b _ HR.out.1.1 HR.out.1.2 HR.out.2.1 HR.out.2.2).mono ?_
  rintro e w1 ⟨rfl, hb⟩
  have H1 := Lib.hid hb
  clear hb
  by_cases he : dsE a b = 0
  · obtain ⟨v1, v2, v3, v4⟩ := HV.out
    rw [if_pos he] at v1 v4
    rw [decide_eq_true he] at v2
    simp only [Bool.true_and] at v2
    rw [he, v4]
    by_cases hm : most < 0
    · have d1 : decide (most < 0) = true := by simpa using hm
      rw [if_pos hm] at v1
      rw [decide_eq_false (show ¬ 0 ≤ most by omega), Bool.false_and] at v2
      rw [v2] at v3
      have HW := Lib.hid (And.intro v1 (And.intro v2 v3))
      clear v1 v2 v3 v4 he hm
      go_wp2
      refine bodyPost_ret (v := .tuple #[.int .i64 0, .bool false, .int .i64 2]) (by simp [results, Try.results66, go_sem]) rfl ?_
      exact ⟨by rw [HW.out.1, HW.out.2.1, HW.out.2.2]; rfl, H1.out⟩
    · have d1 : decide (most < 0) = false := by simpa using hm
      rw [if_neg hm] at v1
      rw [decide_eq_true (show 0 ≤ most by omega), Bool.true_and] at v2
      by_cases hc : costF a b ≤ most
      · have d2 : decide (most < costF a b) = false := by simp; omega
        rw [decide_eq_true hc] at v2
        rw [v2] at v3
        have HW := Lib.hid (And.intro v1 (And.intro v2 v3))
        clear v1 v2 v3 v4 he hm
        go_wp2
        refine bodyPost_ret (v := .tuple #[.int .i64 (costF a b), .bool true, .int .i64 0]) (by simp [results, Try.results66, go_sem]) rfl ?_
        exact ⟨by rw [HW.out.1, HW.out.2.1, HW.out.2.2]; rfl, H1.out⟩
      · have d2 : decide (most < costF a b) = true := by simp; omega
        rw [decide_eq_false hc] at v2
        rw [v2] at v3
        have HW := Lib.hid (And.intro v1 (And.intro v2 v3))
        clear v1 v2 v3 v4 he hm
        go_wp2
        refine bodyPost_ret (v := .tuple #[.int .i64 0, .bool false, .int .i64 0]) (by simp [results, Try.results66, go_sem]) rfl ?_
        exact ⟨by rw [HW.out.1, HW.out.2.1, HW.out.2.2]; rfl, H1.out⟩
  · obtain ⟨v1, v2, v3, v4⟩ := HV.out
    rw [if_neg he] at v1 v4
    rw [decide_eq_false he, Bool.false_and, Bool.false_and] at v2
    rw [v2] at v3
    rw [v4]
    have d1 : (dsE a b != 0) = true := by simpa using he
    have HW := Lib.hid (And.intro v1 (And.intro v2 v3))
    clear v1 v2 v3 v4 he
    go_wp2
    refine bodyPost_ret (v := .tuple #[.int .i64 0, .bool false, .int .i64 (dsE a b)]) (by simp [results, Try.results66, go_sem]) rfl ?_
    exact ⟨by rw [HW.out.1, HW.out.2.1, HW.out.2.2]; rfl, H1.out⟩
end Go.Proofs.Ytogofchpocoebaa

namespace Go.Proofs.Ytogofchpocoebaa
open Go.RowKit Go.Maps

def rowV (m : Nat) (g : Nat) : Value := .slice (some ⟨g, 0, none⟩) m m
/-- rows of ints, each in a block of its own -/
structure CoSt (w0 : World) (v : Value) (m : Nat) (G : List Nat) (C : Nat → Array Value) (W : World) : Prop where
  own : W.ownsRow w0.heap.size 71 1 v G.length (G.map (rowV m))
  rows : ∀ (i g : Nat), G[i]? = some g → Blk W g 3 (C i) ∧ w0.heap.size ≤ g
  ne : ∀ (i j g : Nat), G[i]? = some g → G[j]? = some g → i = j
  below : Below w0.heap.size w0 W
section
variable {w0 : World} {v : Value} {m : Nat} {G : List Nat} {C : Nat → Array Value} {W W' : World}
theorem CoSt.only {S : Nat → Prop} (h : CoSt w0 v m G C W) (ho : Only S W W') (h0 : ∀ k, S k → w0.heap.size ≤ k) (hv : ∀ k, v.ownBlock = some k → ¬ S k) (hg : ∀ g ∈ G, ¬ S g) : CoSt w0 v m G C W' :=
  ⟨own_only h.own ho (fun k _ _ e => hv k e), fun i g hi => ⟨(h.rows i g hi).1.only ho (hg g (List.mem_of_getElem? hi)), (h.rows i g hi).2⟩, h.ne, h.below.trans (ho.below h.below.size fun k hk hs => by have := h0 k hs; omega)⟩
theorem CoSt.on (h : CoSt w0 v m G C W) (hb : Below W.heap.size W W') : CoSt w0 v m G C W' :=
  ⟨own_stay h.own (Only.of_below hb _), fun i g hi => ⟨(h.rows i g hi).1.below hb (h.rows i g hi).1.lt, (h.rows i g hi).2⟩, h.ne, h.below.trans (hb.mono h.below.size)⟩
theorem CoSt.vne (h : CoSt w0 v m G C W) {i g : Nat} (hi : G[i]? = some g) : v.ownBlock ≠ some g := by
  intro e
  obtain ⟨cs, hcs⟩ : ∃ cs, Blk W g 71 cs := by
    rcases h.own.2 with ⟨rfl, _⟩ | ⟨g', cap, cur, rfl, _, hg, _⟩
    · cases e
    · injection e with e
      subst e
      exact ⟨cur, hg⟩
  have h1 := (h.rows i g hi).1
  unfold Blk at h1 hcs
  rw [h1] at hcs
  injection hcs with e1
  injection e1 with _ e2
  cases e2
theorem CoSt.row {b n c : Nat} (h : CoSt w0 (.slice (some ⟨b, 0, none⟩) n c) m G C W) {i : Nat} (hi : i < G.length) : ∃ g, G[i]? = some g ∧ W.cell? ⟨b, i, none⟩ = some (.slice (some ⟨g, 0, none⟩) m m) ∧ Blk W g 3 (C i) := by
  refine ⟨G[i], List.getElem?_eq_getElem hi, ?_, (h.rows i _ (List.getElem?_eq_getElem hi)).1⟩
  have e : G.length = n := by
    rcases h.own.2 with ⟨e, _⟩ | ⟨g', cap, cur, e, _⟩
    · cases e
    · injection e with _ e2 _; exact e2.symm
  have ho := h.own
  rw [e] at ho
  obtain ⟨b', o', eA, _, _, hc⟩ := (own_rd ho).2 (by omega)
  have hc0 := ho.cells (g := b) rfl i (rowV m G[i]) (by rw [List.getElem?_map, List.getElem?_eq_getElem hi]; rfl)
  have hadd : (⟨b, 0, none⟩ : Addr).add i = ⟨b, i, none⟩ := by unfold Addr.add; split <;> simp_all
  rw [hadd] at hc0
  exact hc0
/-- one row more -/
theorem CoSt.push {v' : Value} {W1 : World} {Z : Array Value} (h : CoSt w0 v m G C W) (hb : Below W.heap.size W W1) (hg : Blk W1 W.heap.size 3 Z) (ho : W'.ownsRow w0.heap.size 71 1 v' (G.length + 1) (G.map (rowV m) ++ [rowV m W.heap.size])) (hgr : W1.grownBy W' v.ownBlock) :
    CoSt w0 v' m (G ++ [W.heap.size]) (fun i => if i = G.length then Z else C i) W' := by
  have h1 := h.on hb
  have hO : Only (fun k => v.ownBlock = some k) W1 W' := (Only.refl _ _).grown hgr (fun _ hg => .inl hg)
  have hgt : ∀ (i g : Nat), G[i]? = some g → g < W.heap.size := fun i g hi => (h.rows i g hi).1.lt
  refine ⟨by rw [List.length_append, List.map_append]; exact ho, fun i g hi => ?_, fun i j g hi hj => ?_, h1.below.trans (hO.below h1.below.size fun k hk hs => by have := (h1.own.lt _ hs).1; omega)⟩
  · rcases Nat.lt_trichotomy i G.length with hlt | rfl | hgt'
    · rw [List.getElem?_append_left hlt] at hi
      rw [if_neg (by omega)]
      exact ⟨(h1.rows i g hi).1.only hO (h1.vne hi), (h1.rows i g hi).2⟩
    · rw [List.getElem?_append_right (Nat.le_refl _), Nat.sub_self] at hi
      injection hi with hi
      subst hi
      rw [if_pos rfl]
      refine ⟨hg.only hO (fun e => ?_), h.below.size⟩
      have h2 := h1.own.lt _ e
      have h3 : v.ownBlock = some W.heap.size := e
      rcases h.own.2 with ⟨rfl, _⟩ | ⟨g', cap, cur, rfl, _, hg', _⟩
      · cases h3
      · injection h3 with h3
        subst h3
        rw [Array.getElem?_eq_none (Nat.le_refl _)] at hg'
        cases hg'
    · rw [List.getElem?_eq_none (by simp; omega)] at hi
      cases hi
  · rw [List.getElem?_append] at hi hj
    split at hi <;> split at hj
    · exact h.ne i j g hi hj
    · rename_i a1 a2
      have h1 := hgt i g hi
      have : g = W.heap.size := by
        have h4 := (List.mem_of_getElem? hj)
        simpa using h4
      omega
    · rename_i a1 a2
      have h1 := hgt j g hj
      have : g = W.heap.size := by
        have h4 := (List.mem_of_getElem? hi)
        simpa using h4
      omega
    · rename_i a1 a2
      have h4 := (List.getElem?_eq_some_iff.1 hi).1
      have h5 := (List.getElem?_eq_some_iff.1 hj).1
      simp at h4 h5
      omega
/-- one number laid -/
theorem CoSt.put {i g k : Nat} (h : CoSt w0 v m G C W) (hi : G[i]? = some g) (u : Value) : CoSt w0 v m G (fun j => if j = i then (C i).setIfInBounds k u else C j) (W.setCell ⟨g, k, none⟩ u) := by
  refine ⟨own_far h.own (h.vne hi) u, fun j g' hj => ?_, h.ne, h.below.setCell (by have := (h.rows i g hi).2; simpa using this) _⟩
  by_cases e : j = i
  · subst e
    rw [hi] at hj
    injection hj with hj
    subst hj
    rw [if_pos rfl]
    exact ⟨(h.rows j g hi).1.set_ k u, (h.rows j g hi).2⟩
  · rw [if_neg e]
    have hne : g' ≠ g := fun e' => e (h.ne j i g (e' ▸ hj) hi)
    exact ⟨(h.rows j g' hj).1.far (by simpa using hne) u, (h.rows j g' hj).2⟩
end
/-- filled from a pair of places on -/
def FiC (a b : List Ph) (la lb : Nat) (C : Nat → Array Value) (i k : Nat) : Prop := (∀ i', i' ≤ la → (C i').size = lb + 1) ∧ ∀ i' k', i' ≤ la → k' ≤ lb → (i < i' ∨ (i' = i ∧ k ≤ k')) → (C i')[k']? = some (.int .i64 (cs a b i' k'))
theorem FiC.row {a b : List Ph} {la lb i : Nat} {C : Nat → Array Value} (h : FiC a b la lb C (i + 1) 0) : FiC a b la lb C i (lb + 1) := ⟨h.1, fun i' k' h1 h2 h3 => h.2 i' k' h1 h2 (by omega)⟩
theorem FiC.step {a b : List Ph} {la lb i k : Nat} {C : Nat → Array Value} (h : FiC a b la lb C i (k + 1)) (hi : i ≤ la) (hk : k ≤ lb) : FiC a b la lb (fun j => if j = i then (C i).setIfInBounds k (.int .i64 (cs a b i k)) else C j) i k := by
  refine ⟨fun i' h1 => ?_, fun i' k' h1 h2 h3 => ?_⟩
  · dsimp only
    split
    · rename_i e; subst e; rw [Array.size_setIfInBounds]; exact h.1 _ h1
    · exact h.1 _ h1
  · dsimp only
    split
    · rename_i e
      subst e
      rw [Array.getElem?_setIfInBounds]
      split
      · rename_i e2
        subst e2
        rw [if_pos (by rw [h.1 _ h1]; omega)]
      · exact h.2 _ _ h1 h2 (by omega)
    · exact h.2 _ _ h1 h2 (by omega)
theorem rd_new_eq {w : World} {t : TypeId} {cs : Array Value} {sz i : Nat} (hi : i = w.heap.size) (h : cs.size = sz) : Rd (w.alloc (.cells cs t)) i (i + 1) sz (some ⟨i, 0, none⟩) 1 cs.toList := by
  subst hi
  exact rd_new _ _ _ _ h
theorem info71 : (Try.prog.info? 71).map (fun i => (i.zero, i.size, i.bytes)) = some (some (.slice none 0 0), 1, 24) := by kernel_rfl
end Go.Proofs.Ytogofchpocoebaa
