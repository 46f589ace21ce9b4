/- slices.Equal and slices.Clone at phones; the reference's All, Text and Print. -/
import Derived.Test.YtogofchpocoebaaR3
import Derived.Test.YtogofchpocoebaaQ6
import Derived.BigQuiet
namespace Go.Proofs.Ytogofchpocoebaa
open Go.RowKit Go.Maps

theorem bdrawn {B : Nat} {w w' : World} (h : Below B w w') (n : Nat) : Below B w (w'.drewN n) := ⟨h.os, h.tape, h.output, h.size, h.block⟩
theorem drop_atP (l : List Ph) (k : Nat) (h : k < l.length) : l.drop k = l[k] :: l.drop (k + 1) := List.drop_eq_getElem_cons h

set_option maxHeartbeats 2000000 in
theorem equalH_any (A B : Option Addr) (n c m d L1 L2 B1 B2 : Nat) (l1 l2 : List Ph) (w : World)
    (h1 : Rd w L1 B1 3 A n (phs l1)) (h2 : Rd w L2 B2 3 B m (phs l2)) (e1 : n ≤ maxLen) (e2 : m ≤ maxLen) (z1 : B1 ≤ w.heap.size) (z2 : B2 ≤ w.heap.size) :
    Calls Try.prog 49 #[.slice A n c, .slice B m d] w fun e w' => e = .returned (.bool (decide (l1 = l2))) ∧ Below w.heap.size w w' := by
  unfold maxLen at e1 e2
  have Q := Lib.hid (And.intro h1.len_ph h2.len_ph)
  have H1 := Lib.hid h1
  have H2 := Lib.hid h2
  clear h1 h2
  by_cases hn : n = m
  · subst hn
    have hb1 : ((n : Int) != (n : Int)) = false := by simp
    go_enter Try.func49, Try.ntmps49
    go_wp2
    go_loopw [13] (fun v wr => ∃ k : Nat, k ≤ n ∧ v = .int .i64 k ∧ Hid (Below w.heap.size w wr ∧ decide (l1 = l2) = decide (l1.drop k = l2.drop k))) (fun v _ => n - (intOf v).toNat)
    case atStart => exact ⟨0, by omega, rfl, Below.refl _ _, rfl⟩
    case round =>
      obtain ⟨k, hk, rfl, H⟩ := hrel
      by_cases hlt : k < n
      · obtain ⟨b, o, hl, rfl, hL, hB, p1, p2, p5⟩ := H1.out.ph hlt
        obtain ⟨b', o', hl', rfl, hL', hB', p3, p4, p6⟩ := H2.out.ph hlt
        generalize hx : l1[k] = x at p1 p2 p5
        generalize hy : l2[k] = y at p3 p4 p6
        obtain ⟨x1, x2, x3⟩ := x
        obtain ⟨y1, y2, y3⟩ := y
        have r1 := (H.out.1.cell (p := ⟨b, o + k * 3, none⟩) (Nat.lt_of_lt_of_le hB z1)).trans p1
        have r2 := (H.out.1.cell (p := ⟨b, o + k * 3 + 1, none⟩) (Nat.lt_of_lt_of_le hB z1)).trans p2
        have r5 := (H.out.1.cell (p := ⟨b, o + k * 3 + 2, none⟩) (Nat.lt_of_lt_of_le hB z1)).trans p5
        have r3 := (H.out.1.cell (p := ⟨b', o' + k * 3, none⟩) (Nat.lt_of_lt_of_le hB' z2)).trans p3
        have r4 := (H.out.1.cell (p := ⟨b', o' + k * 3 + 1, none⟩) (Nat.lt_of_lt_of_le hB' z2)).trans p4
        have r6 := (H.out.1.cell (p := ⟨b', o' + k * 3 + 2, none⟩) (Nat.lt_of_lt_of_le hB' z2)).trans p6
        have hde : decide (l1.drop k = l2.drop k) = (decide ((x1, x2, x3) = (y1, y2, y3)) && decide (l1.drop (k + 1) = l2.drop (k + 1))) := by
          rw [drop_atP l1 k hl, drop_atP l2 k hl', hx, hy]
          simp [Bool.and_assoc, List.cons.injEq]
        have HDE := Lib.hid hde
        have i1 : (0 : Int) ≤ (k : Int) := by omega
        have i2 : (k : Int) < (n : Int) := by omega
        clear hde hx hy p1 p2 p3 p4 p5 p6
        by_cases g1 : x1 = y1
        · subst g1
          by_cases g2 : x2 = y2
          · subst g2
            by_cases g3 : x3 = y3
            · subst g3
              go_wp2
              go_quiet (fail)
              go_wp2
              go_roundw
              case rel => exact ⟨k + 1, by omega, by go_num, Lib.hid ⟨bdrawn H.out.1 _, by rw [H.out.2, HDE.out]; simp⟩⟩
              case measure => simp [intOf]; omega
            · go_wp2
              go_quiet (fail)
              go_wp2
              go_ret
              exact ⟨ret_bool (by rw [H.out.2, HDE.out]; simp [g3]), bdrawn H.out.1 _⟩
          · go_wp2
            go_quiet (fail)
            go_wp2
            go_ret
            exact ⟨ret_bool (by rw [H.out.2, HDE.out]; simp [g2]), bdrawn H.out.1 _⟩
        · go_wp2
          go_quiet (fail)
          go_wp2
          go_ret
          exact ⟨ret_bool (by rw [H.out.2, HDE.out]; simp [g1]), bdrawn H.out.1 _⟩
      · have hkn : k = n := by omega
        subst hkn
        have HL := Lib.hid (show decide (l1 = l2) = true by rw [H.out.2, List.drop_of_length_le (by rw [Q.out.1]; exact Nat.le_refl _), List.drop_of_length_le (by rw [Q.out.2]; exact Nat.le_refl _)]; rfl)
        go_wp2
        go_ret
        exact ⟨ret_bool HL.out.symm, H.out.1⟩
  · have hs : decide (l1 = l2) = false := by
      simp only [decide_eq_false_iff_not]
      intro hh; apply hn; rw [← Q.out.1, ← Q.out.2, hh]
    have hb1 : ((n : Int) != (m : Int)) = true := by simp; omega
    have HS := Lib.hid hs
    clear hs hn
    go_enter Try.func49, Try.ntmps49
    go_wp2
    go_ret
    exact ⟨ret_bool HS.out.symm, Below.refl _ _⟩

theorem info43' : (Try.prog.info? 43).map (fun i => (i.zero, i.size, i.bytes)) = some (some (.agg #[.int .i32 0, .bool false, .int .i32 0]), 3, 12) := by kernel_rfl

set_option maxHeartbeats 1000000 in
set_option maxRecDepth 100000 in
theorem cloneH_any (A : Option Addr) (n c L B : Nat) (ls : List Ph) (w : World) (h : Rd w L B 3 A n (phs ls)) (hn : n * 12 ≤ 140737488351232) :
    Calls Try.prog 46 #[.slice A n c] w fun e w' => ∃ A' C', e = .returned (.slice A' n C') ∧ w'.ownsRow w.heap.size 43 3 (.slice A' n C') n (phs ls) ∧ Below w.heap.size w w' := by
  have q23 : ∀ (w : World) (a : Option Addr) (n c n' c' : Nat), (binOp .eql 22 (.slice a n c) (.slice none n' c')).run Try.prog w = .ok (.bool a.isNone) w := fun w a n c n' c' => Lib.run_eql_slice_nil w _ _ a n c n' c' Try.underlying22
  have u23 : ∀ w, Sem.run Try.prog (underlying 22) w = .ok (TypeDesc.slice 43) w := run_underlying Try.underlying22
  have H := Lib.hid h
  clear h
  cases A with
  | none =>
    have hn0 : n = 0 := by
      rcases Nat.eq_zero_or_pos n with h0 | h0
      · exact h0
      · obtain ⟨_, _, e, _⟩ := H.out.2 h0; cases e
    subst hn0
    have hl : phs ls = [] := List.eq_nil_of_length_eq_zero (by have := H.out.1; omega)
    rw [hl]
    go_enter Try.func46, Try.ntmps46
    go_wp2
    go_ret
    exact ⟨none, 0, rfl, World.ownsRow_nil _ _ _ _, Below.refl _ _⟩
  | some ad =>
    obtain ⟨j0, hj, jz0, jz1, jz2⟩ := info_parts info43'
    go_enter Try.func46, Try.ntmps46
    go_wp2_with (at_builtin; refine wpList_append_own _ rfl _ _ 22 rfl w.heap.size 43 j0 (.agg #[.int .i32 0, .bool false, .int .i32 0]) 3 12 Try.underlying22 hj jz0 jz1 jz2 rfl (by decide) _ _ _ rfl (World.ownsRow_made w #[] 0 (Nat.le_refl _) (Nat.zero_le _) rfl) ad n c (phs ls) rfl ?qc1 ?qc2 ?qc3 ?qc4 ?qc5 ?qc6 ?_)
    case qc1 => exact H.out.1
    case qc2 =>
      intro j u hu
      exact Lib.cell?_alloc_some _ (H.out.at_add j u hu)
    case qc3 => exact phs_one ls
    case qc4 => unfold maxLen; omega
    case qc5 => omega
    case qc6 => simp
    intro v' w1 hown hgrow hnil
    obtain ⟨A', C', rfl⟩ := own_slice hown
    go_wp2
    go_ret
    exact ⟨A', C', rfl, by simpa using hown, ((Below.refl _ w).alloc (Nat.le_refl _) _).grown hgrow (by simp) (by intro k hk; simp [Value.ownBlock] at hk; omega)⟩

set_option maxHeartbeats 1000000 in
theorem refAll_any (A : Option Addr) (n c L B : Nat) (l : List Ph) (w : World) (h : Rd w L B 3 A n (phs l)) (hB : B ≤ w.heap.size) (hz : n ≤ maxLen) :
    Calls Try.prog 121 #[.slice A n c] w fun e w' => e = .returned (.bool (l.all isF)) ∧ Below w.heap.size w w' := by
  unfold maxLen at hz
  have HN := Lib.hid h.len_ph
  have H := Lib.hid h
  clear h
  go_enter Try.func121, Try.ntmps121
  go_wp2
  go_loopw [3] (fun v wr => ∃ k : Nat, k ≤ n ∧ v = .int .i64 k ∧ Hid (Below w.heap.size w wr ∧ (l.take k).all isF = true)) (fun v _ => n - (intOf v).toNat)
  case atStart => exact ⟨0, by omega, rfl, Below.refl _ _, rfl⟩
  case round =>
    obtain ⟨k, hk, rfl, HR⟩ := hrel
    by_cases hlt : k < n
    · obtain ⟨b, o, hl, rfl, hL, hB2, x0, x1, x2⟩ := (H.out.below HR.out.1 hB).ph hlt
      have hsn : l.take (k + 1) = l.take k ++ [l[k]] := List.take_succ_eq_append_getElem hl
      have hal : l.all isF = true → isF l[k] = true := fun h => List.all_eq_true.1 h _ (List.getElem_mem hl)
      generalize l[k] = p at *
      have HSN := Lib.hid (And.intro hsn hal)
      clear hsn hal hL hB2
      have i1 : (0 : Int) ≤ (k : Int) := by omega
      have i2 : (k : Int) < (n : Int) := by omega
      go_wp2_with fail
      refine (refIs_any p _).mono ?_
      rintro e wz ⟨rfl, hb⟩
      have HX := Lib.hid (HR.out.1.trans (hb.mono HR.out.1.size))
      clear hb
      cases hF : isF p with
      | false =>
        have HF := Lib.hid (show l.all isF = false by
          cases hh : l.all isF with
          | false => rfl
          | true => rw [HSN.out.2 hh] at hF; cases hF)
        clear hF
        go_wp2
        go_ret
        exact ⟨ret_bool HF.out.symm, HX.out⟩
      | true =>
        have HF := Lib.hid hF
        clear hF
        go_wp2
        go_roundw
        case rel => exact ⟨k + 1, by omega, by go_num, Lib.hid ⟨HX.out, by rw [HSN.out.1, List.all_append, HR.out.2]; simp [HF.out]⟩⟩
        case measure => simp [intOf]; omega
    · have hkn : k = n := by omega
      subst hkn
      have HL := Lib.hid (show l.all isF = true by have := HR.out.2; rwa [List.take_of_length_le (by rw [HN.out]; exact Nat.le_refl _)] at this)
      go_wp2
      go_ret
      exact ⟨ret_bool HL.out.symm, HR.out.1⟩

theorem enc_bts (r : Int) : Utf8.encode r = bts (encL r) := rfl
set_option maxHeartbeats 1000000 in
theorem refText_any (p : Ph) (w : World) : Calls Try.prog 112 #[.agg #[.int .i32 p.1, .bool p.2.1, .int .i32 p.2.2]] w fun e w' => e = .returned (.string (bts (textP p))) ∧ Below w.heap.size w w' := by
  have g1 : (⟨#[203, 144]⟩ : ByteArray).size = 2 := rfl
  have g2 : (⟨#[204, 175]⟩ : ByteArray).size = 2 := rfl
  have z1 := encode_size_le p.1
  have z2 := encode_size_le p.2.2
  have q1 : ∀ W : World, Sem.run Try.prog (Op.stringOp .add (Utf8.encode p.1) ⟨#[203, 144]⟩) W = .ok (.string (Utf8.encode p.1 ++ ⟨#[203, 144]⟩)) W := fun W => run_string_add_sum W _ _ (by rw [g1]; omega)
  have q2 : ∀ W : World, Sem.run Try.prog (Op.stringOp .add (Utf8.encode p.2.2) ⟨#[204, 175]⟩) W = .ok (.string (Utf8.encode p.2.2 ++ ⟨#[204, 175]⟩)) W := fun W => run_string_add_sum W _ _ (by rw [g2]; omega)
  have q3 : ∀ W : World, Sem.run Try.prog (Op.stringOp .add (Utf8.encode p.1 ++ ⟨#[203, 144]⟩) (Utf8.encode p.2.2 ++ ⟨#[204, 175]⟩)) W = .ok (.string ((Utf8.encode p.1 ++ ⟨#[203, 144]⟩) ++ (Utf8.encode p.2.2 ++ ⟨#[204, 175]⟩))) W := fun W => run_string_add_sum W _ _ (by simp only [ByteArray.size_append, g1, g2]; omega)
  have q4 : ∀ W : World, Sem.run Try.prog (Op.stringOp .add (Utf8.encode p.1) (Utf8.encode p.2.2 ++ ⟨#[204, 175]⟩)) W = .ok (.string (Utf8.encode p.1 ++ (Utf8.encode p.2.2 ++ ⟨#[204, 175]⟩))) W := fun W => run_string_add_sum W _ _ (by simp only [ByteArray.size_append, g2]; omega)
  clear z1 z2 g1 g2
  have HT := Lib.hid (show textP p = encL p.1 ++ (if p.2.1 then longL else []) ++ (if p.2.2 = 0 then [] else encL p.2.2 ++ glideL) from rfl)
  go_enter Try.func112, Try.ntmps112
  go_upto_region 1 with (fail)
  refine wp_abs (fun wx => Below w.heap.size w wx ∧ Blk wx w.heap.size 43 #[.int .i32 p.1, .bool p.2.1, .int .i32 p.2.2]) ⟨(Below.refl _ _).alloc (Nat.le_refl _) _, Blk.new _ _ _⟩ ?_
  generalize hpb : w.heap.size = pb
  rintro wx ⟨hb, hx⟩
  rw [← hpb] at hb
  have c0 : wx.cell? ⟨pb, 0, none⟩ = some (.int .i32 p.1) := hx.cell 0
  have c1 : wx.cell? ⟨pb, 1, none⟩ = some (.bool p.2.1) := hx.cell 1
  have c2 : wx.cell? ⟨pb, 2, none⟩ = some (.int .i32 p.2.2) := hx.cell 2
  have HX := Lib.hid hb
  have HPB := Lib.hid hpb
  clear hb hx hpb
  cases hlg : p.2.1 with
  | true =>
    rw [hlg] at c1
    by_cases hg : p.2.2 = 0
    · have hgb : (p.2.2 != 0) = false := by rw [hg]; rfl
      have HV := Lib.hid (show Utf8.encode p.1 ++ ⟨#[203, 144]⟩ = bts (textP p) by rw [HT.out, hlg, if_pos hg, enc_bts]; simp [longL, ← bts_append]; rfl)
      clear hg
      go_wp2
      go_ret
      exact ⟨congrArg (fun s => Ending.returned (Value.string s)) HV.out, HX.out⟩
    · have hgb : (p.2.2 != 0) = true := by simpa using hg
      have HV := Lib.hid (show (Utf8.encode p.1 ++ ⟨#[203, 144]⟩) ++ (Utf8.encode p.2.2 ++ ⟨#[204, 175]⟩) = bts (textP p) by rw [HT.out, hlg, if_neg hg, enc_bts, enc_bts]; simp only [longL, glideL, ← bts_append, if_true]; rfl)
      clear hg
      go_wp2
      go_ret
      exact ⟨congrArg (fun s => Ending.returned (Value.string s)) HV.out, HX.out⟩
  | false =>
    rw [hlg] at c1
    by_cases hg : p.2.2 = 0
    · have hgb : (p.2.2 != 0) = false := by rw [hg]; rfl
      have HV := Lib.hid (show Utf8.encode p.1 = bts (textP p) by rw [HT.out, hlg, if_pos hg, enc_bts]; simp)
      clear hg
      go_wp2
      go_ret
      exact ⟨congrArg (fun s => Ending.returned (Value.string s)) HV.out, HX.out⟩
    · have hgb : (p.2.2 != 0) = true := by simpa using hg
      have HV := Lib.hid (show Utf8.encode p.1 ++ (Utf8.encode p.2.2 ++ ⟨#[204, 175]⟩) = bts (textP p) by rw [HT.out, hlg, if_neg hg, enc_bts, enc_bts]; simp [glideL, ← bts_append]; rfl)
      clear hg
      go_wp2
      go_ret
      exact ⟨congrArg (fun s => Ending.returned (Value.string s)) HV.out, HX.out⟩

set_option maxHeartbeats 1000000 in
theorem refPrint_any (A : Option Addr) (n c L B : Nat) (l : List Ph) (w : World) (h : Rd w L B 3 A n (phs l)) (hB : B ≤ w.heap.size) (hz : n ≤ maxLen) :
    Calls Try.prog 48 #[.slice A n c] w fun e w' => e = .returned (.tuple #[.string (prS l), .int .i64 (prE l)]) ∧ Below w.heap.size w w' := by
  have hz' := hz
  unfold maxLen at hz
  have HN := Lib.hid h.len_ph
  have H := Lib.hid h
  clear h
  by_cases hlong : 128 < n
  · have he : prE l = 3 := by unfold prE; rw [if_pos (by rw [HN.out]; exact hlong)]
    have HV := Lib.hid (And.intro he (show prS l = bts [] by unfold prS; rw [he]; rfl))
    clear he
    have hd : decide ((128 : Int) < (n : Int)) = true := by simp; omega
    go_enter Try.func48, Try.ntmps48
    go_wp2
    go_ret2
    exact ⟨by rw [HV.out.1, HV.out.2]; rfl, Below.refl _ _⟩
  · have hd : decide ((128 : Int) < (n : Int)) = false := by simp; omega
    go_enter Try.func48, Try.ntmps48
    go_wp2_with fail
    refine (refAll_any A n c L B l _ H.out hB hz').mono ?_
    rintro e w1 ⟨rfl, hb⟩
    have H1 := Lib.hid hb
    clear hb
    cases hF : l.all isF with
    | false =>
      have he : prE l = 2 := by unfold prE; rw [if_neg (by rw [HN.out]; omega), hF]; rfl
      have HV := Lib.hid (And.intro he (show prS l = bts [] by unfold prS; rw [he]; rfl))
      clear he hF
      go_wp2
      go_ret2
      exact ⟨by rw [HV.out.1, HV.out.2]; rfl, H1.out⟩
    | true =>
      have he : prE l = 0 := by unfold prE; rw [if_neg (by rw [HN.out]; omega), hF]; rfl
      have HV := Lib.hid (And.intro he (show prS l = bts (texts l) by unfold prS; rw [he]; rfl))
      have HF := Lib.hid hF
      clear he hF
      go_wp2
      go_loopw [4, 5] (fun sv v wr => ∃ k : Nat, k ≤ n ∧ v = .int .i64 k ∧ Hid (Below w.heap.size w wr ∧ sv = .string (bts (texts (l.take k))))) (fun _ v _ => n - (intOf v).toNat)
      case atStart => exact ⟨0, by omega, rfl, Lib.hid ⟨H1.out, rfl⟩⟩
      case round =>
        obtain ⟨k, hk, rfl, HR⟩ := hrel
        have hsv := HR.out.2
        subst hsv
        by_cases hlt : k < n
        · obtain ⟨b, o, hl, rfl, hL, hB2, x0, x1, x2⟩ := (H.out.below HR.out.1 hB).ph hlt
          have hsn : texts (l.take (k + 1)) = texts (l.take k) ++ textP l[k] := by rw [List.take_succ_eq_append_getElem hl, texts_snoc]
          have b1 := texts_len (l.take k) (List.all_eq_true.2 fun x hx => List.all_eq_true.1 HF.out x (List.mem_of_mem_take hx))
          have b2 := textP_len (List.all_eq_true.1 HF.out _ (List.getElem_mem hl))
          rw [List.length_take] at b1
          generalize l[k] = p at *
          have q1 : ∀ W : World, Sem.run Try.prog (Op.stringOp .add (bts (texts (l.take k))) (bts (textP p))) W = .ok (.string (bts (texts (l.take k)) ++ bts (textP p))) W := fun W => run_string_add_sum W _ _ (by simp only [bts_size]; omega)
          have HSN := Lib.hid hsn
          clear hsn hL hB2 b1 b2
          have i1 : (0 : Int) ≤ (k : Int) := by omega
          have i2 : (k : Int) < (n : Int) := by omega
          go_wp2_with fail
          refine (refText_any p _).mono ?_
          rintro e wz ⟨rfl, hb⟩
          have HX := Lib.hid (HR.out.1.trans (hb.mono HR.out.1.size))
          clear hb
          go_wp2
          go_roundw
          case rel => exact ⟨k + 1, by omega, by go_num, Lib.hid ⟨HX.out, by rw [HSN.out, ← bts_append]⟩⟩
          case measure => simp [intOf]; omega
        · have hkn : k = n := by omega
          subst hkn
          have HL := Lib.hid (show texts (l.take k) = texts l by rw [List.take_of_length_le (by rw [HN.out]; exact Nat.le_refl _)])
          go_wp2
          go_ret2
          exact ⟨by rw [HV.out.1, HV.out.2, ← HL.out]; rfl, HR.out.1⟩
end Go.Proofs.Ytogofchpocoebaa
