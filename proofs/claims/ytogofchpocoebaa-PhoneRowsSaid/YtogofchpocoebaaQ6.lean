/- phone.Print: the text of phones. -/
import Derived.Test.YtogofchpocoebaaQ4
import Derived.Test.YtogofchpocoebaaBuilder
import Derived.Test.YtogofchpocoebaaP3
namespace Go.Proofs.Ytogofchpocoebaa
open Go.RowKit Go.Maps

/-- the bytes of phones -/
def texts (l : List Ph) : List UInt8 := l.flatMap textP
def prE (l : List Ph) : Int := if 128 < l.length then 3 else if l.all isF then 0 else 2
def prS (l : List Ph) : ByteArray := if prE l = 0 then bts (texts l) else bts []
def fitP (p : Ph) : Prop := fit32 p.1 ∧ fit32 p.2.2

theorem rune_enc {r : Int} (h0 : 0 ≤ r) (h1 : r < 2048) : Lib.runeCells r = Lib.byteCells (encL r) := by
  by_cases h : r < 128
  · rw [encL_one h0 h]
    unfold Lib.runeCells
    rw [Lib.encodeRuneZ_one h0 (by omega)]
    simp [Lib.byteCells]
    omega
  · rw [encL_two (by omega) h1]
    unfold Lib.runeCells
    rw [Lib.encodeRuneZ_two (by omega) (by omega)]
    simp [Lib.byteCells]
    omega
theorem isF_tab {p : Ph} (h : isF p = true) : (tabF p.1).isSome = true ∧ (p.2.2 = 0 ∨ p.2.2 = 105 ∨ p.2.2 = 117) := by
  unfold isF at h
  simp only [Bool.and_eq_true, Bool.or_eq_true, decide_eq_true_eq] at h
  exact ⟨h.1, by rcases h.2 with h | h; exact .inl h; exact .inr h.2⟩
theorem encL_len {r : Int} (h0 : 0 ≤ r) (h1 : r < 2048) : (encL r).length ≤ 2 ∧ 0 < (encL r).length := by
  by_cases h : r < 128
  · rw [encL_one h0 h]; simp
  · rw [encL_two (by omega) h1]; simp
theorem textP_len {p : Ph} (h : isF p = true) : (textP p).length ≤ 7 := by
  obtain ⟨h1, h2⟩ := isF_tab h
  have hs := tab_small h1
  have e1 := encL_len hs.1 hs.2
  have e2 : p.2.2 ≠ 0 → (encL p.2.2).length ≤ 1 := by
    intro hz
    rcases h2 with h2 | h2 | h2
    · exact absurd h2 hz
    · rw [h2]; decide +kernel
    · rw [h2]; decide +kernel
  unfold textP
  simp only [List.length_append]
  have e3 : (if p.2.1 = true then longL else []).length ≤ 2 := by split <;> simp [longL]
  by_cases hz : p.2.2 = 0
  · rw [if_pos hz]; simp; omega
  · rw [if_neg hz]
    have := e2 hz
    simp [glideL]; omega
theorem texts_len : ∀ l : List Ph, l.all isF = true → (texts l).length ≤ 7 * l.length := by
  intro l
  induction l with
  | nil => intro _; simp [texts]
  | cons p l ih =>
    intro h
    simp only [List.all_cons, Bool.and_eq_true] at h
    have h1 := textP_len h.1
    have h2 := ih h.2
    unfold texts at h2 ⊢
    rw [List.flatMap_cons, List.length_append, List.length_cons]
    omega
theorem texts_snoc (l : List Ph) (p : Ph) : texts (l ++ [p]) = texts l ++ textP p := by simp [texts]

theorem bld_on {T e : TypeId} {B b : Nat} {bs : List Value} {W W' : World} (h : Lib.IsBuilder T e B b bs W) (hb : Below W.heap.size W W') : Lib.IsBuilder T e B b bs W' := by
  have key : ∀ {p : Value}, Lib.BuilderAt T e B b p bs W → Lib.BuilderAt T e B b p bs W' := by
    rintro p ⟨hB, v, hbk, hown, hne⟩
    exact ⟨hB, v, (hb.block b (Array.getElem?_eq_some_iff.1 hbk).1).trans hbk, own_stay hown (Only.of_below hb _), hne⟩
  rcases h with h | h
  · exact .inl (key h)
  · exact .inr (key h)
theorem bld_new (W : World) : Lib.IsBuilder 173 5 W.heap.size W.heap.size [] (W.alloc (.cells #[.pointer none, .slice none 0 0] 173)) :=
  .inl ⟨Nat.le_refl _, _, Blk.new _ _ _, World.ownsRow_nil _ _ _ _, by simp [Value.ownBlock]⟩
theorem bld_lt {T e : TypeId} {B b : Nat} {bs : List Value} {W : World} (h : Lib.IsBuilder T e B b bs W) : b < W.heap.size := by
  rcases h with ⟨_, v, hbk, _⟩ | ⟨_, v, hbk, _⟩ <;> exact (Array.getElem?_eq_some_iff.1 hbk).1

/-- memory while Print runs -/
structure PrSt (w0 : World) (tb bb : Nat) (t : List UInt8) (W : World) : Prop where
  bld : Lib.IsBuilder 173 5 bb bb (Lib.byteCells t) W
  tab : TabIs W tb
  lt : tb < bb
  below : Below w0.heap.size w0 W
  lo : w0.heap.size ≤ bb
theorem PrSt.on {w0 : World} {tb bb : Nat} {t : List UInt8} {W W' : World} (h : PrSt w0 tb bb t W) (hb : Below W.heap.size W W') : PrSt w0 tb bb t W' :=
  ⟨bld_on h.bld hb, h.tab.on hb, h.lt, h.below.trans (hb.mono h.below.size), h.lo⟩
theorem PrSt.wrote {w0 : World} {tb bb : Nat} {t u : List UInt8} {W W' : World} (h : PrSt w0 tb bb t W) {cs : List Value} (hcs : cs = Lib.byteCells u) (h1 : Lib.BuilderAt 173 5 bb bb (.pointer (some ⟨bb, 0, none⟩)) (Lib.byteCells t ++ cs) W') (hb : Below bb W W') : PrSt w0 tb bb (t ++ u) W' :=
  ⟨.inr (by rw [Lib.byteCells_append, ← hcs]; exact h1), h.tab.below hb h.lt, h.lt, h.below.trans (hb.mono h.lo), h.lo⟩

set_option maxHeartbeats 4000000 in
set_option maxRecDepth 100000 in
theorem print_any (A : Option Addr) (n c L : Nat) (l : List Ph) (w : World) (h : Rd w L w.heap.size 3 A n (phs l)) (hf : ∀ p ∈ l, fitP p) (hz : n ≤ maxLen) :
    Calls Try.prog 47 #[.slice A n c] w fun e w' => e = .returned (.tuple #[.string (prS l), .int .i64 (prE l)]) ∧ Below w.heap.size w w' := by
  have hn := h.len_ph
  have H := Lib.hid (And.intro h hf)
  unfold maxLen at hz
  by_cases hlong : 128 < n
  · have he : prE l = 3 := by unfold prE; rw [if_pos (by omega)]
    have hs : prS l = bts [] := by unfold prS; rw [he]; rfl
    rw [he, hs]
    clear h hf hn he hs
    have hd : decide ((128 : Int) < (n : Int)) = true := by simp; omega
    go_enter Try.func47, Try.ntmps47
    go_wp2
    go_ret2
    exact ⟨rfl, Below.refl _ _⟩
  · have hd : decide ((128 : Int) < (n : Int)) = false := by simp; omega
    have HN := Lib.hid hn
    clear h hf hn
    go_enter Try.func47, Try.ntmps47
    go_wp2_with fail
    refine (table_any w).mono ?_
    rintro e w1 ⟨tb, rfl, hlo, ht, hb⟩
    have hlt := ht.lt
    have H1 := Lib.hid (And.intro ht hb)
    clear ht hb
    go_upto_region 5 with (fail)
    refine wp_abs (PrSt w tb w1.heap.size []) ⟨bld_new w1, H1.out.1.on ((Below.refl _ _).alloc (Nat.le_refl _) _), hlt, H1.out.2.trans (((Below.refl _ _).alloc (Nat.le_refl _) _).mono H1.out.2.size), H1.out.2.size⟩ ?_
    intro w2 hS
    have HS := Lib.hid hS
    clear hS H1
    generalize w1.heap.size = bb at *
    go_wp2
    go_loopw [7, 14] (fun _ iv wr => ∃ i : Nat, i ≤ n ∧ iv = .int .i64 i ∧ Hid (PrSt w tb bb (texts (l.take i)) wr ∧ (l.take i).all isF = true)) (fun _ iv _ => n - (intOf iv).toNat)
    case atStart => exact ⟨0, by omega, rfl, Lib.hid ⟨HS.out, by simp⟩⟩
    case round =>
      obtain ⟨i, hi, rfl, HR⟩ := hrel
      clear HS
      by_cases hlt2 : i < n
      · obtain ⟨b, o, hl, rfl, hL, hB, x0, x1, x2⟩ := (H.out.1.below HR.out.1.below (Nat.le_refl _)).ph hlt2
        have hfp := H.out.2 _ (List.getElem_mem hl)
        have hsn : l.take (i + 1) = l.take i ++ [l[i]] := List.take_succ_eq_append_getElem hl
        have hal : l.all isF = true → isF l[i] = true := fun h => List.all_eq_true.1 h _ (List.getElem_mem hl)
        generalize l[i] = p at *
        have HSN := Lib.hid hsn
        have HFP := Lib.hid hfp
        have HAL := Lib.hid hal
        have TL : Hid ((texts (l.take i)).length ≤ 896) := by
          have := texts_len _ HR.out.2
          rw [List.length_take] at this
          exact Lib.hid (by omega)
        clear hsn hfp hal hL hB
        go_upto_region 8 with (fail)
        refine wp_abs (fun wx => PrSt w tb bb (texts (l.take i)) wx ∧ Blk wx wr.heap.size 43 #[.int .i32 p.1, .bool p.2.1, .int .i32 p.2.2]) ⟨HR.out.1.on ((Below.refl _ _).alloc (Nat.le_refl _) _), Blk.new _ _ _⟩ ?_
        have PB := Lib.hid (bld_lt HR.out.1.bld)
        clear x0 x1 x2
        generalize wr.heap.size = pb at *
        rintro wx ⟨hS, hX⟩
        have wx0 : wx.cell? ⟨pb, 0, none⟩ = some (.int .i32 p.1) := hX.cell 0
        have wx1 : wx.cell? ⟨pb, 1, none⟩ = some (.bool p.2.1) := hX.cell 1
        have wx2 : wx.cell? ⟨pb, 2, none⟩ = some (.int .i32 p.2.2) := hX.cell 2
        have HX := Lib.hid (And.intro hS hX)
        clear hS hX
        go_wp2_with fail
        refine (is_any tb p wx HX.out.1.tab HFP.out.1).mono ?_
        rintro e wy ⟨rfl, hbY⟩
        have HY := Lib.hid (And.intro (HX.out.1.on hbY) (HX.out.2.below hbY HX.out.2.lt))
        clear hbY HX wx0 wx1 wx2
        have wy0 : wy.cell? ⟨pb, 0, none⟩ = some (.int .i32 p.1) := HY.out.2.cell 0
        cases hF : isF p with
        | false =>
          go_wp2
          go_ret2
          have hna : l.all isF = false := by
            cases hh : l.all isF with
            | false => rfl
            | true => rw [HAL.out hh] at hF; cases hF
          have he : prE l = 2 := by unfold prE; rw [if_neg (by rw [HN.out]; omega), hna]; rfl
          have hs : prS l = bts [] := by unfold prS; rw [he]; rfl
          exact ⟨by rw [he, hs]; rfl, HY.out.1.below⟩
        | true =>
          have HF := Lib.hid hF
          have hp := tab_small (isF_tab hF).1
          have HP := Lib.hid (And.intro hp (isF_tab hF).2)
          have HT := Lib.hid (textP_len hF)
          clear hF hp
          go_wp2_with fail
          refine (writeRune_any bb bb _ p.1 _ HY.out.1.bld (by rw [Lib.byteCells_length]; have := TL.out; (try simp only [List.length_append]); omega) (Nat.le_of_lt (bld_lt HY.out.1.bld)) HFP.out.1.1 HFP.out.1.2).mono ?_
          rintro e wa ⟨⟨_, rfl⟩, h1, hb1, hk1⟩
          have HA := Lib.hid (And.intro (HY.out.1.wrote (rune_enc HP.out.1.1 HP.out.1.2) h1 hb1) (HY.out.2.others hk1 (Nat.ne_of_gt PB.out) (by decide)))
          clear h1 hb1 hk1
          have EL := Lib.hid (encL_len HP.out.1.1 HP.out.1.2)
          clear wy0
          have wa1 : wa.cell? ⟨pb, 1, none⟩ = some (.bool p.2.1) := HA.out.2.cell 1
          have wa2 : wa.cell? ⟨pb, 2, none⟩ = some (.int .i32 p.2.2) := HA.out.2.cell 2
          cases hlg : p.2.1 with
          | true =>
            go_wp2_with fail
            refine (writeString_any bb bb _ ⟨#[203, 144]⟩ _ HA.out.1.bld (by rw [Lib.byteCells_length]; have := TL.out; (try simp only [List.length_append]); have := EL.out.1; simp [ByteArray.size]; omega) (Nat.le_of_lt (bld_lt HA.out.1.bld))).mono ?_
            rintro e wl ⟨⟨_, rfl⟩, h1, hb1, hk1⟩
            have HL := Lib.hid (And.intro (HA.out.1.wrote (u := longL) rfl h1 hb1) (HA.out.2.others hk1 (Nat.ne_of_gt PB.out) (by decide)))
            clear h1 hb1 hk1
            clear wa1 wa2
            have wl2 : wl.cell? ⟨pb, 2, none⟩ = some (.int .i32 p.2.2) := HL.out.2.cell 2
            by_cases hg : p.2.2 = 0
            · have hgb : (p.2.2 != 0) = false := by rw [hg]; rfl
              go_wp2
              go_roundw
              case rel => exact ⟨i + 1, by omega, by go_num, Lib.hid ⟨by rw [HSN.out, texts_snoc]; exact (show texts (l.take i) ++ encL p.1 ++ longL = texts (l.take i) ++ textP p by simp [textP, hlg, hg]) ▸ HL.out.1, by rw [HSN.out, List.all_append, HR.out.2]; simp [HF.out]⟩⟩
              case measure => simp [intOf]; omega
            · have hgb : (p.2.2 != 0) = true := by simpa using hg
              have hg2 : 0 ≤ p.2.2 ∧ p.2.2 < 2048 := by rcases HP.out.2 with h | h | h <;> omega
              have HG := Lib.hid hg2
              clear hg2
              go_wp2_with fail
              refine (writeRune_any bb bb _ p.2.2 _ HL.out.1.bld (by rw [Lib.byteCells_length]; have := TL.out; (try simp only [List.length_append]); have := EL.out.1; simp [longL] at *; omega) (Nat.le_of_lt (bld_lt HL.out.1.bld)) HFP.out.2.1 HFP.out.2.2).mono ?_
              rintro e wg ⟨⟨_, rfl⟩, h1, hb1, hk1⟩
              have HG1 := Lib.hid (And.intro (HL.out.1.wrote (rune_enc HG.out.1 HG.out.2) h1 hb1) (HL.out.2.others hk1 (Nat.ne_of_gt PB.out) (by decide)))
              clear h1 hb1 hk1
              have EG := Lib.hid (encL_len HG.out.1 HG.out.2)
              go_wp2_with fail
              refine (writeString_any bb bb _ ⟨#[204, 175]⟩ _ HG1.out.1.bld (by rw [Lib.byteCells_length]; have := TL.out; (try simp only [List.length_append]); have := EL.out.1; have := EG.out.1; simp [longL, ByteArray.size] at *; omega) (Nat.le_of_lt (bld_lt HG1.out.1.bld))).mono ?_
              rintro e wh ⟨⟨_, rfl⟩, h1, hb1, hk1⟩
              have HG2 := Lib.hid (And.intro (HG1.out.1.wrote (u := glideL) rfl h1 hb1) (HG1.out.2.others hk1 (Nat.ne_of_gt PB.out) (by decide)))
              clear h1 hb1 hk1
              go_wp2
              go_roundw
              case rel => exact ⟨i + 1, by omega, by go_num, Lib.hid ⟨by rw [HSN.out, texts_snoc]; exact (show texts (l.take i) ++ encL p.1 ++ longL ++ encL p.2.2 ++ glideL = texts (l.take i) ++ textP p by simp [textP, hlg, hg]) ▸ HG2.out.1, by rw [HSN.out, List.all_append, HR.out.2]; simp [HF.out]⟩⟩
              case measure => simp [intOf]; omega
          | false =>
            by_cases hg : p.2.2 = 0
            · have hgb : (p.2.2 != 0) = false := by rw [hg]; rfl
              go_wp2
              go_roundw
              case rel => exact ⟨i + 1, by omega, by go_num, Lib.hid ⟨by rw [HSN.out, texts_snoc]; exact (show texts (l.take i) ++ encL p.1 = texts (l.take i) ++ textP p by simp [textP, hlg, hg]) ▸ HA.out.1, by rw [HSN.out, List.all_append, HR.out.2]; simp [HF.out]⟩⟩
              case measure => simp [intOf]; omega
            · have hgb : (p.2.2 != 0) = true := by simpa using hg
              have hg2 : 0 ≤ p.2.2 ∧ p.2.2 < 2048 := by rcases HP.out.2 with h | h | h <;> omega
              have HG := Lib.hid hg2
              clear hg2
              go_wp2_with fail
              refine (writeRune_any bb bb _ p.2.2 _ HA.out.1.bld (by rw [Lib.byteCells_length]; have := TL.out; (try simp only [List.length_append]); have := EL.out.1; simp at *; omega) (Nat.le_of_lt (bld_lt HA.out.1.bld)) HFP.out.2.1 HFP.out.2.2).mono ?_
              rintro e wg ⟨⟨_, rfl⟩, h1, hb1, hk1⟩
              have HG1 := Lib.hid (And.intro (HA.out.1.wrote (rune_enc HG.out.1 HG.out.2) h1 hb1) (HA.out.2.others hk1 (Nat.ne_of_gt PB.out) (by decide)))
              clear h1 hb1 hk1
              have EG := Lib.hid (encL_len HG.out.1 HG.out.2)
              go_wp2_with fail
              refine (writeString_any bb bb _ ⟨#[204, 175]⟩ _ HG1.out.1.bld (by rw [Lib.byteCells_length]; have := TL.out; (try simp only [List.length_append]); have := EL.out.1; have := EG.out.1; simp [ByteArray.size] at *; omega) (Nat.le_of_lt (bld_lt HG1.out.1.bld))).mono ?_
              rintro e wh ⟨⟨_, rfl⟩, h1, hb1, hk1⟩
              have HG2 := Lib.hid (And.intro (HG1.out.1.wrote (u := glideL) rfl h1 hb1) (HG1.out.2.others hk1 (Nat.ne_of_gt PB.out) (by decide)))
              clear h1 hb1 hk1
              go_wp2
              go_roundw
              case rel => exact ⟨i + 1, by omega, by go_num, Lib.hid ⟨by rw [HSN.out, texts_snoc]; exact (show texts (l.take i) ++ encL p.1 ++ encL p.2.2 ++ glideL = texts (l.take i) ++ textP p by simp [textP, hlg, hg]) ▸ HG2.out.1, by rw [HSN.out, List.all_append, HR.out.2]; simp [HF.out]⟩⟩
              case measure => simp [intOf]; omega
      · have hin : i = n := by omega
        have htk : l.take i = l := List.take_of_length_le (by rw [HN.out]; omega)
        have he : prE l = 0 := by
          have := HR.out.2
          rw [htk] at this
          unfold prE; rw [if_neg (by rw [HN.out]; omega), this]; rfl
        have hs : prS l = bts (texts l) := by unfold prS; rw [he]; rfl
        have HE := Lib.hid (And.intro he (And.intro hs htk))
        clear he hs htk
        subst hin
        go_wp2_with fail
        refine (Try.Builder_String_any bb bb (texts (l.take i)) wr HR.out.1.bld (Nat.le_of_lt (bld_lt HR.out.1.bld))).mono ?_
        rintro e wz ⟨rfl, hb⟩
        have HZ := Lib.hid (HR.out.1.below.trans (hb.mono HR.out.1.lo))
        clear hb
        go_wp2
        go_ret2
        exact ⟨by rw [HE.out.1, HE.out.2.1, HE.out.2.2]; rfl, HZ.out⟩
end Go.Proofs.Ytogofchpocoebaa
