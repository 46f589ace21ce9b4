/- phone.Print: the text of phones.
   phone.next: the longest phone with which a text begins.
   phone.Read: the phones of a text. -/
import Derived.Test.YtogofchpocoebaaQ1
import Derived.Test.YtogofchpocoebaaShelf
import Derived.Test.YtogofchpocoebaaP1
namespace Go.Proofs.Ytogofchpocoebaa
open Go.RowKit Go.Maps

/-- the bytes of phones -/
def texts (l : List Ph) : List UInt8 := l.flatMap textP
def prE (l : List Ph) : Int := if 128 < l.length then 3 else if l.all isF then 0 else 2
def prS (l : List Ph) : ByteArray := if prE l = 0 then bts (texts l) else bts []
def fitP (p : Ph) : Prop := fit32 p.1 ∧ fit32 p.2.2

theorem rune_enc {r : Int} (h0 : 0 ≤ r) (h1 : r < 2048) : Lib.runeCells r = Lib.byteCells (encL r) := by
  by_cases h : r < 128
  · rw [encL_one h0 h]
    unfold Lib.runeCells
    rw [Lib.encodeRuneZ_one h0 (by omega)]
    simp [Lib.byteCells]
    omega
  · rw [encL_two (by omega) h1]
    unfold Lib.runeCells
    rw [Lib.encodeRuneZ_two (by omega) (by omega)]
    simp [Lib.byteCells]
    omega
theorem isF_tab {p : Ph} (h : isF p = true) : (tabF p.1).isSome = true ∧ (p.2.2 = 0 ∨ p.2.2 = 105 ∨ p.2.2 = 117) := by
  unfold isF at h
  simp only [Bool.and_eq_true, Bool.or_eq_true, decide_eq_true_eq] at h
  exact ⟨h.1, by rcases h.2 with h | h; exact .inl h; exact .inr h.2⟩
theorem encL_len {r : Int} (h0 : 0 ≤ r) (h1 : r < 2048) : (encL r).length ≤ 2 ∧ 0 < (encL r).length := by
  by_cases h : r < 128
  · rw [encL_one h0 h]; simp
  · rw [encL_two (by omega) h1]; simp
theorem textP_len {p : Ph} (h : isF p = true) : (textP p).length ≤ 7 := by
  obtain ⟨h1, h2⟩ := isF_tab h
  have hs := tab_small h1
  have e1 := encL_len hs.1 hs.2
  have e2 : p.2.2 ≠ 0 → (encL p.2.2).length ≤ 1 := by
    intro hz
    rcases h2 with h2 | h2 | h2
    · exact absurd h2 hz
    · rw [h2]; decide +kernel
    · rw [h2]; decide +kernel
  unfold textP
  simp only [List.length_append]
  have e3 : (if p.2.1 = true then longL else []).length ≤ 2 := by split <;> simp [longL]
  by_cases hz : p.2.2 = 0
  · rw [if_pos hz]; simp; omega
  · rw [if_neg hz]
    have := e2 hz
    simp [glideL]; omega
theorem texts_len : ∀ l : List Ph, l.all isF = true → (texts l).length ≤ 7 * l.length := by
  intro l
  induction l with
  | nil => intro _; simp [texts]
  | cons p l ih =>
    intro h
    simp only [List.all_cons, Bool.and_eq_true] at h
    have h1 := textP_len h.1
    have h2 := ih h.2
    unfold texts at h2 ⊢
    rw [List.flatMap_cons, List.length_append, List.length_cons]
    omega
theorem texts_snoc (l : List Ph) (p : Ph) : texts (l ++ [p]) = texts l ++ textP p := by simp [texts]

theorem bld_on {T e : TypeId} {B b : Nat} {bs : List Value} {W W' : World} (h : Lib.IsBuilder T e B b bs W) (hb : Below W.heap.size W W') : Lib.IsBuilder T e B b bs W' := by
  have key : ∀ {p : Value}, Lib.BuilderAt T e B b p bs W → Lib.BuilderAt T e B b p bs W' := by
    rintro p ⟨hB, v, hbk, hown, hne⟩
    exact ⟨hB, v, (hb.block b (Array.getElem?_eq_some_iff.1 hbk).1).trans hbk, own_stay hown (Only.of_below hb _), hne⟩
  rcases h with h | h
  · exact .inl (key h)
  · exact .inr (key h)
theorem bld_new (W : World) : Lib.IsBuilder 173 5 W.heap.size W.heap.size [] (W.alloc (.cells #[.pointer none, .slice none 0 0] 173)) :=
  .inl ⟨Nat.le_refl _, _, Blk.new _ _ _, World.ownsRow_nil _ _ _ _, by simp [Value.ownBlock]⟩
theorem bld_lt {T e : TypeId} {B b : Nat} {bs : List Value} {W : World} (h : Lib.IsBuilder T e B b bs W) : b < W.heap.size := by
  rcases h with ⟨_, v, hbk, _⟩ | ⟨_, v, hbk, _⟩ <;> exact (Array.getElem?_eq_some_iff.1 hbk).1

/-- memory while Print runs -/
structure PrSt (w0 : World) (tb bb : Nat) (t : List UInt8) (W : World) : Prop where
  bld : Lib.IsBuilder 173 5 bb bb (Lib.byteCells t) W
  tab : TabIs W tb
  lt : tb < bb
  below : Below w0.heap.size w0 W
  lo : w0.heap.size ≤ bb
theorem PrSt.on {w0 : World} {tb bb : Nat} {t : List UInt8} {W W' : World} (h : PrSt w0 tb bb t W) (hb : Below W.heap.size W W') : PrSt w0 tb bb t W' :=
  ⟨bld_on h.bld hb, h.tab.on hb, h.lt, h.below.trans (hb.mono h.below.size), h.lo⟩
theorem PrSt.wrote {w0 : World} {tb bb : Nat} {t u : List UInt8} {W W' : World} (h : PrSt w0 tb bb t W) {cs : List Value} (hcs : cs = Lib.byteCells u) (h1 : Lib.BuilderAt 173 5 bb bb (.pointer (some ⟨bb, 0, none⟩)) (Lib.byteCells t ++ cs) W') (hb : Below bb W W') : PrSt w0 tb bb (t ++ u) W' :=
  ⟨.inr (by rw [Lib.byteCells_append, ← hcs]; exact h1), h.tab.below hb h.lt, h.lt, h.below.trans (hb.mono h.lo), h.lo⟩

set_option maxHeartbeats 4000000 in
set_option maxRecDepth 100000 in
theorem print_any (A : Option Addr) (n c L : Nat) (l : List Ph) (w : World) (h : Rd w L w.heap.size 3 A n (phs l)) (hf : ∀ p ∈ l, fitP p) (hz : n ≤ maxLen) :
    Calls Try.prog 47 #[.slice A n c] w fun e w' => e = .returned (.tuple #[.string (prS l), .int .i64 (prE l)]) ∧ Below w.heap.size w w' := by
  have hn := h.len_ph
  have H := Lib.hid (And.intro h hf)
  unfold maxLen at hz
  by_cases hlong : 128 < n
  · have he : prE l = 3 := by unfold prE; rw [if_pos (by omega)]
    have hs : prS l = bts [] := by unfold prS; rw [he]; rfl
    rw [he, hs]
    clear h hf hn he hs
    have hd : decide ((128 : Int) < (n : Int)) = true := by simp; omega
    go_enter Try.func47, Try.ntmps47
    go_wp2
    go_ret2
    exact ⟨rfl, Below.refl _ _⟩
  · have hd : decide ((128 : Int) < (n : Int)) = false := by simp; omega
    have HN := Lib.hid hn
    clear h hf hn
    go_enter Try.func47, Try.ntmps47
    go_wp2_with fail
    refine (table_any w).mono ?_
    rintro e w1 ⟨tb, rfl, hlo, ht, hb⟩
    have hlt := ht.lt
    have H1 := Lib.hid (And.intro ht hb)
    clear ht hb
    go_upto_region 5 with (fail)
    refine wp_abs (PrSt w tb w1.heap.size []) ⟨bld_new w1, H1.out.1.on ((Below.refl _ _).alloc (Nat.le_refl _) _), hlt, H1.out.2.trans (((Below.refl _ _).alloc (Nat.le_refl _) _).mono H1.out.2.size), H1.out.2.size⟩ ?_
    intro w2 hS
    have HS := Lib.hid hS
    clear hS H1
    generalize w1.heap.size = bb at *
    go_wp2
    go_loopw [7, 14] (fun _ iv wr => ∃ i : Nat, i ≤ n ∧ iv = .int .i64 i ∧ Hid (PrSt w tb bb (texts (l.take i)) wr ∧ (l.take i).all isF = true)) (fun _ iv _ => n - (intOf iv).toNat)
    case atStart => exact ⟨0, by omega, rfl, Lib.hid ⟨HS.out, by simp⟩⟩
    case round =>
      obtain ⟨i, hi, rfl, HR⟩ := hrel
      clear HS
      by_cases hlt2 : i < n
      · obtain ⟨b, o, hl, rfl, hL, hB, x0, x1, x2⟩ := (H.out.1.below HR.out.1.below (Nat.le_refl _)).ph hlt2
        have hfp := H.out.2 _ (List.getElem_mem hl)
        have hsn : l.take (i + 1) = l.take i ++ [l[i]] := List.take_succ_eq_append_getElem hl
        have hal : l.all isF = true → isF l[i] = true := fun h => List.all_eq_true.1 h _ (List.getElem_mem hl)
        generalize l[i] = p at *
        have HSN := Lib.hid hsn
        have HFP := Lib.hid hfp
        have HAL := Lib.hid hal
        have TL : Hid ((texts (l.take i)).length ≤ 896) := by
          have := texts_len _ HR.out.2
          rw [List.length_take] at this
          exact Lib.hid (by omega)
        clear hsn hfp hal hL hB
        go_upto_region 8 with (fail)
        refine wp_abs (fun wx => PrSt w tb bb (texts (l.take i)) wx ∧ Blk wx wr.heap.size 43 #[.int .i32 p.1, .bool p.2.1, .int .i32 p.2.2]) ⟨HR.out.1.on ((Below.refl _ _).alloc (Nat.le_refl _) _), Blk.new _ _ _⟩ ?_
        have PB := Lib.hid (bld_lt HR.out.1.bld)
        clear x0 x1 x2
        generalize wr.heap.size = pb at *
        rintro wx ⟨hS, hX⟩
        have wx0 : wx.cell? ⟨pb, 0, none⟩ = some (.int .i32 p.1) := hX.cell 0
        have wx1 : wx.cell? ⟨pb, 1, none⟩ = some (.bool p.2.1) := hX.cell 1
        have wx2 : wx.cell? ⟨pb, 2, none⟩ = some (.int .i32 p.2.2) := hX.cell 2
        have HX := Lib.hid (And.intro hS hX)
        clear hS hX
        go_wp2_with fail
        refine (is_any tb p wx HX.out.1.tab HFP.out.1).mono ?_
        rintro e wy ⟨rfl, hbY⟩
        have HY := Lib.hid (And.intro (HX.out.1.on hbY) (HX.out.2.below hbY HX.out.2.lt))
        clear hbY HX wx0 wx1 wx2
        have wy0 : wy.cell? ⟨pb, 0, none⟩ = some (.int .i32 p.1) := HY.out.2.cell 0
        cases hF : isF p with
        | false =>
          go_wp2
          go_ret2
          have hna : l.all isF = false := by
            cases hh : l.all isF with
            | false => rfl
            | true => rw [HAL.out hh] at hF; cases hF
          have he : prE l = 2 := by unfold prE; rw [if_neg (by rw [HN.out]; omega), hna]; rfl
          have hs : prS l = bts [] := by unfold prS; rw [he]; rfl
          exact ⟨by rw [he, hs]; rfl, HY.out.1.below⟩
        | true =>
          have HF := Lib.hid hF
          have hp := tab_small (isF_tab hF).1
          have HP := Lib.hid (And.intro hp (isF_tab hF).2)
          have HT := Lib.hid (textP_len hF)
          clear hF hp
          go_wp2_with fail
          refine (writeRune_any bb bb _ p.1 _ HY.out.1.bld (by rw [Lib.byteCells_length]; have := TL.out; (try simp only [List.length_append]); omega) (Nat.le_of_lt (bld_lt HY.out.1.bld)) HFP.out.1.1 HFP.out.1.2).mono ?_
          rintro e wa ⟨⟨_, rfl⟩, h1, hb1, hk1⟩
          have HA := Lib.hid (And.intro (HY.out.1.wrote (rune_enc HP.out.1.1 HP.out.1.2) h1 hb1) (HY.out.2.others hk1 (Nat.ne_of_gt PB.out) (by decide)))
          clear h1 hb1 hk1
          have EL := Lib.hid (encL_len HP.out.1.1 HP.out.1.2)
          clear wy0
          have wa1 : wa.cell? ⟨pb, 1, none⟩ = some (.bool p.2.1) := HA.out.2.cell 1
          have wa2 : wa.cell? ⟨pb, 2, none⟩ = some (.int .i32 p.2.2) := HA.out.2.cell 2
          cases hlg : p.2.1 with
          | true =>
            go_wp2_with fail
            refine (writeString_any bb bb _ ⟨#[203, 144]⟩ _ HA.out.1.bld (by rw [Lib.byteCells_length]; have := TL.out; (try simp only [List.length_append]); have := EL.out.1; simp [ByteArray.size]; omega) (Nat.le_of_lt (bld_lt HA.out.1.bld))).mono ?_
            rintro e wl ⟨⟨_, rfl⟩, h1, hb1, hk1⟩
            have HL := Lib.hid (And.intro (HA.out.1.wrote (u := longL) rfl h1 hb1) (HA.out.2.others hk1 (Nat.ne_of_gt PB.out) (by decide)))
            clear h1 hb1 hk1
            clear wa1 wa2
            have wl2 : wl.cell? ⟨pb, 2, none⟩ = some (.int .i32 p.2.2) := HL.out.2.cell 2
            by_cases hg : p.2.2 = 0
            · have hgb : (p.2.2 != 0) = false := by rw [hg]; rfl
              go_wp2
              go_roundw
              case rel => exact ⟨i + 1, by omega, by go_num, Lib.hid ⟨by rw [HSN.out, texts_snoc]; exact (show texts (l.take i) ++ encL p.1 ++ longL = texts (l.take i) ++ textP p by simp [textP, hlg, hg]) ▸ HL.out.1, by rw [HSN.out, List.all_append, HR.out.2]; simp [HF.out]⟩⟩
              case measure => simp [intOf]; omega
            · have hgb : (p.2.2 != 0) = true := by simpa using hg
              have hg2 : 0 ≤ p.2.2 ∧ p.2.2 < 2048 := by rcases HP.out.2 with h | h | h <;> omega
              have HG := Lib.hid hg2
              clear hg2
              go_wp2_with fail
              refine (writeRune_any bb bb _ p.2.2 _ HL.out.1.bld (by rw [Lib.byteCells_length]; have := TL.out; (try simp only [List.length_append]); have := EL.out.1; simp [longL] at *; omega) (Nat.le_of_lt (bld_lt HL.out.1.bld)) HFP.out.2.1 HFP.out.2.2).mono ?_
              rintro e wg ⟨⟨_, rfl⟩, h1, hb1, hk1⟩
              have HG1 := Lib.hid (And.intro (HL.out.1.wrote (rune_enc HG.out.1 HG.out.2) h1 hb1) (HL.out.2.others hk1 (Nat.ne_of_gt PB.out) (by decide)))
              clear h1 hb1 hk1
              have EG := Lib.hid (encL_len HG.out.1 HG.out.2)
              go_wp2_with fail
              refine (writeString_any bb bb _ ⟨#[204, 175]⟩ _ HG1.out.1.bld (by rw [Lib.byteCells_length]; have := TL.out; (try simp only [List.length_append]); have := EL.out.1; have := EG.out.1; simp [longL, ByteArray.size] at *; omega) (Nat.le_of_lt (bld_lt HG1.out.1.bld))).mono ?_
              rintro e wh ⟨⟨_, rfl⟩, h1, hb1, hk1⟩
              have HG2 := Lib.hid (And.intro (HG1.out.1.wrote (u := glideL) rfl h1 hb1) (HG1.out.2.others hk1 (Nat.ne_of_gt PB.out) (by decide)))
              clear h1 hb1 hk1
              go_wp2
              go_roundw
              case rel => exact ⟨i + 1, by omega, by go_num, Lib.hid ⟨by rw [HSN.out, texts_snoc]; exact (show texts (l.take i) ++ encL p.1 ++ longL ++ encL p.2.2 ++ glideL = texts (l.take i) ++ textP p by simp [textP, hlg, hg]) ▸ HG2.out.1, by rw [HSN.out, List.all_append, HR.out.2]; simp [HF.out]⟩⟩
              case measure => simp [intOf]; omega
          | false =>
            by_cases hg : p.2.2 = 0
            · have hgb : (p.2.2 != 0) = false := by rw [hg]; rfl
              go_wp2
              go_roundw
              case rel => exact ⟨i + 1, by omega, by go_num, Lib.hid ⟨by rw [HSN.out, texts_snoc]; exact (show texts (l.take i) ++ encL p.1 = texts (l.take i) ++ textP p by simp [textP, hlg, hg]) ▸ HA.out.1, by rw [HSN.out, List.all_append, HR.out.2]; simp [HF.out]⟩⟩
              case measure => simp [intOf]; omega
            · have hgb : (p.2.2 != 0) = true := by simpa using hg
              have hg2 : 0 ≤ p.2.2 ∧ p.2.2 < 2048 := by rcases HP.out.2 with h | h | h <;> omega
              have HG := Lib.hid hg2
              clear hg2
              go_wp2_with fail
              refine (writeRune_any bb bb _ p.2.2 _ HA.out.1.bld (by rw [Lib.byteCells_length]; have := TL.out; (try simp only [List.length_append]); have := EL.out.1; simp at *; omega) (Nat.le_of_lt (bld_lt HA.out.1.bld)) HFP.out.2.1 HFP.out.2.2).mono ?_
              rintro e wg ⟨⟨_, rfl⟩, h1, hb1, hk1⟩
              have HG1 := Lib.hid (And.intro (HA.out.1.wrote (rune_enc HG.out.1 HG.out.2) h1 hb1) (HA.out.2.others hk1 (Nat.ne_of_gt PB.out) (by decide)))
              clear h1 hb1 hk1
              have EG := Lib.hid (encL_len HG.out.1 HG.out.2)
              go_wp2_with fail
              refine (writeString_any bb bb _ ⟨#[204, 175]⟩ _ HG1.out.1.bld (by rw [Lib.byteCells_length]; have := TL.out; (try simp only [List.length_append]); have := EL.out.1; have := EG.out.1; simp [ByteArray.size] at *; omega) (Nat.le_of_lt (bld_lt HG1.out.1.bld))).mono ?_
              rintro e wh ⟨⟨_, rfl⟩, h1, hb1, hk1⟩
              have HG2 := Lib.hid (And.intro (HG1.out.1.wrote (u := glideL) rfl h1 hb1) (HG1.out.2.others hk1 (Nat.ne_of_gt PB.out) (by decide)))
              clear h1 hb1 hk1
              go_wp2
              go_roundw
              case rel => exact ⟨i + 1, by omega, by go_num, Lib.hid ⟨by rw [HSN.out, texts_snoc]; exact (show texts (l.take i) ++ encL p.1 ++ encL p.2.2 ++ glideL = texts (l.take i) ++ textP p by simp [textP, hlg, hg]) ▸ HG2.out.1, by rw [HSN.out, List.all_append, HR.out.2]; simp [HF.out]⟩⟩
              case measure => simp [intOf]; omega
      · have hin : i = n := by omega
        have htk : l.take i = l := List.take_of_length_le (by rw [HN.out]; omega)
        have he : prE l = 0 := by
          have := HR.out.2
          rw [htk] at this
          unfold prE; rw [if_neg (by rw [HN.out]; omega), this]; rfl
        have hs : prS l = bts (texts l) := by unfold prS; rw [he]; rfl
        have HE := Lib.hid (And.intro he (And.intro hs htk))
        clear he hs htk
        subst hin
        go_wp2_with fail
        refine (Try.Builder_String_any bb bb (texts (l.take i)) wr HR.out.1.bld (Nat.le_of_lt (bld_lt HR.out.1.bld))).mono ?_
        rintro e wz ⟨rfl, hb⟩
        have HZ := Lib.hid (HR.out.1.below.trans (hb.mono HR.out.1.lo))
        clear hb
        go_wp2
        go_ret2
        exact ⟨by rw [HE.out.1, HE.out.2.1, HE.out.2.2]; rfl, HZ.out⟩
end Go.Proofs.Ytogofchpocoebaa

namespace Go.Proofs.Ytogofchpocoebaa
open Go.RowKit Go.Maps

/-- memory while next runs -/
structure NxSt (w0 : World) (tb : Nat) (p : Ph) (W : World) : Prop where
  br : Blk W w0.heap.size 43 #[.int .i32 0, .bool false, .int .i32 0]
  bp : Blk W (w0.heap.size + 1) 43 #[.int .i32 p.1, .bool p.2.1, .int .i32 p.2.2]
  tab : TabIs W tb
  below : Below w0.heap.size w0 W
  lt : tb < w0.heap.size
theorem NxSt.on {w0 : World} {tb : Nat} {p : Ph} {W W' : World} (h : NxSt w0 tb p W) (hb : Below W.heap.size W W') : NxSt w0 tb p W' :=
  ⟨h.br.below hb h.br.lt, h.bp.below hb h.bp.lt, h.tab.on hb, h.below.trans (hb.mono h.below.size), h.lt⟩
theorem NxSt.rune {w0 : World} {tb : Nat} {p : Ph} {W : World} (h : NxSt w0 tb p W) (r : Int) : NxSt w0 tb (r, p.2.1, p.2.2) (W.setCell ⟨w0.heap.size + 1, 0, none⟩ (.int .i32 r)) :=
  ⟨h.br.far (by simp) _, by simpa using h.bp.set_ 0 (.int .i32 r), h.tab.only (Only.setCell (S := fun b => b = w0.heap.size + 1) (p := ⟨w0.heap.size + 1, 0, none⟩) (Only.refl _ _) (.inl rfl) _) (by have := h.lt; omega), h.below.setCell (by simp) _, h.lt⟩
theorem NxSt.long {w0 : World} {tb : Nat} {r g : Int} {lg : Bool} {W : World} (h : NxSt w0 tb (r, lg, g) W) : NxSt w0 tb (r, true, g) (W.setCell ⟨w0.heap.size + 1, 1, none⟩ (.bool true)) :=
  ⟨h.br.far (by simp) _, by simpa using h.bp.set_ 1 (.bool true), h.tab.only (Only.setCell (S := fun b => b = w0.heap.size + 1) (p := ⟨w0.heap.size + 1, 1, none⟩) (Only.refl _ _) (.inl rfl) _) (by have := h.lt; omega), h.below.setCell (by simp) _, h.lt⟩
theorem NxSt.stay {w0 : World} {tb : Nat} {p : Ph} {W W' : World} {S : Nat → Prop} (h : NxSt w0 tb p W) (ho : Only S W W') (hS : ∀ b, S b → w0.heap.size + 2 ≤ b) : NxSt w0 tb p W' := by
  have l := h.lt
  refine ⟨h.br.only ho (fun hs => ?_), h.bp.only ho (fun hs => ?_), h.tab.only ho (fun hs => ?_), h.below.trans (ho.below h.below.size (fun b hb hs => ?_)), l⟩
  all_goals
    have := hS _ hs
    omega

theorem headR_pos {s : ByteArray} (h : 0 < s.size) : headR s.data.toList = ((Utf8.decode s 0).1 : Int) := by
  have hne : s.data.toList ≠ [] := by
    intro e
    have h2 : s.data.toList.length = 0 := by rw [e]; rfl
    have h3 : s.size = s.data.toList.length := rfl
    omega
  unfold headR
  rw [if_neg hne]
  rfl
theorem headR_nil {s : ByteArray} (h : ¬ 0 < s.size) : headR s.data.toList = 0 := by
  have e : s.data.toList = [] := List.eq_nil_of_length_eq_zero (by have h3 : s.size = s.data.toList.length := rfl; omega)
  rw [e]; rfl
theorem enc_size (r : Int) : (Utf8.encode r).size = (encL r).length := by unfold encL; exact Array.length_toList.symm
theorem encL_len' {r : Int} (h0 : 0 ≤ r) (h1 : r < 2048) : (encL r).length ≤ 2 ∧ 0 < (encL r).length := by
  by_cases h : r < 128
  · rw [encL_one h0 h]; simp
  · rw [encL_two (by omega) h1]; simp
theorem nextL_none {l : List UInt8} (h : tabF (headR l) = none) : nextL l = ((0, false, 0), 0) := by unfold nextL; rw [h]
theorem nextL_some {l : List UInt8} {t : Tr} (h : tabF (headR l) = some t) : nextL l =
    (let r := headR l
     let w1 := (encL r).length
     let lg := longL.isPrefixOf (l.drop w1)
     let w2 := if lg then w1 + 2 else w1
     if !t.vow then ((r, lg, 0), w2)
     else if (105 :: glideL).isPrefixOf (l.drop w2) then ((r, lg, 105), w2 + 3)
     else if (117 :: glideL).isPrefixOf (l.drop w2) then ((r, lg, 117), w2 + 3)
     else ((r, lg, 0), w2)) := by unfold nextL; rw [h]

set_option maxHeartbeats 2000000 in
set_option maxRecDepth 100000 in
theorem next_any (tb : Nat) (s : ByteArray) (w : World) (h : TabIs w tb) (_hz : s.size ≤ maxLen) : Calls Try.prog 126 #[.map (some tb), .string s] w fun e w' =>
    e = .returned (.tuple #[.agg #[.int .i32 (nextL s.data.toList).1.1, .bool (nextL s.data.toList).1.2.1, .int .i32 (nextL s.data.toList).1.2.2], .int .i64 ((nextL s.data.toList).2 : Nat)]) ∧ Below w.heap.size w w' := by
  have H := Lib.hid h
  have hlt := h.lt
  unfold maxLen at _hz
  clear h
  go_enter Try.func126, Try.ntmps126
  go_upto_region 2 with (fail)
  refine wp_abs (NxSt w tb (0, false, 0)) ⟨(Blk.new _ _ _).alloc _, blk_new_eq (by simp), H.out.on (((Below.refl _ _).alloc (Nat.le_refl _) _).alloc (by simp) _), ((Below.refl _ _).alloc (Nat.le_refl _) _).alloc (by simp) _, hlt⟩ ?_
  intro w1 h1
  have H1 := Lib.hid h1
  clear h1 H
  go_wp2
  refine wp_loop_rounds 1 ?_
  rw [rounds_succ]
  refine wp_abs (fun wx => NxSt w tb (0, false, 0) wx ∧ wx.heap[w1.heap.size]? = some (.stringIter s 0)) ⟨H1.out.on (iter_below _ _ _), World.iter_heap _ _ _⟩ ?_
  rintro wx ⟨hS, hi⟩
  have lk := H1.out.bp.lt
  by_cases h0 : 0 < s.size
  · have hnx : ∀ ty, (Instr.next (.pointer (some ⟨w1.heap.size, 0, none⟩)) true ty).run Try.prog wx = _ := fun ty => Lib.run_next_any_at wx w1.heap.size s 0 ty hi h0
    simp only [Nat.zero_add] at hnx
    have hne : w.heap.size + 1 ≠ w1.heap.size := by omega
    have c0 : ∀ x, (wx.iterAt w1.heap.size s x).cell? ⟨w.heap.size + 1, 0, none⟩ = some (.int .i32 0) := fun x => (cell_iterAt wx _ s x _ 0 hne).trans (hS.bp.cell 0)
    have f0 : ∀ x, (wx.iterAt w1.heap.size s x).frozen? ⟨w.heap.size + 1, 0, none⟩ = false := fun x => (frozen_iterAt wx _ s x _ 0 hne).trans (hS.bp.frozen 0)
    have hr := headR_pos h0
    have hd := decode_le s 0
    generalize (Utf8.decode s 0).1 = r at *
    generalize (Utf8.decode s 0).2 = dw at *
    have HS := Lib.hid hS
    have HR := Lib.hid hr
    clear hS hi hr hne
    go_upto_region 6 with (fail)
    refine wp_abs (NxSt w tb ((r : Int), false, 0)) ((HS.out.stay (Only.iterAt (S := fun b => b = w1.heap.size) (Only.refl _ wx) (.inl rfl) s dw) (fun b e => by omega)).rune r) ?_
    clear c0 f0 hnx HS H1
    intro wy hy
    have d0 : wy.cell? ⟨w.heap.size + 1, 0, none⟩ = some (.int .i32 r) := hy.bp.cell 0
    have hlk := (tab_look hy.tab (r := (r : Int)) ⟨by omega, by omega⟩).1
    have ht' : trV (traits r) = .agg #[.bool (traits r).vow, .int .i64 (traits r).hgt, .int .i64 (traits r).bck, .bool (traits r).rnd, .int .i64 (traits r).plc, .int .i64 (traits r).mnr, .bool (traits r).vcd] := rfl
    rw [ht'] at hlk
    have HY := Lib.hid hy
    clear hy ht'
    have hT2 : (tabF (r : Int)).isSome = (tabF (r : Int)).isSome := rfl
    generalize hok : (tabF (r : Int)).isSome = ok at hlk
    generalize htt : traits (r : Int) = t at hlk
    have HT := Lib.hid (And.intro hok htt)
    clear hok htt hT2
    go_upto_region 7 with (fail)
    refine wp_abs (fun wz => NxSt w tb ((r : Int), false, 0) wz ∧ Blk wz wy.heap.size 56 #[.bool t.vow, .int .i64 t.hgt, .int .i64 t.bck, .bool t.rnd, .int .i64 t.plc, .int .i64 t.mnr, .bool t.vcd]) ⟨HY.out.on ((Below.refl _ _).alloc (Nat.le_refl _) _), Blk.new _ _ _⟩ ?_
    have lx : w.heap.size + 1 < wy.heap.size := HY.out.bp.lt
    clear hlk d0 HY
    generalize wy.heap.size = xb at *
    rintro wz ⟨hS, hX⟩
    have e0 : wz.cell? ⟨w.heap.size, 0, none⟩ = some (.int .i32 0) := hS.br.cell 0
    have e1 : wz.cell? ⟨w.heap.size, 1, none⟩ = some (.bool false) := hS.br.cell 1
    have e2 : wz.cell? ⟨w.heap.size, 2, none⟩ = some (.int .i32 0) := hS.br.cell 2
    have f0 := hS.br.frozen
    have d0 : wz.cell? ⟨w.heap.size + 1, 0, none⟩ = some (.int .i32 r) := hS.bp.cell 0
    have d1 : wz.cell? ⟨w.heap.size + 1, 1, none⟩ = some (.bool false) := hS.bp.cell 1
    have d2 : wz.cell? ⟨w.heap.size + 1, 2, none⟩ = some (.int .i32 0) := hS.bp.cell 2
    have g0 := hS.bp.frozen
    have x0 : wz.cell? ⟨xb, 0, none⟩ = some (.bool t.vow) := hX.cell 0
    have lz := hS.br.lt
    have lz1 := hS.bp.lt
    have HS := Lib.hid (And.intro hS hX)
    clear hS hX
    cases ok with
    | false =>
      have hn := nextL_none (l := s.data.toList) (by rw [HR.out]; cases h : tabF (r : Int) with | none => rfl | some t => have := HT.out.1; rw [h] at this; cases this)
      have HN := Lib.hid hn
      clear hn
      go_wp2
      have HF := ((HS.out.1.br.set_ 0 (.int .i32 0)).set_ 1 (.bool false)).set_ 2 (.int .i32 0)
      have z0 := HF.cell 0
      have z1 := HF.cell 1
      have z2 := HF.cell 2
      simp at z0 z1 z2
      refine bodyPost_ret (v := .tuple #[.agg #[.int .i32 0, .bool false, .int .i32 0], .int .i64 0]) (by simp [results, Try.results126, go_sem, z0, z1, z2]) rfl ?_
      exact ⟨by rw [HN.out]; rfl, ((HS.out.1.below.setCell (by simp) _).setCell (by simp) _).setCell (by simp) _⟩
    | true =>
      have hsome : tabF (r : Int) = some t := by
        have h1 := HT.out.1
        have h2 := HT.out.2
        unfold traits at h2
        cases h : tabF (r : Int) with
        | none => rw [h] at h1; cases h1
        | some t' => rw [h] at h2; rw [← h2]; rfl
      have hn := nextL_some (l := s.data.toList) (t := t) (by rw [HR.out]; exact hsome)
      rw [HR.out] at hn
      dsimp only at hn
      have hpre := (head_pre (l := s.data.toList) (by rw [HR.out, hsome]; rfl)).2.1
      rw [HR.out] at hpre
      have hle := hpre.length_le
      have hsz : s.data.toList.length = s.size := rfl
      have hts := tab_small (r := (r : Int)) (by rw [hsome]; rfl)
      have hen := encL_len' hts.1 hts.2
      have hes := enc_size (r : Int)
      have hdr : ∀ n, s.extract n s.size = bts (s.data.toList.drop n) := fun n => bts_drop s.data.toList n
      generalize hN : nextL s.data.toList = N at *
      have HN := Lib.hid (And.intro hN hn)
      have HP := Lib.hid hpre
      clear hN hn hpre hts hsome
      rw [hsz] at hle
      generalize hl1 : (encL (r : Int)).length = n1 at *
      clear hl1 hsz
      --TAIL
      go_wp2_with fail
      refine (Try.strings_HasPrefix _ _ _).mono ?_
      rintro e w' ⟨rfl, rfl⟩
      rw [show Lib.hasPrefix (bts (s.data.toList.drop n1)).data.toList (⟨#[203, 144]⟩ : ByteArray).data.toList = longL.isPrefixOf (s.data.toList.drop n1) from rfl]
      cases hlg : longL.isPrefixOf (s.data.toList.drop n1) with
      | true =>
        have hl2 : 2 + n1 ≤ s.size := by
          have := (List.isPrefixOf_iff_prefix.1 hlg).length_le
          rw [List.length_drop] at this
          have h3 : s.size = s.data.toList.length := rfl
          simp [longL] at this
          omega
        go_upto_region 13 with (fail)
        refine wp_abs (fun wv => NxSt w tb ((r : Int), true, 0) wv ∧ Blk wv xb 56 #[.bool t.vow, .int .i64 t.hgt, .int .i64 t.bck, .bool t.rnd, .int .i64 t.plc, .int .i64 t.mnr, .bool t.vcd]) ⟨HS.out.1.long, HS.out.2.far (by simp; omega) _⟩ ?_
        clear e0 e1 e2 f0 d0 d1 d2 g0 x0 lz lz1
        rintro wv ⟨hS, hX⟩
        have e0 : wv.cell? ⟨w.heap.size, 0, none⟩ = some (.int .i32 0) := hS.br.cell 0
        have e1 : wv.cell? ⟨w.heap.size, 1, none⟩ = some (.bool false) := hS.br.cell 1
        have e2 : wv.cell? ⟨w.heap.size, 2, none⟩ = some (.int .i32 0) := hS.br.cell 2
        have f0 := hS.br.frozen
        have d0 : wv.cell? ⟨w.heap.size + 1, 0, none⟩ = some (.int .i32 r) := hS.bp.cell 0
        have d1 : wv.cell? ⟨w.heap.size + 1, 1, none⟩ = some (.bool true) := hS.bp.cell 1
        have d2 : wv.cell? ⟨w.heap.size + 1, 2, none⟩ = some (.int .i32 0) := hS.bp.cell 2
        have g0 := hS.bp.frozen
        have x0 : wv.cell? ⟨xb, 0, none⟩ = some (.bool t.vow) := hX.cell 0
        have lz := hS.br.lt
        have lz1 := hS.bp.lt
        have HV := Lib.hid (And.intro hS hX)
        clear hS hX HS
        rcases bool_or' t.vow with hv | hv
        · skip
          go_wp2
          have hN : nextL s.data.toList = ((((r : Nat) : Int), true, 0), n1 + 2) := by rw [HN.out.1, HN.out.2]; simp [hlg, hv]
          have HF := ((HV.out.1.br.set_ 0 (.int .i32 r)).set_ 1 (.bool true)).set_ 2 (.int .i32 0)
          have z0 := HF.cell 0
          have z1 := HF.cell 1
          have z2 := HF.cell 2
          simp at z0 z1 z2
          refine bodyPost_ret (v := .tuple #[.agg #[.int .i32 r, .bool true, .int .i32 0], .int .i64 ((n1 + 2 : Nat) : Int)]) (by simp [results, Try.results126, go_sem, z0, z1, z2]; try omega) rfl ?_
          exact ⟨by rw [hN], ((HV.out.1.below.setCell (by simp) _).setCell (by simp) _).setCell (by simp) _⟩
        · go_wp2_with fail
          refine (Try.strings_HasPrefix _ _ _).mono ?_
          rintro e w' ⟨rfl, rfl⟩
          rw [show Lib.hasPrefix (bts (s.data.toList.drop (n1 + 2))).data.toList (⟨#[105, 204, 175]⟩ : ByteArray).data.toList = (105 :: glideL).isPrefixOf (s.data.toList.drop (n1 + 2)) from rfl]
          cases hg1 : (105 :: glideL).isPrefixOf (s.data.toList.drop (n1 + 2)) with
          | true =>
            have hl3 : 3 + (n1 + 2) ≤ s.size := by
              have := (List.isPrefixOf_iff_prefix.1 hg1).length_le
              rw [List.length_drop] at this
              have h3 : s.size = s.data.toList.length := rfl
              simp [glideL] at this
              omega
            go_wp2
            have hN : nextL s.data.toList = ((((r : Nat) : Int), true, 105), n1 + 2 + 3) := by rw [HN.out.1, HN.out.2]; simp [hlg, hv, hg1]
            have HF := (((HV.out.1.br.far (p := ⟨w.heap.size + 1, 2, none⟩) (by simp) (.int .i32 105)).set_ 0 (.int .i32 r)).set_ 1 (.bool true)).set_ 2 (.int .i32 105)
            have z0 := HF.cell 0
            have z1 := HF.cell 1
            have z2 := HF.cell 2
            simp at z0 z1 z2
            refine bodyPost_ret (v := .tuple #[.agg #[.int .i32 r, .bool true, .int .i32 105], .int .i64 ((n1 + 2 + 3 : Nat) : Int)]) (by simp [results, Try.results126, go_sem, z0, z1, z2]; try omega) rfl ?_
            exact ⟨by rw [hN], (((HV.out.1.below.setCell (p := ⟨w.heap.size + 1, 2, none⟩) (by simp) _).setCell (by simp) _).setCell (by simp) _).setCell (by simp) _⟩
          | false =>
            go_wp2_with fail
            refine (Try.strings_HasPrefix _ _ _).mono ?_
            rintro e w' ⟨rfl, rfl⟩
            rw [show Lib.hasPrefix (bts (s.data.toList.drop (n1 + 2))).data.toList (⟨#[117, 204, 175]⟩ : ByteArray).data.toList = (117 :: glideL).isPrefixOf (s.data.toList.drop (n1 + 2)) from rfl]
            cases hg2 : (117 :: glideL).isPrefixOf (s.data.toList.drop (n1 + 2)) with
            | true =>
              have hl3 : 3 + (n1 + 2) ≤ s.size := by
                have := (List.isPrefixOf_iff_prefix.1 hg2).length_le
                rw [List.length_drop] at this
                have h3 : s.size = s.data.toList.length := rfl
                simp [glideL] at this
                omega
              go_wp2
              have hN : nextL s.data.toList = ((((r : Nat) : Int), true, 117), n1 + 2 + 3) := by rw [HN.out.1, HN.out.2]; simp [hlg, hv, hg1, hg2]
              have HF := (((HV.out.1.br.far (p := ⟨w.heap.size + 1, 2, none⟩) (by simp) (.int .i32 117)).set_ 0 (.int .i32 r)).set_ 1 (.bool true)).set_ 2 (.int .i32 117)
              have z0 := HF.cell 0
              have z1 := HF.cell 1
              have z2 := HF.cell 2
              simp at z0 z1 z2
              refine bodyPost_ret (v := .tuple #[.agg #[.int .i32 r, .bool true, .int .i32 117], .int .i64 ((n1 + 2 + 3 : Nat) : Int)]) (by simp [results, Try.results126, go_sem, z0, z1, z2]; try omega) rfl ?_
              exact ⟨by rw [hN], (((HV.out.1.below.setCell (p := ⟨w.heap.size + 1, 2, none⟩) (by simp) _).setCell (by simp) _).setCell (by simp) _).setCell (by simp) _⟩
            | false =>
              go_wp2
              have hN : nextL s.data.toList = ((((r : Nat) : Int), true, 0), n1 + 2) := by rw [HN.out.1, HN.out.2]; simp [hlg, hv, hg1, hg2]
              have HF := ((HV.out.1.br.set_ 0 (.int .i32 r)).set_ 1 (.bool true)).set_ 2 (.int .i32 0)
              have z0 := HF.cell 0
              have z1 := HF.cell 1
              have z2 := HF.cell 2
              simp at z0 z1 z2
              refine bodyPost_ret (v := .tuple #[.agg #[.int .i32 r, .bool true, .int .i32 0], .int .i64 ((n1 + 2 : Nat) : Int)]) (by simp [results, Try.results126, go_sem, z0, z1, z2]; try omega) rfl ?_
              exact ⟨by rw [hN], ((HV.out.1.below.setCell (by simp) _).setCell (by simp) _).setCell (by simp) _⟩
      | false =>
        go_upto_region 13 with (fail)
        refine wp_abs (fun wv => NxSt w tb ((r : Int), false, 0) wv ∧ Blk wv xb 56 #[.bool t.vow, .int .i64 t.hgt, .int .i64 t.bck, .bool t.rnd, .int .i64 t.plc, .int .i64 t.mnr, .bool t.vcd]) ⟨HS.out.1, HS.out.2⟩ ?_
        clear e0 e1 e2 f0 d0 d1 d2 g0 x0 lz lz1
        rintro wv ⟨hS, hX⟩
        have e0 : wv.cell? ⟨w.heap.size, 0, none⟩ = some (.int .i32 0) := hS.br.cell 0
        have e1 : wv.cell? ⟨w.heap.size, 1, none⟩ = some (.bool false) := hS.br.cell 1
        have e2 : wv.cell? ⟨w.heap.size, 2, none⟩ = some (.int .i32 0) := hS.br.cell 2
        have f0 := hS.br.frozen
        have d0 : wv.cell? ⟨w.heap.size + 1, 0, none⟩ = some (.int .i32 r) := hS.bp.cell 0
        have d1 : wv.cell? ⟨w.heap.size + 1, 1, none⟩ = some (.bool false) := hS.bp.cell 1
        have d2 : wv.cell? ⟨w.heap.size + 1, 2, none⟩ = some (.int .i32 0) := hS.bp.cell 2
        have g0 := hS.bp.frozen
        have x0 : wv.cell? ⟨xb, 0, none⟩ = some (.bool t.vow) := hX.cell 0
        have lz := hS.br.lt
        have lz1 := hS.bp.lt
        have HV := Lib.hid (And.intro hS hX)
        clear hS hX HS
        rcases bool_or' t.vow with hv | hv
        · skip
          go_wp2
          have hN : nextL s.data.toList = ((((r : Nat) : Int), false, 0), n1) := by rw [HN.out.1, HN.out.2]; simp [hlg, hv]
          have HF := ((HV.out.1.br.set_ 0 (.int .i32 r)).set_ 1 (.bool false)).set_ 2 (.int .i32 0)
          have z0 := HF.cell 0
          have z1 := HF.cell 1
          have z2 := HF.cell 2
          simp at z0 z1 z2
          refine bodyPost_ret (v := .tuple #[.agg #[.int .i32 r, .bool false, .int .i32 0], .int .i64 ((n1 : Nat) : Int)]) (by simp [results, Try.results126, go_sem, z0, z1, z2]; try omega) rfl ?_
          exact ⟨by rw [hN], ((HV.out.1.below.setCell (by simp) _).setCell (by simp) _).setCell (by simp) _⟩
        · go_wp2_with fail
          refine (Try.strings_HasPrefix _ _ _).mono ?_
          rintro e w' ⟨rfl, rfl⟩
          rw [show Lib.hasPrefix (bts (s.data.toList.drop (n1))).data.toList (⟨#[105, 204, 175]⟩ : ByteArray).data.toList = (105 :: glideL).isPrefixOf (s.data.toList.drop (n1)) from rfl]
          cases hg1 : (105 :: glideL).isPrefixOf (s.data.toList.drop (n1)) with
          | true =>
            have hl3 : 3 + (n1) ≤ s.size := by
              have := (List.isPrefixOf_iff_prefix.1 hg1).length_le
              rw [List.length_drop] at this
              have h3 : s.size = s.data.toList.length := rfl
              simp [glideL] at this
              omega
            go_wp2
            have hN : nextL s.data.toList = ((((r : Nat) : Int), false, 105), n1 + 3) := by rw [HN.out.1, HN.out.2]; simp [hlg, hv, hg1]
            have HF := (((HV.out.1.br.far (p := ⟨w.heap.size + 1, 2, none⟩) (by simp) (.int .i32 105)).set_ 0 (.int .i32 r)).set_ 1 (.bool false)).set_ 2 (.int .i32 105)
            have z0 := HF.cell 0
            have z1 := HF.cell 1
            have z2 := HF.cell 2
            simp at z0 z1 z2
            refine bodyPost_ret (v := .tuple #[.agg #[.int .i32 r, .bool false, .int .i32 105], .int .i64 ((n1 + 3 : Nat) : Int)]) (by simp [results, Try.results126, go_sem, z0, z1, z2]; try omega) rfl ?_
            exact ⟨by rw [hN], (((HV.out.1.below.setCell (p := ⟨w.heap.size + 1, 2, none⟩) (by simp) _).setCell (by simp) _).setCell (by simp) _).setCell (by simp) _⟩
          | false =>
            go_wp2_with fail
            refine (Try.strings_HasPrefix _ _ _).mono ?_
            rintro e w' ⟨rfl, rfl⟩
            rw [show Lib.hasPrefix (bts (s.data.toList.drop (n1))).data.toList (⟨#[117, 204, 175]⟩ : ByteArray).data.toList = (117 :: glideL).isPrefixOf (s.data.toList.drop (n1)) from rfl]
            cases hg2 : (117 :: glideL).isPrefixOf (s.data.toList.drop (n1)) with
            | true =>
              have hl3 : 3 + (n1) ≤ s.size := by
                have := (List.isPrefixOf_iff_prefix.1 hg2).length_le
                rw [List.length_drop] at this
                have h3 : s.size = s.data.toList.length := rfl
                simp [glideL] at this
                omega
              go_wp2
              have hN : nextL s.data.toList = ((((r : Nat) : Int), false, 117), n1 + 3) := by rw [HN.out.1, HN.out.2]; simp [hlg, hv, hg1, hg2]
              have HF := (((HV.out.1.br.far (p := ⟨w.heap.size + 1, 2, none⟩) (by simp) (.int .i32 117)).set_ 0 (.int .i32 r)).set_ 1 (.bool false)).set_ 2 (.int .i32 117)
              have z0 := HF.cell 0
              have z1 := HF.cell 1
              have z2 := HF.cell 2
              simp at z0 z1 z2
              refine bodyPost_ret (v := .tuple #[.agg #[.int .i32 r, .bool false, .int .i32 117], .int .i64 ((n1 + 3 : Nat) : Int)]) (by simp [results, Try.results126, go_sem, z0, z1, z2]; try omega) rfl ?_
              exact ⟨by rw [hN], (((HV.out.1.below.setCell (p := ⟨w.heap.size + 1, 2, none⟩) (by simp) _).setCell (by simp) _).setCell (by simp) _).setCell (by simp) _⟩
            | false =>
              go_wp2
              have hN : nextL s.data.toList = ((((r : Nat) : Int), false, 0), n1) := by rw [HN.out.1, HN.out.2]; simp [hlg, hv, hg1, hg2]
              have HF := ((HV.out.1.br.set_ 0 (.int .i32 r)).set_ 1 (.bool false)).set_ 2 (.int .i32 0)
              have z0 := HF.cell 0
              have z1 := HF.cell 1
              have z2 := HF.cell 2
              simp at z0 z1 z2
              refine bodyPost_ret (v := .tuple #[.agg #[.int .i32 r, .bool false, .int .i32 0], .int .i64 ((n1 : Nat) : Int)]) (by simp [results, Try.results126, go_sem, z0, z1, z2]; try omega) rfl ?_
              exact ⟨by rw [hN], ((HV.out.1.below.setCell (by simp) _).setCell (by simp) _).setCell (by simp) _⟩
      --END
  · have hnx : ∀ ty, (Instr.next (.pointer (some ⟨w1.heap.size, 0, none⟩)) true ty).run Try.prog wx = _ := fun ty => Lib.run_next_end_at wx w1.heap.size s 0 ty hi (by omega)
    have hn := nextL_none (l := s.data.toList) (by rw [headR_nil h0]; decide +kernel)
    have HN := Lib.hid hn
    have HS := Lib.hid hS
    clear hS hi hn
    go_upto_region 6 with (fail)
    clear hnx
    have d0 : wx.cell? ⟨w.heap.size + 1, 0, none⟩ = some (.int .i32 0) := HS.out.bp.cell 0
    have hlk := (tab_look HS.out.tab (r := (0 : Int)) ⟨by omega, by omega⟩).1
    have hT2 : (tabF 0).isSome = false := by decide +kernel
    have ht' : trV (traits 0) = .agg #[.bool (traits 0).vow, .int .i64 (traits 0).hgt, .int .i64 (traits 0).bck, .bool (traits 0).rnd, .int .i64 (traits 0).plc, .int .i64 (traits 0).mnr, .bool (traits 0).vcd] := rfl
    rw [ht', hT2] at hlk
    generalize traits 0 = t at *
    clear ht' hT2
    go_upto_region 7 with (fail)
    refine wp_abs (NxSt w tb (0, false, 0)) (HS.out.on ((Below.refl _ _).alloc (Nat.le_refl _) _)) ?_
    clear hlk d0 HS
    intro wz hS
    have e0 : wz.cell? ⟨w.heap.size, 0, none⟩ = some (.int .i32 0) := hS.br.cell 0
    have e1 : wz.cell? ⟨w.heap.size, 1, none⟩ = some (.bool false) := hS.br.cell 1
    have e2 : wz.cell? ⟨w.heap.size, 2, none⟩ = some (.int .i32 0) := hS.br.cell 2
    have f0 := hS.br.frozen
    have lz := hS.br.lt
    have HS := Lib.hid hS
    clear hS
    go_wp2
    have HF := ((HS.out.br.set_ 0 (.int .i32 0)).set_ 1 (.bool false)).set_ 2 (.int .i32 0)
    have z0 := HF.cell 0
    have z1 := HF.cell 1
    have z2 := HF.cell 2
    simp at z0 z1 z2
    refine bodyPost_ret (v := .tuple #[.agg #[.int .i32 0, .bool false, .int .i32 0], .int .i64 0]) (by simp [results, Try.results126, go_sem, z0, z1, z2]) rfl ?_
    exact ⟨by rw [HN.out]; rfl, ((HS.out.below.setCell (by simp) _).setCell (by simp) _).setCell (by simp) _⟩
end Go.Proofs.Ytogofchpocoebaa

namespace Go.Proofs.Ytogofchpocoebaa
open Go.RowKit Go.Maps

/-- how reading ends -/
def rdFin (l : List UInt8) (at_ : Nat) (out : List Ph) (many : Int) : List Ph × Int × Int := if 0 ≤ many then ([], 3, many) else if at_ < l.length then ([], 80, at_) else (out, 0, 0)
/-- reading from a place on, phones behind it being read -/
def rdGo (l : List UInt8) : Nat → Nat → List Ph → Int → List Ph × Int × Int
  | 0, at_, out, many => rdFin l at_ out many
  | f + 1, at_, out, many =>
    if at_ < l.length then
      if (nextL (l.drop at_)).2 = 0 then rdFin l at_ out many
      else if out.length = 128 ∧ many < 0 then rdGo l f (at_ + (nextL (l.drop at_)).2) out at_
      else if many < 0 then rdGo l f (at_ + (nextL (l.drop at_)).2) (out ++ [(nextL (l.drop at_)).1]) many
      else rdGo l f (at_ + (nextL (l.drop at_)).2) out many
    else rdFin l at_ out many
def readL (l : List UInt8) : List Ph × Int × Int := rdGo l (l.length + 1) 0 [] (-1)
theorem rdGo_end (l : List UInt8) (f at_ : Nat) (out : List Ph) (many : Int) (h : ¬ at_ < l.length ∨ (nextL (l.drop at_)).2 = 0) : rdGo l f at_ out many = rdFin l at_ out many := by
  cases f with
  | zero => rfl
  | succ f =>
    unfold rdGo
    split
    · rename_i h1
      rcases h with h | h
      · exact absurd h1 h
      · rw [if_pos h]
    · rfl

theorem pre_len {x l : List UInt8} {n : Nat} (h : x.isPrefixOf (l.drop n) = true) (hx : 0 < x.length) : n + x.length ≤ l.length := by
  have := (List.isPrefixOf_iff_prefix.1 h).length_le
  rw [List.length_drop] at this
  omega
theorem nextL_le (l : List UInt8) : (nextL l).2 ≤ l.length := by
  cases h : tabF (headR l) with
  | none => rw [nextL_none h]; exact Nat.zero_le _
  | some t =>
    rw [nextL_some h]
    have h1 := (head_pre (l := l) (by rw [h]; rfl)).2.1.length_le
    dsimp only
    generalize (encL (headR l)).length = n1 at *
    cases h2 : longL.isPrefixOf (l.drop n1) with
    | true =>
      have := pre_len h2 (by decide)
      simp only [longL, List.length_cons, List.length_nil] at this
      simp only [if_true]
      split
      · exact this
      · split
        · rename_i h3; have := pre_len h3 (by simp); simpa [glideL] using this
        · split
          · rename_i h3; have := pre_len h3 (by simp); simpa [glideL] using this
          · exact this
    | false =>
      simp only [Bool.false_eq_true, if_false]
      split
      · exact h1
      · split
        · rename_i h3; have := pre_len h3 (by simp); simpa [glideL] using this
        · split
          · rename_i h3; have := pre_len h3 (by simp); simpa [glideL] using this
          · exact h1
theorem rdGo_step {l : List UInt8} {f at_ : Nat} {out : List Ph} {many : Int} {N : Ph × Nat} (hN : nextL (l.drop at_) = N) (h : at_ < l.length) (hf : l.length - at_ < f) (hn : N.2 ≠ 0) :
    ∃ f', l.length - (at_ + N.2) < f' ∧ rdGo l f at_ out many = (if out.length = 128 ∧ many < 0 then rdGo l f' (at_ + N.2) out at_ else if many < 0 then rdGo l f' (at_ + N.2) (out ++ [N.1]) many else rdGo l f' (at_ + N.2) out many) := by
  subst hN
  cases f with
  | zero => omega
  | succ f =>
    refine ⟨f, by omega, ?_⟩
    conv => lhs; unfold rdGo
    rw [if_pos h, if_neg hn]

/-- memory while Read runs -/
structure RaSt (w0 : World) (tb : Nat) (v : Value) (out : List Ph) (W : World) : Prop where
  br : Blk W w0.heap.size 68 #[.int .i64 0, .int .i64 0]
  tab : TabIs W tb
  own : W.ownsRow (w0.heap.size + 1) 43 3 v out.length (phs out)
  below : Below w0.heap.size w0 W
theorem RaSt.on {w0 : World} {tb : Nat} {v : Value} {out : List Ph} {W W' : World} (h : RaSt w0 tb v out W) (hb : Below W.heap.size W W') : RaSt w0 tb v out W' :=
  ⟨h.br.below hb h.br.lt, h.tab.on hb, own_stay h.own (Only.of_below hb _), h.below.trans (hb.mono h.below.size)⟩
theorem tab_own {W : World} {base tb n sz : Nat} {e : TypeId} {v : Value} {xs : List Value} (h : W.ownsRow base e sz v n xs) (ht : TabIs W tb) : v.ownBlock ≠ some tb := by
  intro hv
  rcases h.2 with ⟨rfl, _⟩ | ⟨g', cap, cur, rfl, _, hg, _⟩
  · simp [Value.ownBlock] at hv
  · have : g' = tb := by simpa [Value.ownBlock] using hv
    subst this
    obtain ⟨D, ⟨es, clock, hb, _⟩, _⟩ := ht
    rw [hb] at hg
    cases hg
theorem RaSt.app {w0 : World} {tb : Nat} {v v' : Value} {out : List Ph} {W W' : World} (h : RaSt w0 tb v out W) (p : Ph) (ho : W'.ownsRow (w0.heap.size + 1) 43 3 v' (out.length + 1) (phs out ++ phC p)) (hg : W.grownBy W' v.ownBlock) : RaSt w0 tb v' (out ++ [p]) W' := by
  have hO : Only (fun k => v.ownBlock = some k) W W' := (Only.refl _ _).grown hg (fun _ hg => .inl hg)
  refine ⟨h.br.only hO (fun hk => by have := (h.own.lt _ hk).1; omega), h.tab.only hO (tab_own h.own h.tab), ?_, h.below.trans (hO.below h.below.size (fun k hk hh => by have := (h.own.lt _ hh).1; omega))⟩
  rw [phs_append, List.length_append]
  simpa [phs] using ho
theorem info43 : (Try.prog.info? 43).map (fun i => (i.zero, i.size, i.bytes)) = some (some (.agg #[.int .i32 0, .bool false, .int .i32 0]), 3, 12) := by kernel_rfl
set_option maxHeartbeats 4000000 in
set_option maxRecDepth 100000 in
theorem read_any (s : ByteArray) (w : World) (hz : s.size ≤ maxLen) : Calls Try.prog 57 #[.string s] w fun e w' => ∃ v, e = .returned (.tuple #[v, .agg #[.int .i64 (readL s.data.toList).2.1, .int .i64 (readL s.data.toList).2.2]]) ∧
    w'.ownsRow w.heap.size 43 3 v (readL s.data.toList).1.length (phs (readL s.data.toList).1) ∧ Below w.heap.size w w' := by
  obtain ⟨i0, hi, hz0, hz1, hz2⟩ := info_parts info43
  have HI := Lib.hid (And.intro hi (And.intro hz0 (And.intro hz1 hz2)))
  clear hi hz0 hz1 hz2
  have HZ := Lib.hid hz
  unfold maxLen at hz
  go_enter Try.func57, Try.ntmps57
  go_upto_region 1 with (fail)
  refine wp_abs (fun wx => Blk wx w.heap.size 68 #[.int .i64 0, .int .i64 0] ∧ Below w.heap.size w wx) ⟨Blk.new _ _ _, (Below.refl _ _).alloc (Nat.le_refl _) _⟩ ?_
  rintro w1 ⟨hB, hb⟩
  have H1 := Lib.hid (And.intro hB hb)
  clear hB hb
  go_wp2_with fail
  refine (table_any w1).mono ?_
  rintro e w2 ⟨tb, rfl, hlo, ht, hb⟩
  have hS : RaSt w tb (.slice none 0 0) [] w2 := ⟨H1.out.1.below hb H1.out.1.lt, ht, World.ownsRow_nil _ _ _ _, H1.out.2.trans (hb.mono H1.out.2.size)⟩
  have HS := Lib.hid hS
  clear hS ht hb hlo H1
  have hdr : ∀ n, s.extract n s.size = bts (s.data.toList.drop n) := fun n => bts_drop s.data.toList n
  go_wp2
  go_loopw [5, 6, 7, 8, 9] (fun v5 v6 v7 _ _ wr => ∃ (out : List Ph) (many : Int) (pos f : Nat), v6 = .int .i64 many ∧ v7 = .int .i64 pos ∧ -1 ≤ many ∧ many ≤ s.size ∧ pos ≤ s.size ∧ out.length ≤ 128 ∧ Hid (RaSt w tb v5 out wr ∧ readL s.data.toList = rdGo s.data.toList f pos out many ∧ s.size - pos < f)) (fun _ _ v7 _ _ _ => s.size - (intOf v7).toNat)
  case atStart => exact ⟨[], -1, 0, s.size + 1, rfl, rfl, by omega, by omega, by omega, by simp, Lib.hid ⟨HS.out, rfl, by omega⟩⟩
  case round =>
    obtain ⟨out, many, pos, f, rfl, rfl, hm1, hm2, hpos, hol, HR⟩ := hrel
    clear HS
    have HL := Lib.hid (show s.size = s.data.toList.length from rfl)
    by_cases hp : pos < s.size
    · go_wp2_with fail
      refine (next_any tb (bts (s.data.toList.drop pos)) wr HR.out.1.tab (by rw [bts_size, List.length_drop]; have := HZ.out; have := HL.out; omega)).mono ?_
      rintro e wa ⟨rfl, hb⟩
      rw [show (bts (s.data.toList.drop pos)).data.toList = s.data.toList.drop pos from rfl]
      have hle := nextL_le (s.data.toList.drop pos)
      rw [List.length_drop, ← HL.out] at hle
      have HA := Lib.hid (HR.out.1.on hb)
      clear hb
      generalize hN : nextL (s.data.toList.drop pos) = N at *
      obtain ⟨⟨pr, plg, pg⟩, nw⟩ := N
      dsimp only at hle ⊢
      have HN := Lib.hid hN
      clear hN
      go_upto_region 7 with (fail)
      refine wp_abs (fun wx => RaSt w tb u5 out wx ∧ Blk wx wa.heap.size 43 #[.int .i32 pr, .bool plg, .int .i32 pg]) ⟨HA.out.on ((Below.refl _ _).alloc (Nat.le_refl _) _), Blk.new _ _ _⟩ ?_
      generalize wa.heap.size = xb at *
      rintro wx ⟨hS, hX⟩
      have b0 : wx.cell? ⟨xb, 0, none⟩ = some (.int .i32 pr) := hX.cell 0
      have b1 : wx.cell? ⟨xb, 1, none⟩ = some (.bool plg) := hX.cell 1
      have b2 : wx.cell? ⟨xb, 2, none⟩ = some (.int .i32 pg) := hX.cell 2
      have HX := Lib.hid (And.intro hS hX)
      clear hS hX HA
      by_cases hnw : nw = 0
      · have hnb : ((nw : Int) == 0) = true := by rw [hnw]; rfl
        have hnb0 : nw = 0 := hnw
        clear hle b0 b1 b2
        subst hnw
        have hrd : readL s.data.toList = rdFin s.data.toList pos out many := by rw [HR.out.2.1]; exact rdGo_end _ _ _ _ _ (.inr (by rw [HN.out]))
        have e0 : wx.cell? ⟨w.heap.size, 0, none⟩ = some (.int .i64 0) := HX.out.1.br.cell 0
        have e1 : wx.cell? ⟨w.heap.size, 1, none⟩ = some (.int .i64 0) := HX.out.1.br.cell 1
        have f0 := HX.out.1.br.frozen
        have lz := HX.out.1.br.lt
        by_cases hmn : 0 ≤ many
        · have hmd : decide (0 ≤ many) = true := by simpa using hmn
          have hv : rdFin s.data.toList pos out many = ([], 3, many) := by unfold rdFin; rw [if_pos hmn]
          have HV := Lib.hid (hrd.trans hv)
          clear hrd hv
          go_wp2
          have HF := ((HX.out.1.br.set_ 0 (.int .i64 3)).set_ 1 (.int .i64 many))
          have z0 := HF.cell 0
          have z1 := HF.cell 1
          simp at z0 z1
          refine bodyPost_ret (v := .tuple #[.slice none 0 0, .agg #[.int .i64 3, .int .i64 many]]) (by simp [results, Try.results57, go_sem, z0, z1]) rfl ?_
          refine ⟨.slice none 0 0, by rw [HV.out], ?_, (HX.out.1.below.setCell (by simp) _).setCell (by simp) _⟩
          rw [HV.out]
          exact World.ownsRow_nil _ _ _ _
        · have hmd : decide (0 ≤ many) = false := by simpa using hmn
          have hmd2 : decide (many < 0) = true := by simp; omega
          have hv : rdFin s.data.toList pos out many = ([], 80, (pos : Int)) := by unfold rdFin; rw [if_neg hmn, if_pos (by have := HL.out; omega)]
          have HV := Lib.hid (hrd.trans hv)
          clear hrd hv
          go_wp2
          have HF := ((HX.out.1.br.set_ 0 (.int .i64 80)).set_ 1 (.int .i64 pos))
          have z0 := HF.cell 0
          have z1 := HF.cell 1
          simp at z0 z1
          refine bodyPost_ret (v := .tuple #[.slice none 0 0, .agg #[.int .i64 80, .int .i64 pos]]) (by simp [results, Try.results57, go_sem, z0, z1]) rfl ?_
          refine ⟨.slice none 0 0, by rw [HV.out], ?_, (HX.out.1.below.setCell (by simp) _).setCell (by simp) _⟩
          rw [HV.out]
          exact World.ownsRow_nil _ _ _ _
      · have hnb : ((nw : Int) == 0) = false := by simp; omega
        obtain ⟨f', hf1, hf2⟩ := rdGo_step (out := out) (many := many) (f := f) HN.out (by have := HL.out; omega) (by have := HL.out; have := HR.out.2.2; omega) hnw
        rw [← HR.out.2.1] at hf2
        dsimp only at hf1 hf2
        rw [← HL.out] at hf1
        by_cases hmn : many < 0
        · have hmd : decide (many < 0) = true := by simpa using hmn
          by_cases ho : out.length = 128
          · have hob : ((out.length : Int) == 128) = true := by rw [ho]; rfl
            rw [if_pos ⟨ho, hmn⟩] at hf2
            have HF := Lib.hid (And.intro hf1 hf2)
            clear hf1 hf2
            obtain ⟨A5, c5, e5⟩ := own_slice HX.out.1.own
            have E5 := Lib.hid e5
            subst e5
            have hpd : decide ((pos : Int) < 0) = false := by simp
            go_wp2
            go_roundw
            case rel => exact ⟨out, pos, pos + nw, f', by go_num, by go_num, by omega, by omega, by omega, by (try simp only [List.length_append, List.length_cons, List.length_nil]); omega, Lib.hid ⟨HX.out.1, HF.out.2, HF.out.1⟩⟩
            case measure => simp [intOf]; omega
          · have hob : ((out.length : Int) == 128) = false := by simp; omega
            rw [if_neg (fun h => ho h.1), if_pos hmn] at hf2
            have HF := Lib.hid (And.intro hf1 hf2)
            clear hf1 hf2
            obtain ⟨A5, c5, e5⟩ := own_slice HX.out.1.own
            subst e5
            go_wp2_with (at_builtin; go_must (refine wpList_append_rd _ rfl _ _ 22 rfl (w.heap.size + 1) 43 i0 (.agg #[.int .i32 0, .bool false, .int .i32 0]) 3 12 Try.underlying22 HI.out.1 HI.out.2.1 HI.out.2.2.1 HI.out.2.2.2 rfl (by decide) _ _ _ rfl (HX.out.1.own.alloc _) _ _ _ 1 1 _ rfl (rd_new _ _ _ _ rfl) (by simp [Value.oneCell']) (by unfold maxLen; omega) (by omega) (by have := HX.out.1.br.lt; simp; omega) ?_; intro v4 w4 _ hown hgrow _; have HE := Lib.hid ((HX.out.1.on ((Below.refl _ _).alloc (Nat.le_refl _) _)).app (pr, plg, pg) hown hgrow); clear hown hgrow))
            go_roundw
            case rel => exact ⟨out ++ [(pr, plg, pg)], many, pos + nw, f', by go_num, by go_num, by omega, by omega, by omega, by (try simp only [List.length_append, List.length_cons, List.length_nil]); omega, Lib.hid ⟨HE.out, HF.out.2, HF.out.1⟩⟩
            case measure => simp [intOf]; omega
        · have hmd : decide (many < 0) = false := by simpa using hmn
          rw [if_neg (fun h => hmn h.2), if_neg hmn] at hf2
          have HF := Lib.hid (And.intro hf1 hf2)
          clear hf1 hf2
          obtain ⟨A5, c5, e5⟩ := own_slice HX.out.1.own
          subst e5
          by_cases ho : out.length = 128
          · have hob : ((out.length : Int) == 128) = true := by rw [ho]; rfl
            go_wp2
            go_roundw
            case rel => exact ⟨out, many, pos + nw, f', by go_num, by go_num, by omega, by omega, by omega, by (try simp only [List.length_append, List.length_cons, List.length_nil]); omega, Lib.hid ⟨HX.out.1, HF.out.2, HF.out.1⟩⟩
            case measure => simp [intOf]; omega
          · have hob : ((out.length : Int) == 128) = false := by simp; omega
            go_wp2
            go_roundw
            case rel => exact ⟨out, many, pos + nw, f', by go_num, by go_num, by omega, by omega, by omega, by (try simp only [List.length_append, List.length_cons, List.length_nil]); omega, Lib.hid ⟨HX.out.1, HF.out.2, HF.out.1⟩⟩
            case measure => simp [intOf]; omega
    · have hpe : pos = s.size := by omega
      have hrd : readL s.data.toList = rdFin s.data.toList pos out many := by rw [HR.out.2.1]; exact rdGo_end _ _ _ _ _ (.inl (by have := HL.out; omega))
      have e0 : wr.cell? ⟨w.heap.size, 0, none⟩ = some (.int .i64 0) := HR.out.1.br.cell 0
      have e1 : wr.cell? ⟨w.heap.size, 1, none⟩ = some (.int .i64 0) := HR.out.1.br.cell 1
      have f0 := HR.out.1.br.frozen
      have lz := HR.out.1.br.lt
      by_cases hmn : 0 ≤ many
      · have hmd : decide (0 ≤ many) = true := by simpa using hmn
        have hv : rdFin s.data.toList pos out many = ([], 3, many) := by unfold rdFin; rw [if_pos hmn]
        have HV := Lib.hid (hrd.trans hv)
        clear hrd hv
        go_wp2
        have HF := ((HR.out.1.br.set_ 0 (.int .i64 3)).set_ 1 (.int .i64 many))
        have z0 := HF.cell 0
        have z1 := HF.cell 1
        simp at z0 z1
        refine bodyPost_ret (v := .tuple #[.slice none 0 0, .agg #[.int .i64 3, .int .i64 many]]) (by simp [results, Try.results57, go_sem, z0, z1]) rfl ?_
        refine ⟨.slice none 0 0, by rw [HV.out], ?_, (HR.out.1.below.setCell (by simp) _).setCell (by simp) _⟩
        rw [HV.out]
        exact World.ownsRow_nil _ _ _ _
      · have hmd : decide (0 ≤ many) = false := by simpa using hmn
        have hmd2 : decide (many < 0) = true := by simp; omega
        have hv : rdFin s.data.toList pos out many = (out, 0, 0) := by unfold rdFin; rw [if_neg hmn, if_neg (by have := HL.out; omega)]
        have HV := Lib.hid (hrd.trans hv)
        clear hrd hv
        go_wp2
        have HF := ((HR.out.1.br.set_ 0 (.int .i64 0)).set_ 1 (.int .i64 0))
        have z0 := HF.cell 0
        have z1 := HF.cell 1
        simp at z0 z1
        refine bodyPost_ret (v := .tuple #[u5, .agg #[.int .i64 0, .int .i64 0]]) (by simp [results, Try.results57, go_sem, z0, z1]) rfl ?_
        refine ⟨u5, by rw [HV.out], ?_, (HR.out.1.below.setCell (by simp) _).setCell (by simp) _⟩
        rw [HV.out]
        exact own_more (own_setCell (own_setCell HR.out.1.own (by simp) _) (by simp) _) (by omega)
end Go.Proofs.Ytogofchpocoebaa
