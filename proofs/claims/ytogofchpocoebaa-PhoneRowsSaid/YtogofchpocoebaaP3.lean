/- Phones in texts: the bytes of a phone; the longest phone with which bytes begin (no program in sight). -/
import Derived.Test.YtogofchpocoebaaP1
namespace Go.Proofs.Ytogofchpocoebaa

def bts (l : List UInt8) : ByteArray := ⟨l.toArray⟩
theorem bts_size (l : List UInt8) : (bts l).size = l.length := by simp [bts, ByteArray.size]
theorem bts_get (l : List UInt8) (i : Nat) : (bts l).get! i = l.getD i default := by
  unfold bts ByteArray.get!
  simp [List.getD_eq_getElem?_getD]
theorem bts_list (s : ByteArray) : bts s.data.toList = s := rfl
theorem bts_drop (l : List UInt8) (n : Nat) : (bts l).extract n (bts l).size = bts (l.drop n) := by
  apply ByteArray.ext
  rw [ByteArray.data_extract]
  apply Array.ext'
  simp [bts, ByteArray.size]
  rw [List.take_of_length_le (by simp)]
theorem bts_inj {a b : List UInt8} (h : bts a = bts b) : a = b := by
  unfold bts at h
  injection h with h
  exact List.toArray_inj h
theorem bts_append (a b : List UInt8) : bts a ++ bts b = bts (a ++ b) := by
  apply ByteArray.ext
  simp [bts]

/-- the bytes of a rune's form -/
def encL (r : Int) : List UInt8 := (Utf8.encode r).data.toList
theorem encL_one {r : Int} (h0 : 0 ≤ r) (h : r < 128) : encL r = [UInt8.ofNat r.toNat] := by
  unfold encL Utf8.encode Utf8.valid
  have hv : (decide (0 ≤ r) && decide (r < 55296) || decide (57344 ≤ r) && decide (r ≤ 1114111)) = true := by simp; omega
  simp only [hv, if_true]
  rw [if_pos (by omega)]
theorem encL_two {r : Int} (h0 : 128 ≤ r) (h : r < 2048) : encL r = [UInt8.ofNat (192 + r.toNat / 64), UInt8.ofNat (128 + r.toNat % 64)] := by
  unfold encL Utf8.encode Utf8.valid
  have hv : (decide (0 ≤ r) && decide (r < 55296) || decide (57344 ≤ r) && decide (r ≤ 1114111)) = true := by simp; omega
  simp only [hv, if_true]
  rw [if_neg (by omega), if_pos (by omega)]

def longL : List UInt8 := [203, 144]
def glideL : List UInt8 := [204, 175]
/-- the bytes of a phone -/
def textP (p : Ph) : List UInt8 := encL p.1 ++ (if p.2.1 then longL else []) ++ (if p.2.2 = 0 then [] else encL p.2.2 ++ glideL)

/-- the rune with which bytes begin; 0: there are none -/
def headR (l : List UInt8) : Int := if l = [] then 0 else ((Utf8.decode (bts l) 0).1 : Int)
/-- the longest phone with which bytes begin, and how many it has -/
def nextL (l : List UInt8) : Ph × Nat :=
  match tabF (headR l) with
  | none => ((0, false, 0), 0)
  | some t =>
    let r := headR l
    let w1 := (encL r).length
    let lg := longL.isPrefixOf (l.drop w1)
    let w2 := if lg then w1 + 2 else w1
    if !t.vow then ((r, lg, 0), w2)
    else if (105 :: glideL).isPrefixOf (l.drop w2) then ((r, lg, 105), w2 + 3)
    else if (117 :: glideL).isPrefixOf (l.drop w2) then ((r, lg, 117), w2 + 3)
    else ((r, lg, 0), w2)

theorem dec_small (l : List UInt8) (h : l ≠ []) (hs : (Utf8.decode (bts l) 0).1 < 2048) : encL ((Utf8.decode (bts l) 0).1 : Int) <+: l ∧ (Utf8.decode (bts l) 0).2 = (encL ((Utf8.decode (bts l) 0).1 : Int)).length := by
  obtain ⟨a, t, rfl⟩ := List.exists_cons_of_ne_nil h
  have g0 : (bts (a :: t)).get! (0 + 0) = a := by rw [bts_get]; rfl
  have g1 : (bts (a :: t)).get! (0 + 1) = t.getD 0 default := by rw [bts_get]; rfl
  unfold Utf8.decode at hs ⊢
  simp only [g0, g1] at hs ⊢
  have ha := a.toNat_lt
  by_cases h1 : a.toNat < 128
  · rw [if_pos h1] at hs ⊢
    rw [encL_one (by omega) (by simp; omega)]
    simp
  · rw [if_neg h1] at hs ⊢
    by_cases h2 : (a.toNat / 32 == 6 && (decide (0 + 1 < (bts (a :: t)).size) && (t.getD 0 default).toNat / 64 == 2)) = true
    · rw [if_pos h2] at hs ⊢
      simp only [Bool.and_eq_true, beq_iff_eq, decide_eq_true_eq, bts_size] at h2
      cases t with
      | nil => simp at h2
      | cons b t =>
        simp only [List.getD_cons_zero] at h2 hs ⊢
        have hb := b.toNat_lt
        by_cases h3 : a.toNat % 32 * 64 + b.toNat % 64 ≥ 128
        · rw [if_pos h3] at hs ⊢
          rw [encL_two (by omega) (by omega)]
          refine ⟨?_, rfl⟩
          have e1 : UInt8.ofNat (192 + ((a.toNat % 32 * 64 + b.toNat % 64 : Nat) : Int).toNat / 64) = a := by
            apply UInt8.toNat_inj.1
            rw [UInt8.toNat_ofNat']
            omega
          have e2 : UInt8.ofNat (128 + ((a.toNat % 32 * 64 + b.toNat % 64 : Nat) : Int).toNat % 64) = b := by
            apply UInt8.toNat_inj.1
            rw [UInt8.toNat_ofNat']
            omega
          rw [e1, e2]
          exact ⟨t, rfl⟩
        · rw [if_neg h3] at hs
          simp [Utf8.runeError] at hs
    · rw [if_neg h2] at hs
      exfalso
      revert hs
      simp only [Utf8.runeError]
      split
      · split
        · rename_i h4 h5
          simp only [Bool.and_eq_true, decide_eq_true_eq] at h5
          omega
        · simp
      · split
        · split
          · rename_i h4 h5
            simp only [Bool.and_eq_true, decide_eq_true_eq] at h5
            omega
          · simp
        · simp
theorem pre_dec (l : List UInt8) (r : Int) (h0 : 0 ≤ r) (h : r < 2048) (hp : encL r <+: l) : Utf8.decode (bts l) 0 = (r.toNat, (encL r).length) ∧ l ≠ [] := by
  obtain ⟨t, rfl⟩ := hp
  by_cases h1 : r < 128
  · rw [encL_one h0 h1]
    have g0 : (bts ([UInt8.ofNat r.toNat] ++ t)).get! (0 + 0) = UInt8.ofNat r.toNat := by rw [bts_get]; rfl
    have e : (UInt8.ofNat r.toNat).toNat = r.toNat := by rw [UInt8.toNat_ofNat']; omega
    unfold Utf8.decode
    simp only [g0, e]
    rw [if_pos (by omega)]
    exact ⟨rfl, by simp⟩
  · rw [encL_two (by omega) h]
    have g0 : (bts ([UInt8.ofNat (192 + r.toNat / 64), UInt8.ofNat (128 + r.toNat % 64)] ++ t)).get! (0 + 0) = UInt8.ofNat (192 + r.toNat / 64) := by rw [bts_get]; rfl
    have g1 : (bts ([UInt8.ofNat (192 + r.toNat / 64), UInt8.ofNat (128 + r.toNat % 64)] ++ t)).get! (0 + 1) = UInt8.ofNat (128 + r.toNat % 64) := by rw [bts_get]; rfl
    have e0 : (UInt8.ofNat (192 + r.toNat / 64)).toNat = 192 + r.toNat / 64 := by rw [UInt8.toNat_ofNat']; omega
    have e1 : (UInt8.ofNat (128 + r.toNat % 64)).toNat = 128 + r.toNat % 64 := by rw [UInt8.toNat_ofNat']; omega
    unfold Utf8.decode
    simp only [g0, g1, e0, e1]
    rw [if_neg (by omega), if_pos (by simp [bts_size]; omega), if_pos (by omega)]
    refine ⟨?_, by simp⟩
    simp
    omega

theorem rows_small : (rowsL.all fun x => decide (0 ≤ x.1) && decide (x.1 < 2048)) = true := by decide +kernel
theorem tab_small {r : Int} (h : (tabF r).isSome = true) : 0 ≤ r ∧ r < 2048 := by
  obtain ⟨t, ht⟩ := Option.isSome_iff_exists.1 h
  have hm : (r, t) ∈ rowsL := by
    unfold tabF tabOf at ht
    obtain ⟨x, hx, hxt⟩ := Option.map_eq_some_iff.1 ht
    have h1 := List.mem_of_find?_eq_some hx
    have h2 := List.find?_some hx
    have : x.1 = r := by simpa using h2
    subst this hxt
    simpa using h1
  have := (List.all_eq_true.1 rows_small) _ hm
  simpa using this
theorem mem_tab {x : Int × Tr} (h : x ∈ rowsL) : (tabF x.1).isSome = true := by
  unfold tabF tabOf
  rw [Option.isSome_map, List.find?_isSome]
  exact ⟨x, by simpa using h, by simp⟩
/-- where a table's rune stands, its form stands -/
theorem head_pre {l : List UInt8} (h : (tabF (headR l)).isSome = true) : l ≠ [] ∧ encL (headR l) <+: l ∧ ((Utf8.decode (bts l) 0).1 : Int) = headR l ∧ (Utf8.decode (bts l) 0).2 = (encL (headR l)).length := by
  by_cases hl : l = []
  · subst hl
    have : (tabF 0).isSome = false := by decide +kernel
    unfold headR at h
    rw [if_pos rfl, this] at h
    cases h
  · have hr : headR l = ((Utf8.decode (bts l) 0).1 : Int) := if_neg hl
    have hs := tab_small h
    rw [hr] at hs ⊢
    have := dec_small l hl (by omega)
    exact ⟨hl, this.1, rfl, this.2⟩
theorem pre_head {l : List UInt8} {r : Int} (h : (tabF r).isSome = true) (hp : encL r <+: l) : headR l = r := by
  obtain ⟨h1, h2⟩ := tab_small h
  obtain ⟨h3, h4⟩ := pre_dec l r h1 h2 hp
  unfold headR
  rw [if_neg h4, h3]
  simp
  omega
end Go.Proofs.Ytogofchpocoebaa
