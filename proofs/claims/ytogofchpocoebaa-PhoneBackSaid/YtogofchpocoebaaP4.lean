/- Phones in texts: the longest phone among all that may be; phones read one behind another; printed and read (no program in sight). -/
import Derived.Test.YtogofchpocoebaaP3
namespace Go.Proofs.Ytogofchpocoebaa

/-- one phone tried: kept where its bytes stand, and are more -/
def tryP (l : List UInt8) (st : Ph × Nat) (p : Ph) : Ph × Nat := if isF p && (textP p).isPrefixOf l && decide (st.2 < (textP p).length) then (p, (textP p).length) else st
def sixP (r : Int) : List Ph := [(r, false, 0), (r, false, 105), (r, false, 117), (r, true, 0), (r, true, 105), (r, true, 117)]
def bestL (l : List UInt8) : Ph × Nat := (rowsL.foldl (fun st x => (sixP x.1).foldl (tryP l) st) ((0, false, 0), 0))

theorem textP_enc (p : Ph) : encL p.1 <+: textP p := ⟨_, by unfold textP; rw [List.append_assoc]⟩
theorem try_no {l : List UInt8} {p : Ph} (h : ¬ encL p.1 <+: l) (st : Ph × Nat) : tryP l st p = st := by
  unfold tryP
  have : (textP p).isPrefixOf l = false := by
    rw [Bool.eq_false_iff]
    intro hp
    exact h ((textP_enc p).trans (List.isPrefixOf_iff_prefix.1 hp))
  rw [this]
  simp
theorem six_no {l : List UInt8} {r : Int} (h : ¬ encL r <+: l) (st : Ph × Nat) : (sixP r).foldl (tryP l) st = st := by
  simp only [sixP, List.foldl_cons, List.foldl_nil]
  rw [try_no (p := (r, false, 0)) h, try_no (p := (r, false, 105)) h, try_no (p := (r, false, 117)) h, try_no (p := (r, true, 0)) h, try_no (p := (r, true, 105)) h, try_no (p := (r, true, 117)) h]
theorem rows_no {l : List UInt8} : ∀ (ys : List (Int × Tr)) (st : Ph × Nat), (∀ y ∈ ys, ¬ encL y.1 <+: l) → ys.foldl (fun st x => (sixP x.1).foldl (tryP l) st) st = st := by
  intro ys
  induction ys with
  | nil => intro st _; rfl
  | cons y ys ih =>
    intro st h
    rw [List.foldl_cons, six_no (h y (by simp))]
    exact ih st fun z hz => h z (by simp [hz])
theorem rows_keys : (rowsL.map (·.1)).Nodup := by decide +kernel
theorem rows_split {r : Int} {t : Tr} (h : tabF r = some t) : ∃ as bs, rowsL = as ++ (r, t) :: bs ∧ (∀ y ∈ as, y.1 ≠ r) ∧ ∀ y ∈ bs, y.1 ≠ r := by
  have hm : (r, t) ∈ rowsL := by
    unfold tabF tabOf at h
    obtain ⟨x, hx, ht⟩ := Option.map_eq_some_iff.1 h
    have h1 := List.mem_of_find?_eq_some hx
    have h2 := List.find?_some hx
    have : x.1 = r := by simpa using h2
    subst this ht
    simpa using h1
  obtain ⟨as, bs, e⟩ := List.append_of_mem hm
  have hn := rows_keys
  rw [e, List.map_append, List.map_cons, List.nodup_append] at hn
  refine ⟨as, bs, e, fun y hy hr => ?_, fun y hy hr => ?_⟩
  · exact hn.2.2 y.1 (List.mem_map_of_mem (f := (·.1)) hy) r (by simp) hr
  · exact (List.nodup_cons.1 hn.2.1).1 (by have h5 : y.1 ∈ bs.map (·.1) := List.mem_map_of_mem hy; rwa [hr] at h5)
theorem pre_pre (a x y : List UInt8) : (a ++ x).isPrefixOf (a ++ y) = x.isPrefixOf y := by
  induction a with
  | nil => rfl
  | cons b a ih => simp [ih]
theorem enc_i : encL 105 = [105] := by decide +kernel
theorem enc_u : encL 117 = [117] := by decide +kernel
theorem vow_isF {r : Int} {t : Tr} (h : tabF r = some t) (lg : Bool) : isF (r, lg, 0) = true ∧ isF (r, lg, 105) = t.vow ∧ isF (r, lg, 117) = t.vow := by
  unfold isF traits
  simp only [h]
  simp
set_option maxHeartbeats 2000000 in
theorem best_next (l : List UInt8) : bestL l = nextL l := by
  unfold nextL
  cases ht : tabF (headR l) with
  | none =>
    dsimp only
    refine rows_no rowsL _ fun y hy hp => ?_
    have hm := mem_tab hy
    rw [← pre_head hm hp, ht] at hm
    cases hm
  | some t =>
    have hsome : (tabF (headR l)).isSome = true := by rw [ht]; rfl
    obtain ⟨h1, h2, h3, h4⟩ := head_pre hsome
    generalize headR l = r at *
    obtain ⟨as, bs, e, ha, hb⟩ := rows_split ht
    have hno : ∀ y, (y ∈ as ∨ y ∈ bs) → ¬ encL y.1 <+: l := by
      intro y hy hp
      have hm : (tabF y.1).isSome = true := mem_tab (by rw [e]; simp; rcases hy with hy | hy; exact .inl hy; exact .inr (.inr hy))
      have e1 := pre_dec l y.1 (tab_small hm).1 (tab_small hm).2 hp
      rw [e1.1] at h3
      have := (tab_small hm).1
      have hr : y.1 = r := by simp at h3; omega
      rcases hy with hy | hy
      · exact ha y hy hr
      · exact hb y hy hr
    unfold bestL
    rw [e, List.foldl_append, rows_no as _ (fun y hy => hno y (.inl hy)), List.foldl_cons, rows_no bs _ (fun y hy => hno y (.inr hy))]
    obtain ⟨l1, rfl⟩ := h2
    obtain ⟨i0, i1, i2⟩ := vow_isF ht false
    obtain ⟨j0, j1, j2⟩ := vow_isF ht true
    dsimp only
    rw [List.drop_left]
    have hpos : 0 < (encL r).length := by
      by_cases h : r < 128
      · rw [encL_one (tab_small hsome).1 h]; simp
      · rw [encL_two (by omega) (tab_small hsome).2]; simp
    have x0 : textP (r, false, 0) = encL r ++ [] := by simp [textP]
    have x1 : textP (r, false, 105) = encL r ++ (105 :: glideL) := by simp [textP, enc_i]
    have x2 : textP (r, false, 117) = encL r ++ (117 :: glideL) := by simp [textP, enc_u]
    have y0 : textP (r, true, 0) = encL r ++ longL := by simp [textP]
    have y1 : textP (r, true, 105) = encL r ++ (longL ++ 105 :: glideL) := by simp [textP, enc_i]
    have y2 : textP (r, true, 117) = encL r ++ (longL ++ 117 :: glideL) := by simp [textP, enc_u]
    have e1 : List.drop ((encL r).length + 2) (encL r ++ l1) = l1.drop 2 := by rw [List.drop_append]; simp
    simp only [sixP, List.foldl_cons, List.foldl_nil]
    unfold tryP
    rw [i0, i1, i2, j0, j1, j2, x0, x1, x2, y0, y1, y2, pre_pre _ [], pre_pre _ (105 :: glideL), pre_pre _ (117 :: glideL), pre_pre _ longL, pre_pre _ (longL ++ 105 :: glideL), pre_pre _ (longL ++ 117 :: glideL)]
    have hl : ∀ a : List UInt8, (encL r ++ a).length = (encL r).length + a.length := fun a => List.length_append
    simp only [hl]
    have z1 : (longL ++ 105 :: glideL).length = 5 := rfl
    have z2 : (longL ++ 117 :: glideL).length = 5 := rfl
    have z3 : (105 :: glideL).length = 3 := rfl
    have z4 : (117 :: glideL).length = 3 := rfl
    have z5 : longL.length = 2 := rfl
    have z6 : ([] : List UInt8).length = 0 := rfl
    have z7 : ([] : List UInt8).isPrefixOf l1 = true := by cases l1 <;> rfl
    simp only [z1, z2, z3, z4, z5, z6, z7]
    have d0 : List.drop (encL r).length (encL r ++ l1) = l1 := List.drop_left
    clear hl x0 x1 x2 y0 y1 y2 i0 i1 i2 j0 j1 j2 z1 z2 z3 z4 z5 z6 z7
    generalize (encL r).length = n at *
    cases hg : longL.isPrefixOf l1 with
    | true =>
      obtain ⟨l2, rfl⟩ := List.isPrefixOf_iff_prefix.1 hg
      have k1 : (105 :: glideL).isPrefixOf (longL ++ l2) = false := rfl
      have k2 : (117 :: glideL).isPrefixOf (longL ++ l2) = false := rfl
      have k3 : List.drop 2 (longL ++ l2) = l2 := rfl
      rw [k1, k2, pre_pre longL (105 :: glideL) l2, pre_pre longL (117 :: glideL) l2]
      rw [k3] at e1
      simp only [if_true, e1]
      generalize (105 :: glideL).isPrefixOf l2 = c1
      generalize (117 :: glideL).isPrefixOf l2 = c2
      cases t.vow <;> cases c1 <;> cases c2 <;> simp [hpos]
    | false =>
      have k4 : ∀ x : List UInt8, (longL ++ x).isPrefixOf l1 = false := fun x => by
        rw [Bool.eq_false_iff]
        intro hx
        have h := (List.prefix_append longL x).trans (List.isPrefixOf_iff_prefix.1 hx)
        rw [List.isPrefixOf_iff_prefix.2 h] at hg
        cases hg
      rw [k4, k4]
      simp only [Bool.false_eq_true, if_false, d0]
      generalize (105 :: glideL).isPrefixOf l1 = c1
      generalize (117 :: glideL).isPrefixOf l1 = c2
      cases t.vow <;> cases c1 <;> cases c2 <;> simp [hpos]
end Go.Proofs.Ytogofchpocoebaa
