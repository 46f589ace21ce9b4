/- SchemeFound, the plain law: keys have no faults by the scheme that they have; a scheme of which they have none parts them as they are (no program in sight). -/
import Derived.Test.YtbjfbmienlojkaaT46
import Derived.Test.YtbjfbmienlojkaaT47
namespace Go.Proofs.Ytbjfbmienlojkaa
open Go.RowKit

theorem foundE_zero {ks : List ByteArray} (h : foundE ks = 0) : ks.length ≤ 512 ∧ (fnd ks ks.length).1.length ≤ 25 := by
  unfold foundE at h
  split at h
  · cases h
  · split at h
    · cases h
    · omega
theorem foundL_eq {ks : List ByteArray} (h : foundE ks = 0) : foundL ks = (fnd ks ks.length).2 := if_pos h
theorem foundS_eq {ks : List ByteArray} (h : foundE ks = 0) : foundS ks = plainS ks.length := if_pos h
theorem foundL_length {ks : List ByteArray} (h : foundE ks = 0) : (foundL ks).length = ks.length := by rw [foundL_eq h]; exact (fnd_len ks ks.length (Nat.le_refl _)).1
theorem found_at {ks : List ByteArray} (h : foundE ks = 0) {i : Nat} {s : ByteArray} (hs : ks[i]? = some s) : ∃ p : Nat, posB (fnd ks ks.length).1 s = some p ∧ (foundL ks)[i]? = some ((p : Int), 0) := by
  rw [foundL_eq h]
  exact (fnd_inv ks ks.length (Nat.le_refl _)).1 i s (List.getElem?_eq_some_iff.1 hs).1 hs
theorem clsAt_some {ls : List (Int × Int)} {i : Nat} {x : Int × Int} (h : ls[i]? = some x) : clsAt ls i = x.1 := by
  unfold clsAt; rw [List.getD_eq_getElem?_getD, h]; rfl
theorem found_cls {ks : List ByteArray} (h : foundE ks = 0) {i : Nat} {s : ByteArray} (hs : ks[i]? = some s) : ∃ p : Nat, posB (fnd ks ks.length).1 s = some p ∧ clsAt (foundL ks) i = p := by
  obtain ⟨p, h1, h2⟩ := found_at h hs
  exact ⟨p, h1, clsAt_some h2⟩
theorem found_iff {ks : List ByteArray} (h : foundE ks = 0) {i k : Nat} {s t : ByteArray} (hs : ks[i]? = some s) (ht : ks[k]? = some t) : clsAt (foundL ks) i = clsAt (foundL ks) k ↔ s = t := by
  obtain ⟨p, h1, h2⟩ := found_cls h hs
  obtain ⟨q, h3, h4⟩ := found_cls h ht
  rw [h2, h4]
  constructor
  · intro e
    have : p = q := by omega
    subst this
    have a := (posB_some h1).1
    rw [(posB_some h3).1] at a
    injection a with a
    exact a.symm
  · intro e
    subst e
    rw [h1] at h3
    injection h3 with h3
    rw [h3]
theorem found_lines {ks : List ByteArray} (h : foundE ks = 0) : ∀ p ∈ foundL ks, lineOk p = true := by
  intro x hx
  obtain ⟨i, hi⟩ := List.getElem?_of_mem hx
  have hlt : i < ks.length := by have := (List.getElem?_eq_some_iff.1 hi).1; rwa [foundL_length h] at this
  obtain ⟨p, h1, h2⟩ := found_at h (List.getElem?_eq_getElem hlt)
  rw [h2] at hi
  injection hi with hi
  subst hi
  have := posB_lt h1
  have := (foundE_zero h).2
  rw [lineOk_iff]
  simp
  omega
theorem found_may {ks : List ByteArray} (h : foundE ks = 0) : may (foundL ks) (foundS ks) = true := by
  rw [may_iff]
  refine ⟨by rw [foundL_length h]; exact (foundE_zero h).1, ?_, List.all_eq_true.2 (found_lines h)⟩
  rw [foundL_length h, foundS_eq h]
  unfold plainS
  by_cases h0 : ks.length = 0
  · rw [if_pos h0, h0]; rfl
  · rw [if_neg h0]
    unfold stanzasLeft
    rw [if_neg (by omega)]
    unfold stanzasLeft
    simp
theorem found_clean {ks : List ByteArray} (h : foundE ks = 0) : faultsPre (foundL ks) ks ks.length = [] := by
  unfold faultsPre
  rw [List.flatMap_eq_nil_iff]
  intro i hi
  have hlt : i < ks.length := List.mem_range.1 hi
  have hs : ks[i]? = some ks[i] := List.getElem?_eq_getElem hlt
  rw [faultAt_eq _ _ _ _ hs]
  generalize ks[i] = s at hs
  unfold faultAs
  have hle := firstF_le (foundL ks) i
  by_cases hf : firstF (foundL ks) i < i
  · rw [if_pos hf]
    have hfl : firstF (foundL ks) i < ks.length := by omega
    have ht : ks[firstF (foundL ks) i]? = some ks[firstF (foundL ks) i] := List.getElem?_eq_getElem hfl
    have := (found_iff h ht hs).1 (firstF_cls _ hf).2
    rw [ht, this]
    simp
  · rw [if_neg hf]
    cases hp : posB (ks.take i) s with
    | none => rfl
    | some j =>
      exfalso
      have hj := posB_lt hp
      rw [List.length_take] at hj
      have hjs := (posB_some hp).1
      rw [List.getElem?_take, if_pos (by omega)] at hjs
      obtain ⟨p, h1, h2⟩ := found_cls h hs
      have hc := (found_iff h hjs hs).2 rfl
      have e : firstFrom (foundL ks) i i 0 = i := show firstF (foundL ks) i = i by omega
      have := first_min (foundL ks) i i 0 j (by omega) (by rw [e]; omega) (by omega) (by omega)
      unfold alikeB at this
      simp only [Bool.or_eq_false_iff, Bool.and_eq_false_iff, decide_eq_false_iff_not] at this
      rcases this.2 with h4 | h4
      · omega
      · exact h4 hc

theorem faults_sorted (ls : List (Int × Int)) (ks : List ByteArray) : ∀ i, (∀ x ∈ faultsPre ls ks i, x.1 < (i : Int) ∧ x.2.1 < x.1) ∧ (faultsPre ls ks i).Pairwise (fun x y => x.1 < y.1) := by
  intro i
  induction i with
  | zero => exact ⟨by simp [faultsPre], by simp [faultsPre]⟩
  | succ i ih =>
    rw [faultsPre_succ]
    have hone : ∀ x ∈ faultAt ls ks i, x.1 = (i : Int) ∧ x.2.1 < x.1 := by
      intro x hx
      unfold faultAt at hx
      split at hx
      · simp at hx
      · unfold faultAs at hx
        split at hx
        · split at hx
          · simp at hx
          · simp at hx; subst hx; exact ⟨rfl, by simp; omega⟩
        · split at hx
          · rename_i hp
            simp at hx
            subst hx
            have := posB_lt hp
            rw [List.length_take] at this
            exact ⟨rfl, by simp; omega⟩
          · simp at hx
    refine ⟨fun x hx => ?_, ?_⟩
    · rcases List.mem_append.1 hx with h | h
      · have := ih.1 x h; omega
      · have := hone x h; omega
    · rw [List.pairwise_append]
      refine ⟨ih.2, ?_, fun x hx y hy => ?_⟩
      · have hl := faultAt_len ls ks i
        generalize faultAt ls ks i = l at hl
        match l, hl with
        | [], _ => exact List.Pairwise.nil
        | [a], _ => simp
      · have h1 := ih.1 x hx
        have h2 := hone y hy
        omega
theorem faults_step (ls : List (Int × Int)) (ks : List ByteArray) (n a : Nat) (ha : a + 1 < (faultsPre ls ks n).length) : (faultsPre ls ks n)[a].1 < (faultsPre ls ks n)[a + 1].1 ∧ (faultsPre ls ks n)[a + 1].2.1 < (faultsPre ls ks n)[a + 1].1 := by
  obtain ⟨h1, h2⟩ := faults_sorted ls ks n
  exact ⟨List.pairwise_iff_getElem.1 h2 a (a + 1) (by omega) ha (by omega), (h1 _ (List.getElem_mem _)).2⟩

theorem none_at {ls : List (Int × Int)} {ks : List ByteArray} {n : Nat} (h : faultsPre ls ks n = []) {i : Nat} (hi : i < n) {s : ByteArray} (hs : ks[i]? = some s) :
    (firstF ls i < i → ks[firstF ls i]? = some s) ∧ (firstF ls i = i → ∀ q, q < i → ks[q]? ≠ some s) := by
  unfold faultsPre at h
  rw [List.flatMap_eq_nil_iff] at h
  have := h i (List.mem_range.2 hi)
  rw [faultAt_eq _ _ _ _ hs] at this
  unfold faultAs at this
  constructor
  · intro hf
    rw [if_pos hf] at this
    by_cases e : ks[firstF ls i]? = some s
    · exact e
    · rw [if_neg (by simpa using e)] at this; cases this
  · intro hf q hq hqs
    rw [if_neg (by omega)] at this
    cases hp : posB (ks.take i) s with
    | none => exact posB_none.1 hp q (by rw [List.getElem?_take, if_pos hq]; exact hqs)
    | some j => rw [hp] at this; cases this
theorem firstF_idem (ls : List (Int × Int)) {i : Nat} (h : firstF ls i < i) : firstF ls (firstF ls i) = firstF ls i := by
  have hle := firstF_le ls (firstF ls i)
  rcases Nat.lt_or_ge (firstF ls (firstF ls i)) (firstF ls i) with h1 | h1
  · exfalso
    obtain ⟨c0, c1⟩ := firstF_cls ls h
    obtain ⟨_, c3⟩ := firstF_cls ls h1
    have := first_min ls i i 0 _ (by omega) h1 (by omega) (by omega)
    unfold alikeB at this
    simp only [Bool.or_eq_false_iff, Bool.and_eq_false_iff, decide_eq_false_iff_not] at this
    rcases this.2 with h4 | h4
    · omega
    · omega
  · omega
/-- two heads never have one key -/
theorem heads_apart {ls : List (Int × Int)} {ks : List ByteArray} {n : Nat} (h : faultsPre ls ks n = []) {f g : Nat} {s : ByteArray} (hf : f < n) (hg : g < n) (hff : firstF ls f = f) (hgg : firstF ls g = g) (h1 : ks[f]? = some s) (h2 : ks[g]? = some s) : f = g := by
  have a1 : ¬ f < g := fun hlt => (none_at h hg h2).2 hgg f hlt h1
  have a2 : ¬ g < f := fun hlt => (none_at h hf h1).2 hff g hlt h2
  omega
theorem head_of {ls : List (Int × Int)} {ks : List ByteArray} {n : Nat} (h : faultsPre ls ks n = []) {i : Nat} (hi : i < n) {s : ByteArray} (hs : ks[i]? = some s) : firstF ls i < n ∧ firstF ls (firstF ls i) = firstF ls i ∧ ks[firstF ls i]? = some s := by
  have hle := firstF_le ls i
  rcases Nat.lt_or_ge (firstF ls i) i with h1 | h1
  · exact ⟨by omega, firstF_idem ls h1, (none_at h hi hs).1 h1⟩
  · have e : firstF ls i = i := by omega
    exact ⟨by omega, by rw [e, e], by rw [e]; exact hs⟩
theorem firstF_self_cls (ls : List (Int × Int)) (i : Nat) : clsAt ls (firstF ls i) = clsAt ls i := by
  have hle := firstF_le ls i
  rcases Nat.lt_or_ge (firstF ls i) i with h1 | h1
  · exact (firstF_cls ls h1).2
  · rw [show firstF ls i = i by omega]
theorem clean_neg {ls : List (Int × Int)} {ks : List ByteArray} {n : Nat} (h : faultsPre ls ks n = []) {i k : Nat} (hi : i < n) (hk : k < i) {s t : ByteArray} (hs : ks[i]? = some s) (ht : ks[k]? = some t) (h0 : clsAt ls i < 0) : t ≠ s := by
  rintro rfl
  exact (none_at h hi hs).2 (firstF_neg ls h0) k hk ht
theorem clean_iff {ls : List (Int × Int)} {ks : List ByteArray} {n : Nat} (h : faultsPre ls ks n = []) {i k : Nat} (hi : i < n) (hk : k < i) {s t : ByteArray} (hs : ks[i]? = some s) (ht : ks[k]? = some t) (_h0 : 0 ≤ clsAt ls i) (h1 : 0 ≤ clsAt ls k) : clsAt ls i = clsAt ls k ↔ s = t := by
  obtain ⟨a1, a2, a3⟩ := head_of h hi hs
  obtain ⟨b1, b2, b3⟩ := head_of h (show k < n by omega) ht
  constructor
  · intro e
    have hif : firstF ls i < i := by
      have hle := firstF_le ls i
      rcases Nat.lt_or_ge (firstF ls i) i with h1' | h1'
      · exact h1'
      · have := first_min ls i i 0 k (by omega) (by have : firstFrom ls i i 0 = firstF ls i := rfl
                                                    omega) hk (by omega)
        unfold alikeB at this
        simp only [Bool.or_eq_false_iff, Bool.and_eq_false_iff, decide_eq_false_iff_not] at this
        rcases this.2 with h4 | h4
        · omega
        · exact absurd e.symm h4
    have c1 := firstF_self_cls ls i
    have c2 := firstF_self_cls ls k
    have hfk : firstF ls i = firstF ls k := by
      have m1 : ¬ firstF ls i < firstF ls k := fun hlt => by
        have := first_min ls k k 0 (firstF ls i) (by omega) hlt (by have := firstF_le ls k; omega) (by omega)
        unfold alikeB at this
        simp only [Bool.or_eq_false_iff, Bool.and_eq_false_iff, decide_eq_false_iff_not] at this
        rcases this.2 with h4 | h4
        · omega
        · omega
      have m2 : ¬ firstF ls k < firstF ls i := fun hlt => by
        have := first_min ls i i 0 (firstF ls k) (by omega) hlt (by omega) (by omega)
        unfold alikeB at this
        simp only [Bool.or_eq_false_iff, Bool.and_eq_false_iff, decide_eq_false_iff_not] at this
        rcases this.2 with h4 | h4
        · omega
        · omega
      omega
    rw [hfk, b3] at a3
    injection a3 with a3
    exact a3.symm
  · intro e
    subst e
    have := heads_apart h a1 b1 a2 b2 a3 b3
    have c1 := firstF_self_cls ls i
    have c2 := firstF_self_cls ls k
    rw [this] at c1
    omega
end Go.Proofs.Ytbjfbmienlojkaa
