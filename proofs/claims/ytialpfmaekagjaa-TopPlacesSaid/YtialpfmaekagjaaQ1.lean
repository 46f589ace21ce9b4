/- The places of a text and its pieces, in plain words: the places rise, each follows from the one before it, the lines begin where they are said to. -/
import Derived.Test.YtialpfmaekagjaaO1
namespace Go.Proofs.Ytialpfmaekagjaa
open Go.RowKit

theorem dec_pos (s : ByteArray) (pos : Nat) (h : pos < s.size) : 0 < (Utf8.decode s pos).2 := width_pos s pos h
/-- the places and the pieces of a rest -/
theorem pl_walk (s : ByteArray) (f pos : Nat) (p : Pl) (hf : s.size - pos < f) (hb : p.b = pos) (hp : pos ≤ s.size) :
    (plGo s f pos p).length = (owGo s f pos).length + 1 ∧ (plGo s f pos p)[0]? = some p ∧
    (∀ k q, (plGo s f pos p)[k]? = some q → ∀ o, (owGo s f pos)[k]? = some o → q.b < s.size ∧ o = (q.b, (Utf8.decode s q.b).2, (Utf8.decode s q.b).1, false) ∧ (plGo s f pos p)[k + 1]? = some (nextP s q.b (Utf8.decode s q.b).1 (Utf8.decode s q.b).2 q)) ∧
    (∀ q, (plGo s f pos p)[(owGo s f pos).length]? = some q → q.b = s.size) := by
  induction f generalizing pos p with
  | zero => omega
  | succ f ih =>
    by_cases h : pos < s.size
    · have hw := dec_pos s pos h
      have hfit := decode_fit s pos h
      obtain ⟨h1, h2, h3, h4⟩ := ih (pos + (Utf8.decode s pos).2) (nextP s pos (Utf8.decode s pos).1 (Utf8.decode s pos).2 p) (by omega) rfl hfit
      have e1 : plGo s (f + 1) pos p = p :: plGo s f (pos + (Utf8.decode s pos).2) (nextP s pos (Utf8.decode s pos).1 (Utf8.decode s pos).2 p) := by conv => lhs; unfold plGo; rw [if_pos h]
      have e2 : owGo s (f + 1) pos = (pos, (Utf8.decode s pos).2, (Utf8.decode s pos).1, false) :: owGo s f (pos + (Utf8.decode s pos).2) := by conv => lhs; unfold owGo; rw [if_pos h]
      rw [e1, e2]
      refine ⟨by simp only [List.length_cons]; omega, rfl, ?_, ?_⟩
      · intro k q hq o ho
        cases k with
        | zero =>
          simp only [List.getElem?_cons_zero, Option.some.injEq] at hq ho
          subst hq
          subst ho
          rw [hb]
          exact ⟨h, rfl, h2⟩
        | succ k =>
          simp only [List.getElem?_cons_succ] at hq ho ⊢
          exact h3 k q hq o ho
      · intro q hq
        simp only [List.length_cons, List.getElem?_cons_succ] at hq
        exact h4 q hq
    · have e1 : plGo s (f + 1) pos p = [p] := by unfold plGo; rw [if_neg h]
      have e2 : owGo s (f + 1) pos = [] := by unfold owGo; rw [if_neg h]
      rw [e1, e2]
      refine ⟨rfl, rfl, ?_, ?_⟩
      · intro k q hq o ho
        simp at ho
      · intro q hq
        simp only [List.length_nil, List.getElem?_cons_zero, Option.some.injEq] at hq
        subst hq
        omega
theorem pl_len (s : ByteArray) : (plL s).length = (owL s).length + 1 := (pl_walk s (s.size + 1) 0 pl0 (by omega) rfl (by omega)).1
theorem pl_first (s : ByteArray) : (plL s)[0]? = some pl0 := (pl_walk s (s.size + 1) 0 pl0 (by omega) rfl (by omega)).2.1
theorem pl_next (s : ByteArray) {k : Nat} {q : Pl} (hq : (plL s)[k]? = some q) {o : P4} (ho : (owL s)[k]? = some o) : q.b < s.size ∧ o = (q.b, (Utf8.decode s q.b).2, (Utf8.decode s q.b).1, false) ∧ (plL s)[k + 1]? = some (nextP s q.b (Utf8.decode s q.b).1 (Utf8.decode s q.b).2 q) :=
  (pl_walk s (s.size + 1) 0 pl0 (by omega) rfl (by omega)).2.2.1 k q hq o ho
theorem pl_last (s : ByteArray) {q : Pl} (hq : (plL s)[(owL s).length]? = some q) : q.b = s.size := (pl_walk s (s.size + 1) 0 pl0 (by omega) rfl (by omega)).2.2.2 q hq
theorem pl_some (s : ByteArray) {k : Nat} (h : k ≤ (owL s).length) : ∃ q, (plL s)[k]? = some q := ⟨_, List.getElem?_eq_getElem (by rw [pl_len]; omega)⟩
theorem ow_some (s : ByteArray) {k : Nat} (h : k < (owL s).length) : ∃ q, (owL s)[k]? = some q := ⟨_, List.getElem?_eq_getElem h⟩
/-- each place is above the one before it -/
theorem pl_step (s : ByteArray) {k : Nat} {p q : Pl} (hk : k < (owL s).length) (hp : (plL s)[k]? = some p) (hq : (plL s)[k + 1]? = some q) : p.b < q.b ∧ p.r + 1 = q.r ∧ p.u < q.u ∧ q.u ≤ p.u + 2 ∧ q.l ≤ p.l + 1 ∧ q.c ≤ p.c + 1 := by
  obtain ⟨o, ho⟩ := ow_some s hk
  obtain ⟨h1, h2, h3⟩ := pl_next s hp ho
  rw [h3, Option.some.injEq] at hq
  have hw := dec_pos s p.b h1
  subst hq
  refine ⟨by simp only [nextP]; omega, rfl, ?_, ?_, ?_, ?_⟩ <;> simp only [nextP] <;> split <;> omega
/-- what a place holds is not far -/
theorem pl_bound (s : ByteArray) (k : Nat) (hk : k ≤ (owL s).length) (p : Pl) (hp : (plL s)[k]? = some p) : k ≤ p.b ∧ p.r = k ∧ k ≤ p.u ∧ p.u ≤ 2 * k ∧ p.l ≤ k ∧ p.c ≤ k := by
  induction k generalizing p with
  | zero =>
    rw [pl_first, Option.some.injEq] at hp
    subst hp
    exact ⟨Nat.le_refl _, rfl, Nat.le_refl _, Nat.le_refl _, Nat.le_refl _, Nat.le_refl _⟩
  | succ k ih =>
    obtain ⟨q, hq⟩ := pl_some s (show k ≤ (owL s).length by omega)
    have := ih (by omega) q hq
    have := pl_step s (by omega) hq hp
    omega
theorem pl_rise (s : ByteArray) (k : Nat) (p : Pl) (hp : (plL s)[k]? = some p) (j : Nat) (q : Pl) (hq : (plL s)[k + (j + 1)]? = some q) : p.b < q.b ∧ p.u < q.u := by
  have hlt : k + (j + 1) < (plL s).length := (List.getElem?_eq_some_iff.1 hq).1
  rw [pl_len] at hlt
  induction j generalizing q with
  | zero =>
    have := pl_step s (by omega) hp hq
    omega
  | succ j ih =>
    obtain ⟨x, hx⟩ := pl_some s (show k + (j + 1) ≤ (owL s).length by omega)
    have h1 := ih x hx (by omega)
    have h2 := pl_step s (by omega) hx hq
    omega
theorem pl_lt (s : ByteArray) {k j : Nat} (h : k < j) {p q : Pl} (hp : (plL s)[k]? = some p) (hq : (plL s)[j]? = some q) : p.b < q.b ∧ p.u < q.u := by
  obtain ⟨d, rfl⟩ : ∃ d, j = k + (d + 1) := ⟨j - k - 1, by omega⟩
  exact pl_rise s k p hp d q hq
theorem pl_le (s : ByteArray) {k j : Nat} (h : k ≤ j) {p q : Pl} (hp : (plL s)[k]? = some p) (hq : (plL s)[j]? = some q) : p.b ≤ q.b ∧ p.u ≤ q.u := by
  rcases Nat.lt_or_eq_of_le h with h | h
  · have := pl_lt s h hp hq
    omega
  · subst h
    rw [hp, Option.some.injEq] at hq
    subst hq
    exact ⟨Nat.le_refl _, Nat.le_refl _⟩
theorem pl_many (s : ByteArray) : (owL s).length ≤ s.size := by
  obtain ⟨q, hq⟩ := pl_some s (Nat.le_refl (owL s).length)
  have h1 := pl_last s hq
  have h2 := pl_bound s _ (Nat.le_refl _) q hq
  omega
theorem pl_in (s : ByteArray) {k : Nat} {p : Pl} (hp : (plL s)[k]? = some p) : k ≤ (owL s).length ∧ p.b ≤ s.size := by
  have hlt : k < (plL s).length := (List.getElem?_eq_some_iff.1 hp).1
  rw [pl_len] at hlt
  obtain ⟨q, hq⟩ := pl_some s (Nat.le_refl (owL s).length)
  have h1 := pl_last s hq
  have h2 := pl_le s (show k ≤ (owL s).length by omega) hp hq
  omega
/-- the piece that holds a byte -/
theorem pl_find (s : ByteArray) (n : Nat) (_hn : n ≤ s.size) : ∃ (K : Nat) (p : Pl), (plL s)[K]? = some p ∧ p.b ≤ n ∧ ∀ (i : Nat) (q : Pl), K < i → (plL s)[i]? = some q → n < q.b := by
  suffices h : ∀ k, k ≤ (owL s).length → (∃ p : Pl, (plL s)[k]? = some p ∧ n < p.b) ∨ (∃ p : Pl, (plL s)[k]? = some p ∧ p.b ≤ n) by
    suffices h2 : ∀ (d k : Nat) (p : Pl), k + d = (owL s).length → (plL s)[k]? = some p → p.b ≤ n → ∃ (K : Nat) (p : Pl), (plL s)[K]? = some p ∧ p.b ≤ n ∧ ∀ (i : Nat) (q : Pl), K < i → (plL s)[i]? = some q → n < q.b by
      exact h2 _ 0 pl0 (Nat.zero_add _) (pl_first s) (Nat.zero_le _)
    intro d
    induction d with
    | zero =>
      intro k p hk hp hle
      refine ⟨k, p, hp, hle, fun i q hi hq => ?_⟩
      have := (pl_in s hq).1
      omega
    | succ d ih =>
      intro k p hk hp hle
      rcases h (k + 1) (by omega) with ⟨q, hq, hlt⟩ | ⟨q, hq, hlt⟩
      · refine ⟨k, p, hp, hle, fun i x hi hx => ?_⟩
        have := (pl_le s (show k + 1 ≤ i by omega) hq hx).1
        omega
      · exact ih (k + 1) q (by omega) hq hlt
  intro k hk
  obtain ⟨p, hp⟩ := pl_some s hk
  rcases Nat.lt_or_ge n p.b with h | h
  · exact .inl ⟨p, hp, h⟩
  · exact .inr ⟨p, hp, h⟩
/-- the lines: where a place's line begins -/
theorem fs_walk (s : ByteArray) (f pos : Nat) (p : Pl) (k cur : Nat) (hf : s.size - pos < f) (hb : p.b = pos) (hc : cur + p.c = k) :
    (∀ j q, (plGo s f pos p)[j]? = some q → p.l ≤ q.l ∧ ∃ fk, (fsGo s f pos k cur)[q.l - p.l]? = some fk ∧ fk + q.c = k + j) ∧
    (∀ q, (plGo s f pos p)[(plGo s f pos p).length - 1]? = some q → (fsGo s f pos k cur).length + p.l = q.l + 1) := by
  induction f generalizing pos p k cur with
  | zero => omega
  | succ f ih =>
    by_cases h : pos < s.size
    · have hw := dec_pos s pos h
      have e1 : plGo s (f + 1) pos p = p :: plGo s f (pos + (Utf8.decode s pos).2) (nextP s pos (Utf8.decode s pos).1 (Utf8.decode s pos).2 p) := by conv => lhs; unfold plGo; rw [if_pos h]
      have hne : 0 < (plGo s f (pos + (Utf8.decode s pos).2) (nextP s pos (Utf8.decode s pos).1 (Utf8.decode s pos).2 p)).length := by
        cases f with
        | zero => omega
        | succ f => unfold plGo; split <;> simp
      by_cases hk : brkF s pos (Utf8.decode s pos).1 = true
      · have e2 : fsGo s (f + 1) pos k cur = cur :: fsGo s f (pos + (Utf8.decode s pos).2) (k + 1) (k + 1) := by conv => lhs; unfold fsGo; rw [if_pos h, if_pos hk]
        have hl : (nextP s pos (Utf8.decode s pos).1 (Utf8.decode s pos).2 p).l = p.l + 1 := by simp [nextP, hk]
        have hcc : (nextP s pos (Utf8.decode s pos).1 (Utf8.decode s pos).2 p).c = 0 := by simp [nextP, hk]
        obtain ⟨h1, h2⟩ := ih (pos + (Utf8.decode s pos).2) (nextP s pos (Utf8.decode s pos).1 (Utf8.decode s pos).2 p) (k + 1) (k + 1) (by omega) rfl (by rw [hcc])
        rw [hl] at h1 h2
        rw [e1, e2]
        refine ⟨?_, ?_⟩
        · intro j q hq
          cases j with
          | zero =>
            simp only [List.getElem?_cons_zero, Option.some.injEq] at hq
            subst hq
            exact ⟨Nat.le_refl _, cur, by simp, by omega⟩
          | succ j =>
            simp only [List.getElem?_cons_succ] at hq
            obtain ⟨h3, fk, h4, h5⟩ := h1 j q hq
            refine ⟨by omega, fk, ?_, by omega⟩
            rw [show q.l - p.l = q.l - (p.l + 1) + 1 by omega, List.getElem?_cons_succ]
            exact h4
        · intro q hq
          simp only [List.length_cons, Nat.add_sub_cancel] at hq ⊢
          obtain ⟨m, hm⟩ : ∃ m, (plGo s f (pos + (Utf8.decode s pos).2) (nextP s pos (Utf8.decode s pos).1 (Utf8.decode s pos).2 p)).length = m + 1 := ⟨_, (Nat.sub_add_cancel hne).symm⟩
          rw [hm, List.getElem?_cons_succ] at hq
          rw [hm, Nat.add_sub_cancel] at h2
          have := h2 q hq
          omega
      · have e2 : fsGo s (f + 1) pos k cur = fsGo s f (pos + (Utf8.decode s pos).2) (k + 1) cur := by conv => lhs; unfold fsGo; rw [if_pos h, if_neg hk]
        have hl : (nextP s pos (Utf8.decode s pos).1 (Utf8.decode s pos).2 p).l = p.l := by simp [nextP, hk]
        have hcc : (nextP s pos (Utf8.decode s pos).1 (Utf8.decode s pos).2 p).c = p.c + 1 := by simp [nextP, hk]
        obtain ⟨h1, h2⟩ := ih (pos + (Utf8.decode s pos).2) (nextP s pos (Utf8.decode s pos).1 (Utf8.decode s pos).2 p) (k + 1) cur (by omega) rfl (by rw [hcc]; omega)
        rw [hl] at h1 h2
        rw [e1, e2]
        refine ⟨?_, ?_⟩
        · intro j q hq
          cases j with
          | zero =>
            simp only [List.getElem?_cons_zero, Option.some.injEq] at hq
            subst hq
            obtain ⟨_, fk, h4, h5⟩ := h1 0 _ (by
              cases f with
              | zero => omega
              | succ f => unfold plGo; split <;> rfl)
            rw [hl, hcc] at *
            exact ⟨Nat.le_refl _, fk, h4, by omega⟩
          | succ j =>
            simp only [List.getElem?_cons_succ] at hq
            obtain ⟨h3, fk, h4, h5⟩ := h1 j q hq
            exact ⟨h3, fk, h4, by omega⟩
        · intro q hq
          simp only [List.length_cons, Nat.add_sub_cancel] at hq
          obtain ⟨m, hm⟩ : ∃ m, (plGo s f (pos + (Utf8.decode s pos).2) (nextP s pos (Utf8.decode s pos).1 (Utf8.decode s pos).2 p)).length = m + 1 := ⟨_, (Nat.sub_add_cancel hne).symm⟩
          rw [hm, List.getElem?_cons_succ] at hq
          rw [hm, Nat.add_sub_cancel] at h2
          exact h2 q hq
    · have e1 : plGo s (f + 1) pos p = [p] := by unfold plGo; rw [if_neg h]
      have e2 : fsGo s (f + 1) pos k cur = [cur] := by unfold fsGo; rw [if_neg h]
      rw [e1, e2]
      refine ⟨?_, ?_⟩
      · intro j q hq
        cases j with
        | zero =>
          simp only [List.getElem?_cons_zero, Option.some.injEq] at hq
          subst hq
          exact ⟨Nat.le_refl _, cur, by simp, by omega⟩
        | succ j => simp at hq
      · intro q hq
        simp only [List.length_singleton, Nat.sub_self, List.getElem?_cons_zero, Option.some.injEq] at hq
        subst hq
        simp
        omega
theorem fs_at (s : ByteArray) {k : Nat} {q : Pl} (hq : (plL s)[k]? = some q) : ∃ fk, (fsL s)[q.l]? = some fk ∧ fk + q.c = k := by
  obtain ⟨h1, _⟩ := fs_walk s (s.size + 1) 0 pl0 0 0 (by omega) rfl rfl
  obtain ⟨_, fk, h2, h3⟩ := h1 k q hq
  exact ⟨fk, h2, by omega⟩
theorem fs_len (s : ByteArray) {q : Pl} (hq : (plL s)[(owL s).length]? = some q) : (fsL s).length = q.l + 1 := by
  obtain ⟨_, h1⟩ := fs_walk s (s.size + 1) 0 pl0 0 0 (by omega) rfl rfl
  have h2 := pl_len s
  have h3 := h1 q (by
    rw [show (plGo s (s.size + 1) 0 pl0).length = (owL s).length + 1 from h2, Nat.add_sub_cancel]
    exact hq)
  exact h3
/-- a line's end told by the last byte of a piece -/
theorem brk_told (s : ByteArray) (pos : Nat) (h : pos < s.size) (N : Nat) (hN : pos + (Utf8.decode s pos).2 = N) :
    brkF s pos (Utf8.decode s pos).1 = ((s.get! (N - 1)).toNat == 10 || ((s.get! (N - 1)).toNat == 13 && (N == s.size || !((s.get! N).toNat == 10)))) := by
  obtain ⟨h1, h2⟩ := decode_two s pos h
  rw [hN] at h1 h2
  rcases h2 with ⟨hr, hlt, hw⟩ | ⟨hr, hge⟩
  · have hN1 : N = pos + 1 := by omega
    subst hN1
    rw [Nat.add_sub_cancel, hr]
    unfold brkF
    rcases Nat.lt_or_ge (pos + 1) s.size with h3 | h3
    · have : (pos + 1 == s.size) = false := by rw [beq_eq_false_iff_ne]; omega
      rw [decide_eq_true h3, this]
      simp
    · have : (pos + 1 == s.size) = true := by rw [beq_iff_eq]; omega
      rw [decide_eq_false (by omega), this]
      simp
  · have a1 : ((Utf8.decode s pos).1 == 10) = false := by rw [beq_eq_false_iff_ne]; omega
    have a2 : ((Utf8.decode s pos).1 == 13) = false := by rw [beq_eq_false_iff_ne]; omega
    have a3 : ((s.get! (N - 1)).toNat == 10) = false := by rw [beq_eq_false_iff_ne]; omega
    have a4 : ((s.get! (N - 1)).toNat == 13) = false := by rw [beq_eq_false_iff_ne]; omega
    unfold brkF
    rw [a1, a2, a3, a4]
    rfl
end Go.Proofs.Ytialpfmaekagjaa
