/- The reference's Meet: the plain law: its marks are Meet's.
   The reference's both answers as made: the plain law. -/
import Derived.Test.YtbjfbmienlojkaaT57
import Derived.Test.YtbjfbmienlojkaaT47
namespace Go.Proofs.Ytbjfbmienlojkaa
open Go.RowKit

/-- the mark of line i after t of the earlier lines were seen, the nearest first -/
def rmAt (l1 l2 : List (Int × Int)) (i : Nat) : Nat → Nat
  | 0 => i
  | t + 1 => if (alikeB l1 i (i - 1 - t) && alikeB l2 i (i - 1 - t)) = true then i - 1 - t else rmAt l1 l2 i t
theorem both_alike {l1 l2 : List (Int × Int)} {i k : Nat} (hk : k < i) : (alikeB l1 i k && alikeB l2 i k) = true ↔ (0 ≤ clsAt l1 i ∧ 0 ≤ clsAt l2 i) ∧ pairAt l1 l2 k = pairAt l1 l2 i := by
  unfold alikeB pairAt
  have : ¬ i = k := by omega
  simp only [this, decide_false, Bool.false_or, Bool.and_eq_true, decide_eq_true_eq, Prod.mk.injEq]
  constructor
  · rintro ⟨⟨a, b⟩, c, d⟩; exact ⟨⟨a, c⟩, b.symm, d.symm⟩
  · rintro ⟨⟨a, c⟩, b, d⟩; exact ⟨⟨a, b.symm⟩, c, d.symm⟩
theorem rmAt_spec (l1 l2 : List (Int × Int)) (i : Nat) : ∀ t, t ≤ i → (rmAt l1 l2 i t = i ∧ ∀ k, i - t ≤ k → k < i → ¬ (alikeB l1 i k && alikeB l2 i k) = true) ∨
    (i - t ≤ rmAt l1 l2 i t ∧ rmAt l1 l2 i t < i ∧ (alikeB l1 i (rmAt l1 l2 i t) && alikeB l2 i (rmAt l1 l2 i t)) = true ∧ ∀ k, i - t ≤ k → k < rmAt l1 l2 i t → ¬ (alikeB l1 i k && alikeB l2 i k) = true) := by
  intro t
  induction t with
  | zero => intro _; exact .inl ⟨rfl, fun k h1 h2 => by omega⟩
  | succ t ih =>
    intro ht
    unfold rmAt
    by_cases e : (alikeB l1 i (i - 1 - t) && alikeB l2 i (i - 1 - t)) = true
    · rw [if_pos e]
      exact .inr ⟨by omega, by omega, e, fun k h1 h2 => by omega⟩
    · rw [if_neg e]
      rcases ih (by omega) with ⟨a, b⟩ | ⟨a, b, c, d⟩
      · refine .inl ⟨a, fun k h1 h2 => ?_⟩
        rcases Nat.lt_or_ge k (i - t) with h | h
        · rw [show k = i - 1 - t by omega]; exact e
        · exact b k h h2
      · refine .inr ⟨by omega, b, c, fun k h1 h2 => ?_⟩
        rcases Nat.lt_or_ge k (i - t) with h | h
        · rw [show k = i - 1 - t by omega]; exact e
        · exact d k h h2
theorem pairs_get (l1 l2 : List (Int × Int)) {i k : Nat} (h : k < i) : (pairs l1 l2 i)[k]? = some (pairAt l1 l2 k) := by
  unfold pairs
  rw [List.getElem?_map, List.getElem?_range h]
  rfl
theorem rmAt_mt (l1 l2 : List (Int × Int)) (i : Nat) : rmAt l1 l2 i i = mtAt l1 l2 i := by
  have hsp := rmAt_spec l1 l2 i i (Nat.le_refl _)
  rw [Nat.sub_self] at hsp
  unfold mtAt
  by_cases hn : clsAt l1 i < 0 ∨ clsAt l2 i < 0
  · rw [if_pos hn]
    rcases hsp with ⟨a, _⟩ | ⟨_, b, c, _⟩
    · exact a
    · have := ((both_alike b).1 c).1
      omega
  · rw [if_neg hn]
    have hnn : 0 ≤ clsAt l1 i ∧ 0 ≤ clsAt l2 i := by omega
    cases hp : posX (pairs l1 l2 i) (pairAt l1 l2 i) with
    | none =>
      rcases hsp with ⟨a, _⟩ | ⟨_, b, c, _⟩
      · exact a
      · exact absurd (by rw [pairs_get l1 l2 b, ((both_alike b).1 c).2]) (posX_none.1 hp (rmAt l1 l2 i i))
    | some p =>
      have hpl := posX_lt hp
      rw [pairs_len] at hpl
      obtain ⟨h1, h2⟩ := posX_some hp
      rw [pairs_get l1 l2 hpl] at h1
      injection h1 with h1
      have hpa := (both_alike hpl).2 ⟨hnn, h1⟩
      rcases hsp with ⟨_, b⟩ | ⟨_, b, c, d⟩
      · exact absurd hpa (b p (Nat.zero_le _) hpl)
      · rcases Nat.lt_trichotomy p (rmAt l1 l2 i i) with h | h | h
        · exact absurd hpa (d p (Nat.zero_le _) h)
        · exact h.symm
        · exact absurd (by rw [pairs_get l1 l2 b, ((both_alike b).1 c).2]) (h2 _ h)
end Go.Proofs.Ytbjfbmienlojkaa

namespace Go.Proofs.Ytbjfbmienlojkaa
open Go.RowKit Go.Maps

theorem cntI_zero (l : List Int) (s : Int) : cntI l s = 0 ↔ ∀ q : Nat, l[q]? ≠ some s := by
  unfold cntI
  rw [List.length_eq_zero_iff, List.filter_eq_nil_iff]
  constructor
  · intro h q hq
    exact h s (List.mem_of_getElem? hq) (by simp)
  · intro h x hx hd
    have hxs : x = s := by simpa using hd
    subst hxs
    obtain ⟨q, hq⟩ := List.mem_iff_getElem?.1 hx
    exact h q hq
theorem cntI_append (a b : List Int) (s : Int) : cntI (a ++ b) s = cntI a s + cntI b s := by
  unfold cntI
  rw [List.filter_append, List.length_append]
/-- a mark stands once: nowhere else -/
theorem cntI_one {mk : List Int} {i : Nat} {s : Int} (h : mk[i]? = some s) : cntI mk s = 1 ↔ ∀ q : Nat, q ≠ i → mk[q]? ≠ some s := by
  obtain ⟨hil, hs⟩ := List.getElem?_eq_some_iff.1 h
  have hsp : mk = mk.take i ++ ([s] ++ mk.drop (i + 1)) := by
    conv => lhs; rw [← List.take_append_drop i mk]
    congr 1
    rw [List.drop_eq_getElem_cons hil, hs]
    rfl
  have hc : cntI mk s = cntI (mk.take i) s + (1 + cntI (mk.drop (i + 1)) s) := by
    conv => lhs; rw [hsp]
    rw [cntI_append, cntI_append]
    congr 2
    simp [cntI]
  rw [hc]
  constructor
  · intro h1 q hq hqs
    have z1 := (cntI_zero (mk.take i) s).1 (by omega)
    have z2 := (cntI_zero (mk.drop (i + 1)) s).1 (by omega)
    rcases Nat.lt_or_ge q i with hlt | hge
    · exact z1 q (by rw [List.getElem?_take_of_lt hlt]; exact hqs)
    · exact z2 (q - (i + 1)) (by rw [List.getElem?_drop, show i + 1 + (q - (i + 1)) = q by omega]; exact hqs)
  · intro h1
    have z1 := (cntI_zero (mk.take i) s).2 fun q hq => by
      have hlt : q < i := by
        have := (List.getElem?_eq_some_iff.1 hq).1
        rw [List.length_take] at this
        omega
      rw [List.getElem?_take_of_lt hlt] at hq
      exact h1 q (by omega) hq
    have z2 := (cntI_zero (mk.drop (i + 1)) s).2 fun q hq => by
      rw [List.getElem?_drop] at hq
      exact h1 _ (by omega) hq
    omega

/-- the class that both has found among the first k marks -/
def refClI (mk : List Int) (s : Int) (p : Int) : Nat → Int
  | 0 => -1
  | k + 1 => if mk[k]? = some s then p else refClI mk s p k
theorem refClI_hit (mk : List Int) (s : Int) (p : Int) : ∀ k, (∃ q, q < k ∧ mk[q]? = some s) → refClI mk s p k = p := by
  intro k
  induction k with
  | zero => rintro ⟨q, hq, _⟩; omega
  | succ k ih =>
    rintro ⟨q, hq, hs⟩
    unfold refClI
    by_cases e : mk[k]? = some s
    · rw [if_pos e]
    · rw [if_neg e]
      refine ih ⟨q, ?_, hs⟩
      rcases Nat.lt_or_ge q k with h | h
      · exact h
      · have : q = k := by omega
        subst this
        exact absurd hs e
theorem refClI_miss (mk : List Int) (s : Int) (p : Int) : ∀ k, (∀ q, q < k → mk[q]? ≠ some s) → refClI mk s p k = -1 := by
  intro k
  induction k with
  | zero => intro _; rfl
  | succ k ih =>
    intro h
    unfold refClI
    rw [if_neg (h k (by omega))]
    exact ih fun q hq => h q (by omega)

theorem md_inv (l1 l2 : List (Int × Int)) (mk : List Int) : ∀ i, i ≤ mk.length →
    (∀ q s, q < i → mk[q]? = some s → (loneAt l1 l2 mk q s = true ∧ (md l1 l2 mk i).2[q]? = some (-1, 0)) ∨ (loneAt l1 l2 mk q s = false ∧ ∃ p : Nat, posI (md l1 l2 mk i).1 s = some p ∧ (md l1 l2 mk i).2[q]? = some ((p : Int), 0))) ∧
    (∀ s p, posI (md l1 l2 mk i).1 s = some p → ∃ q, q < i ∧ mk[q]? = some s) := by
  intro i
  induction i with
  | zero => intro _; exact ⟨fun q s hq => absurd hq (Nat.not_lt_zero _), fun s p h => by simp [md, posI] at h⟩
  | succ i ih =>
    intro hi
    obtain ⟨h1, h2⟩ := ih (by omega)
    obtain ⟨l1', l2'⟩ := md_len l1 l2 mk i
    have hil : i < mk.length := by omega
    have hki : mk[i]? = some mk[i] := List.getElem?_eq_getElem hil
    have hgd : mk.getD i 0 = mk[i] := by rw [List.getD_eq_getElem?_getD, hki]; rfl
    have hsu : md l1 l2 mk (i + 1) = mdStep (loneAt l1 l2 mk i mk[i]) mk[i] (md l1 l2 mk i) := by rw [← hgd]; rfl
    rw [hsu]
    generalize md l1 l2 mk i = st at *
    obtain ⟨ds, out⟩ := st
    simp only at h1 h2 l1' l2'
    unfold mdStep
    cases hlo : loneAt l1 l2 mk i mk[i] with
    | true =>
      simp only [if_true]
      refine ⟨fun q s hq hs => ?_, fun s p h => ?_⟩
      · rcases Nat.lt_or_ge q i with hlt | hge
        · rcases h1 q s hlt hs with ⟨a, b⟩ | ⟨a, p, b, c⟩
          · exact .inl ⟨a, by rw [List.getElem?_append_left (by omega)]; exact b⟩
          · exact .inr ⟨a, p, b, by rw [List.getElem?_append_left (by omega)]; exact c⟩
        · have : q = i := by omega
          subst this
          rw [hki] at hs
          injection hs with hs
          subst hs
          exact .inl ⟨hlo, by rw [List.getElem?_append_right (by omega), l1', Nat.sub_self]; rfl⟩
      · obtain ⟨q, a, b⟩ := h2 s p h
        exact ⟨q, by omega, b⟩
    | false =>
      simp only [Bool.false_eq_true, if_false]
      cases hp : posI ds mk[i] with
      | some p =>
        dsimp only
        refine ⟨fun q s hq hs => ?_, fun s p' h => ?_⟩
        · rcases Nat.lt_or_ge q i with hlt | hge
          · rcases h1 q s hlt hs with ⟨a, b⟩ | ⟨a, p, b, c⟩
            · exact .inl ⟨a, by rw [List.getElem?_append_left (by omega)]; exact b⟩
            · exact .inr ⟨a, p, b, by rw [List.getElem?_append_left (by omega)]; exact c⟩
          · have : q = i := by omega
            subst this
            rw [hki] at hs
            injection hs with hs
            subst hs
            exact .inr ⟨hlo, p, hp, by rw [List.getElem?_append_right (by omega), l1', Nat.sub_self]; rfl⟩
        · obtain ⟨q, a, b⟩ := h2 s p' h
          exact ⟨q, by omega, b⟩
      | none =>
        dsimp only
        refine ⟨fun q s hq hs => ?_, fun s p' h => ?_⟩
        · rcases Nat.lt_or_ge q i with hlt | hge
          · rcases h1 q s hlt hs with ⟨a, b⟩ | ⟨a, p, b, c⟩
            · exact .inl ⟨a, by rw [List.getElem?_append_left (by omega)]; exact b⟩
            · exact .inr ⟨a, p, by rw [posI_snoc, b], by rw [List.getElem?_append_left (by omega)]; exact c⟩
          · have : q = i := by omega
            subst this
            rw [hki] at hs
            injection hs with hs
            subst hs
            exact .inr ⟨hlo, ds.length, by rw [posI_snoc, hp]; simp, by rw [List.getElem?_append_right (by omega), l1', Nat.sub_self]; rfl⟩
        · rw [posI_snoc] at h
          cases hd : posI ds s with
          | some r =>
            obtain ⟨q, a, b⟩ := h2 s r hd
            exact ⟨q, by omega, b⟩
          | none =>
            rw [hd] at h
            simp only at h
            by_cases e : mk[i] = s
            · exact ⟨i, by omega, by rw [hki, e]⟩
            · rw [if_neg e] at h; cases h
/-- an earlier line of the same mark is not alone, and neither is this -/
theorem lone_twice {l1 l2 : List (Int × Int)} {mk : List Int} {i q : Nat} {s : Int} (hi : mk[i]? = some s) (hq : mk[q]? = some s) (hne : q ≠ i) (j : Nat) : loneAt l1 l2 mk j s = false := by
  have : cntI mk s ≠ 1 := fun h => (cntI_one hi).1 h q hne hq
  unfold loneAt
  simp [this]
end Go.Proofs.Ytbjfbmienlojkaa
