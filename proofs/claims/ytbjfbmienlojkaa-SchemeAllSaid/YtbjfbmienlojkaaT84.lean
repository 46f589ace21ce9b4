/- scheme.All: its schemes, one behind another: the plain law of the telling. -/
import Derived.Test.YtbjfbmienlojkaaT83
namespace Go.Proofs.Ytbjfbmienlojkaa
open Go.RowKit

/-- all schemes from rank r on that begin with p, of which c classes stand in p -/
def Pre (n m c : Nat) (p : List (Int × Int)) (r : Nat) : Prop := p.length = m ∧ m ≤ n ∧ c ≤ m ∧ r + tN (n - m) c ≤ tN n 0 ∧ ∀ d, d < tN (n - m) c → unS n (r + d) m = (d, c) ∧ unL n (r + d) m = p
theorem Pre.start (n : Nat) : Pre n 0 0 [] 0 := ⟨rfl, Nat.zero_le _, Nat.le_refl _, by simp, fun d _ => by rw [Nat.zero_add]; exact ⟨rfl, rfl⟩⟩
theorem tN_split {n m c : Nat} (h : m < n) : tN (n - m) c = c * tN (n - 1 - m) c + tN (n - 1 - m) (c + 1) := by
  rw [show n - m = (n - 1 - m) + 1 by omega]
  rfl
theorem Pre.child {n m c r x : Nat} {p : List (Int × Int)} (h : Pre n m c p r) (hm : m < n) (hx : x ≤ c) : Pre n (m + 1) (max c (x + 1)) (p ++ [((x : Int), 0)]) (r + x * tN (n - 1 - m) c) ∧
    r + x * tN (n - 1 - m) c + tN (n - (m + 1)) (max c (x + 1)) = (if x = c then r + tN (n - m) c else r + (x + 1) * tN (n - 1 - m) c) := by
  obtain ⟨h1, h2, h3, h4, h5⟩ := h
  have hs := tN_split (c := c) hm
  have he : n - (m + 1) = n - 1 - m := by omega
  have hp := tN_pos (n - 1 - m) c
  rw [he]
  have hsum : x * tN (n - 1 - m) c + tN (n - 1 - m) (max c (x + 1)) ≤ tN (n - m) c ∧ x * tN (n - 1 - m) c + tN (n - 1 - m) (max c (x + 1)) = (if x = c then tN (n - m) c else (x + 1) * tN (n - 1 - m) c) := by
    by_cases e : x = c
    · subst e
      rw [if_pos rfl, show max x (x + 1) = x + 1 by omega]
      omega
    · have hlt : x + 1 ≤ c := by omega
      rw [if_neg e, show max c (x + 1) = c by omega]
      have : (x + 1) * tN (n - 1 - m) c ≤ c * tN (n - 1 - m) c := Nat.mul_le_mul_right _ hlt
      rw [Nat.add_mul, Nat.one_mul] at this ⊢
      omega
  refine ⟨⟨by simp [h1], by omega, by omega, by rw [he]; omega, fun d hd => ?_⟩, by rw [Nat.add_assoc, hsum.2]; split <;> rfl⟩
  rw [he] at hd
  obtain ⟨g1, g2⟩ := h5 (x * tN (n - 1 - m) c + d) (by omega)
  rw [← Nat.add_assoc] at g1 g2
  have hC : unC n (r + x * tN (n - 1 - m) c + d) m = x := by
    unfold unC
    rw [g1]
    dsimp only
    by_cases e : x = c
    · subst e
      have : x ≤ (x * tN (n - 1 - m) x + d) / tN (n - 1 - m) x := (Nat.le_div_iff_mul_le hp).2 (by omega)
      omega
    · rw [show max c (x + 1) = c by omega] at hd
      have : (x * tN (n - 1 - m) c + d) / tN (n - 1 - m) c = x := by
        rw [Nat.add_comm, Nat.add_mul_div_right _ _ hp, Nat.div_eq_of_lt hd, Nat.zero_add]
      rw [this]; omega
  constructor
  · rw [unS_succ, hC, g1]
    dsimp only
    rw [show x * tN (n - 1 - m) c + d - x * tN (n - 1 - m) c = d by omega]
    congr 1
    by_cases e : x = c
    · rw [if_pos e]; omega
    · rw [if_neg e]; omega
  · rw [unL_succ, hC, g2]
theorem Pre.full {n c r : Nat} {p : List (Int × Int)} (h : Pre n n c p r) : p = unL n r n ∧ r < tN n 0 ∧ r + tN (n - n) c = r + 1 := by
  obtain ⟨h1, h2, h3, h4, h5⟩ := h
  rw [Nat.sub_self] at *
  have := h5 0 (by show 0 < 1; omega)
  have h1' : tN 0 c = 1 := rfl
  exact ⟨by rw [← this.2, Nat.add_zero], by omega, by rw [h1']⟩
end Go.Proofs.Ytbjfbmienlojkaa
