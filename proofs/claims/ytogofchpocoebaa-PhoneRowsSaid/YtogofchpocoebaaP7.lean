/- The first alignment that costs the least (no program in sight). -/
import Derived.Test.YtogofchpocoebaaQ9
namespace Go.Proofs.Ytogofchpocoebaa

/-- is the next pair of the alignment from i and k on both phones? only the first row's? -/
def alB (a b : List Ph) (i k : Nat) : Bool := decide (i < a.length) && decide (k < b.length) && decide (cs a b i k = apartF (a.getD i (0, false, 0)) (b.getD k (0, false, 0)) + cs a b (i + 1) (k + 1))
def alA (a b : List Ph) (i k : Nat) : Bool := decide (i < a.length) && decide (cs a b i k = loneF (a.getD i (0, false, 0)) + cs a b (i + 1) k)
/-- the alignment from a pair of places on -/
def alGo (a b : List Ph) : Nat → Nat → Nat → List (Int × Int)
  | 0, _, _ => []
  | f + 1, i, k => if i < a.length ∨ k < b.length then
      if alB a b i k then ((i : Int), (k : Int)) :: alGo a b f (i + 1) (k + 1)
      else if alA a b i k then ((i : Int), -1) :: alGo a b f (i + 1) k
      else (-1, (k : Int)) :: alGo a b f i (k + 1) else []
def alL (a b : List Ph) : List (Int × Int) := alGo a b (a.length + b.length + 1) 0 0
theorem alGo_end {a b : List Ph} {f i k : Nat} (h : ¬ (i < a.length ∨ k < b.length)) : alGo a b f i k = [] := by
  cases f with
  | zero => rfl
  | succ f => unfold alGo; rw [if_neg h]
/-- in the third case the second row is not at its end -/
theorem al_third {a b : List Ph} {i k : Nat} (h : i < a.length ∨ k < b.length) (h2 : alA a b i k = false) : k < b.length := by
  rcases Nat.lt_or_ge k b.length with hk | hk
  · exact hk
  · exfalso
    have hi : i < a.length := by omega
    have := cs_a hi hk
    unfold alA at h2
    rw [List.getD_eq_getElem?_getD, List.getElem?_eq_getElem hi] at h2
    simp [hi, this] at h2
theorem alGo_step {a b : List Ph} {f i k : Nat} (h : i < a.length ∨ k < b.length) (hf : (a.length - i) + (b.length - k) < f) :
    ∃ f', (alB a b i k = true → (a.length - (i + 1)) + (b.length - (k + 1)) < f' ∧ alGo a b f i k = ((i : Int), (k : Int)) :: alGo a b f' (i + 1) (k + 1)) ∧
      (alB a b i k = false → alA a b i k = true → (a.length - (i + 1)) + (b.length - k) < f' ∧ alGo a b f i k = ((i : Int), -1) :: alGo a b f' (i + 1) k) ∧
      (alB a b i k = false → alA a b i k = false → (a.length - i) + (b.length - (k + 1)) < f' ∧ alGo a b f i k = (-1, (k : Int)) :: alGo a b f' i (k + 1)) := by
  cases f with
  | zero => omega
  | succ f =>
    refine ⟨f, fun h1 => ⟨?_, ?_⟩, fun h1 h2 => ⟨?_, ?_⟩, fun h1 h2 => ⟨?_, ?_⟩⟩
    · unfold alB at h1
      simp only [Bool.and_eq_true, decide_eq_true_eq] at h1
      omega
    · conv => lhs; unfold alGo
      rw [if_pos h, if_pos h1]
    · unfold alA at h2
      simp only [Bool.and_eq_true, decide_eq_true_eq] at h2
      omega
    · conv => lhs; unfold alGo
      rw [if_pos h, h1, if_neg (by decide), if_pos h2]
    · have := al_third h h2
      omega
    · conv => lhs; unfold alGo
      rw [if_pos h, h1, h2, if_neg (by decide), if_neg (by decide)]
end Go.Proofs.Ytogofchpocoebaa
