/- A row's parts: onsets as great as may be; stresses laid twice; weights, main stresses, patterns (no program in sight). -/
import Derived.Test.YtogofchpocoebaaU0
namespace Go.Proofs.Ytogofchpocoebaa

section
variable {l : List Ph}
theorem part_on {ns : List Nat} {k : Nat} (h0 : 0 < k) : onsetF (cutL l (frK l ns k) (ns.getD k 0)) = true := by
  unfold frK
  rw [if_neg (by omega)]
  exact bord_on l _ _
theorem part_big {k : Nat} (hk : k < (nucs l l.length).length) (h0 : 0 < k) (h : (nucs l l.length).getD (k - 1) 0 + 1 < frK l (nucs l l.length) k) : onsetF (cutL l (frK l (nucs l l.length) k - 1) ((nucs l l.length).getD k 0)) = false := by
  have h1 := nucs_rise (l := l) (k := l.length) (i := k - 1) (j := k) (by omega) hk
  have h2 := (fr_in hk).1
  unfold frK at h h2 ⊢
  rw [if_neg (by omega)] at h h2 ⊢
  refine bord_least l ((nucs l l.length).getD k 0) ((nucs l l.length).getD k 0 - (nucs l l.length).getD (k - 1) 0) _ ?_ ?_
  · omega
  · show _ < bordF l _ _
    omega
theorem part_next {k : Nat} (hk : k + 1 < (nucs l l.length).length) : toK l (nucs l l.length) l.length k = frK l (nucs l l.length) (k + 1) := by
  unfold toK
  rw [if_pos hk]
theorem part_last {k : Nat} (hk : k + 1 = (nucs l l.length).length) : toK l (nucs l l.length) l.length k = l.length := by
  unfold toK
  rw [if_neg (by omega)]
end

theorem st_hv (s : Sy) (v : Int) : (setSt s v).hv = s.hv := rfl
theorem stK_at {l : List Sy} {at_ k i : Nat} (h : i < k) : (stK l at_ k).getD i sy0 = setSt (l.getD i sy0) (if i = at_ then 2 else 0) := by
  unfold stK
  rw [List.getD_eq_getElem?_getD, List.getElem?_map, List.getElem?_range h]
  rfl
theorem st_two {l : List Sy} {rule : Int} (h : stE l rule = 0) : stE (stL l rule) rule = 0 ∧ stL (stL l rule) rule = stL l rule := by
  have hL : stL l rule = stK l (stAt l rule) l.length := by unfold stL; rw [if_pos h]
  have hlen : (stL l rule).length = l.length := by rw [hL, stK_len]
  have hE : stE (stL l rule) rule = 0 := by unfold stE at h ⊢; rw [hlen]; exact h
  refine ⟨hE, ?_⟩
  have hpos : 0 < l.length := by
    unfold stE at h
    split at h
    · cases h
    · omega
  have hA : stAt (stL l rule) rule = stAt l rule := by
    unfold stAt
    rw [hlen, hL, stK_at (by omega), st_hv]
  have h2 : stL (stL l rule) rule = stK (stL l rule) (stAt l rule) l.length := by
    conv => lhs; unfold stL
    unfold stL at hE hA hlen
    rw [if_pos hE, hA, hlen]
    rfl
  rw [h2, hL]
  unfold stK
  apply List.map_congr_left
  intro i hi
  have hi := List.mem_range.1 hi
  have := stK_at (l := l) (at_ := stAt l rule) (k := l.length) hi
  unfold stK at this
  rw [this]
  rfl

/-- how heavy syllables are -/
def wtF : List Sy → Int
  | [] => 0
  | s :: r => (if s.hv then 2 else 1) + wtF r
def wtK (l : List Sy) : Nat → Int
  | 0 => 0
  | k + 1 => wtK l k + (if (l.getD k sy0).hv then 2 else 1)
/-- the first of the syllables from k on with the main stress, of n -/
def mnGo (l : List Sy) : Nat → Nat → Int
  | _, 0 => -1
  | k, n + 1 => if (l.getD k sy0).st = 2 then (k : Int) else mnGo l (k + 1) n
def mnF (l : List Sy) : Int := mnGo l 0 l.length
theorem mn_step {l : List Sy} {k : Nat} (h : k < l.length) : mnGo l k (l.length - k) = if (l.getD k sy0).st = 2 then (k : Int) else mnGo l (k + 1) (l.length - (k + 1)) := by
  rw [show l.length - k = (l.length - (k + 1)) + 1 by omega]
  rfl
/-- a pattern's bytes -/
def ptB (s : Sy) : UInt8 := if s.st = 0 then 120 else if s.st = 1 then 92 else 47
def ptOk (s : Sy) : Bool := decide (0 ≤ s.st) && decide (s.st ≤ 2)
def ptE (l : List Sy) : Int := if l.all ptOk then 0 else 2
def ptT (l : List Sy) : List UInt8 := if l.all ptOk then l.map ptB else []
/-- are syllables alike? -/
def alGoS (a b : List Sy) : Nat → Nat → Bool
  | _, 0 => true
  | k, n + 1 => ((a.getD k sy0).st == (b.getD k sy0).st && (a.getD k sy0).hv == (b.getD k sy0).hv) && alGoS a b (k + 1) n
def alikeF (a b : List Sy) : Bool := if a.length = b.length then alGoS a b 0 a.length else false
theorem alS_step {a b : List Sy} {k : Nat} (h : k < a.length) : alGoS a b k (a.length - k) = (((a.getD k sy0).st == (b.getD k sy0).st && (a.getD k sy0).hv == (b.getD k sy0).hv) && alGoS a b (k + 1) (a.length - (k + 1))) := by
  rw [show a.length - k = (a.length - (k + 1)) + 1 by omega]
  rfl
theorem alS_refl (a : List Sy) : ∀ n k, alGoS a a k n = true := by
  intro n
  induction n with
  | zero => intro k; rfl
  | succ n ih => intro k; unfold alGoS; rw [ih]; simp
theorem alike_refl (a : List Sy) : alikeF a a = true := by unfold alikeF; rw [if_pos rfl]; exact alS_refl a _ _
theorem wtK_stK {l : List Sy} {at_ n : Nat} : ∀ {k : Nat}, k ≤ n → wtK (stK l at_ n) k = wtK l k := by
  intro k
  induction k with
  | zero => intro _; rfl
  | succ k ih =>
    intro h
    unfold wtK
    rw [ih (by omega), stK_at (by omega), st_hv]
theorem stAt_lt {l : List Sy} {rule : Int} (h : 0 < l.length) : stAt l rule < l.length := by
  unfold stAt
  split
  · omega
  · split
    · omega
    · split
      · omega
      · omega
theorem mn_at {l : List Sy} {at_ n : Nat} (h : at_ < n) : ∀ (d k : Nat), k + d = n → k ≤ at_ → mnGo (stK l at_ n) k d = at_ := by
  intro d
  induction d with
  | zero => intro k h1 h2; omega
  | succ d ih =>
    intro k h1 h2
    unfold mnGo
    rw [stK_at (by omega)]
    have e : (setSt (l.getD k sy0) (if k = at_ then 2 else 0)).st = if k = at_ then 2 else 0 := rfl
    rw [e]
    by_cases hk : k = at_
    · rw [if_pos hk, if_pos rfl, hk]
    · rw [if_neg hk, if_neg (by decide)]
      exact ih (k + 1) (by omega) (by omega)
theorem mn_stL {l : List Sy} {rule : Int} (h : stE l rule = 0) : mnF (stL l rule) = (stAt l rule : Int) := by
  have hpos : 0 < l.length := by
    unfold stE at h
    split at h
    · cases h
    · omega
  have hL : stL l rule = stK l (stAt l rule) l.length := by unfold stL; rw [if_pos h]
  unfold mnF
  rw [hL, stK_len]
  exact mn_at (stAt_lt hpos) _ _ (by omega) (Nat.zero_le _)
theorem pt_stK (l : List Sy) (at_ n : Nat) : (stK l at_ n).all ptOk = true := by
  unfold stK
  rw [List.all_eq_true]
  intro s hs
  obtain ⟨i, _, rfl⟩ := List.mem_map.1 hs
  unfold ptOk
  have e : (setSt (l.getD i sy0) (if i = at_ then 2 else 0)).st = if i = at_ then 2 else 0 := rfl
  rw [e]
  split <;> rfl
end Go.Proofs.Ytogofchpocoebaa
