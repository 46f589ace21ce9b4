/- The reference's Canon makes what Canon makes. -/
import Derived.Test.YtbjfbmienlojkaaT28
import Derived.Test.YtbjfbmienlojkaaT33
import Derived.Test.YtbjfbmienlojkaaT35
namespace Go.Proofs.Ytbjfbmienlojkaa
open Go.RowKit

theorem heads_mono (ls : List (Int × Int)) (k p h : Nat) : ∀ d, (heads_ ls k)[p]? = some h → (heads_ ls (k + d))[p]? = some h := by
  intro d hh
  induction d with
  | zero => exact hh
  | succ d ih =>
    rw [show k + (d + 1) = k + d + 1 from rfl, heads_succ]
    split
    · rw [List.getElem?_append_left (List.getElem?_eq_some_iff.1 ih).1]; exact ih
    · exact ih
theorem canGo_ref : ∀ (l : List (Int × Int)) (f : Nat → Int) (nx : Int) (k : Nat), ((canGo f nx l).getD k (0, 0)).2 = (l.getD k (0, 0)).2 := by
  intro l
  induction l with
  | nil => intro f nx k; rfl
  | cons p t ih =>
    intro f nx k
    obtain ⟨c, r⟩ := p
    unfold canGo
    split
    · cases k with
      | zero => rfl
      | succ k => simpa using ih f nx k
    · cases k with
      | zero => rfl
      | succ k => simpa using ih _ _ k
theorem canon_val (ls : List (Int × Int)) {m : Nat} (hm : m < ls.length) (h0 : 0 ≤ clsAt ls m) : ∃ p h : Nat, (heads_ ls (m + 1))[p]? = some h ∧ clsAt ls h = clsAt ls m ∧ clsAt (canonF ls) m = p := by
  have hI := canInv_all ls (m + 1) (by omega)
  obtain ⟨h, hh, hc⟩ := hI.i4 m (by omega) h0
  obtain ⟨p, hp⟩ := List.getElem?_of_mem hh
  have h1 := hI.i1 p h hp
  have hv := canGo_at ls (fun _ => 0, 0) m hm
  rw [canFold_succ ls _ m hm] at h1
  refine ⟨p, h, hp, hc, ?_⟩
  show clsAt (canGo _ _ ls) m = p
  rw [hv]
  unfold canVal
  rw [if_neg (by omega)]
  unfold canStep at h1
  rw [if_neg (by omega), hc] at h1
  simp only at h1
  omega
theorem canon_same (ls : List (Int × Int)) {j i : Nat} (hj : j < ls.length) (hi : i < ls.length) (h0 : 0 ≤ clsAt ls j) (hc : clsAt ls j = clsAt ls i) : clsAt (canonF ls) j = clsAt (canonF ls) i := by
  obtain ⟨p, h, hp, hh, hv⟩ := canon_val ls hj h0
  obtain ⟨p', h', hp', hh', hv'⟩ := canon_val ls hi (by omega)
  have hI := canInv_all ls ls.length (Nat.le_refl _)
  have e1 := heads_mono ls (j + 1) p h (ls.length - (j + 1)) hp
  have e2 := heads_mono ls (i + 1) p' h' (ls.length - (i + 1)) hp'
  rw [show j + 1 + (ls.length - (j + 1)) = ls.length by omega] at e1
  rw [show i + 1 + (ls.length - (i + 1)) = ls.length by omega] at e2
  have a1 := hI.i1 p h e1
  have a2 := hI.i1 p' h' e2
  rw [hh, hc] at a1
  rw [hh'] at a2
  omega
theorem canon_neg (ls : List (Int × Int)) {i : Nat} (hi : i < ls.length) (h0 : clsAt ls i < 0) : clsAt (canonF ls) i = clsAt ls i := by
  show clsAt (canGo _ _ ls) i = _
  rw [canGo_at ls (fun _ => 0, 0) i hi]
  unfold canVal
  rw [if_pos h0]
theorem canon_new (ls : List (Int × Int)) {i : Nat} (hi : i < ls.length) (hh : headB ls i = true) : clsAt (canonF ls) i = (heads_ ls i).length := by
  have hI := canInv_all ls i (by omega)
  obtain ⟨h0, hn⟩ := (headB_iff ls i).1 hh
  show clsAt (canGo _ _ ls) i = _
  rw [canGo_at ls (fun _ => 0, 0) i hi]
  have hz : (canFold (fun _ => 0, 0) ls i).1 (clsAt ls i).toNat = 0 := by
    apply Decidable.byContradiction
    intro hz
    obtain ⟨p, h, hp, hc⟩ := hI.i2 _ hz
    obtain ⟨h1, h2⟩ := heads_mem.1 (List.mem_of_getElem? hp)
    exact hn h h1 (by omega)
  unfold canVal bump
  rw [if_neg (by omega), if_pos hz, hI.i3]
  simp
theorem canonF_at (ls : List (Int × Int)) {i : Nat} (hi : i < (canonF ls).length) (hl : i < ls.length) : (canonF ls)[i] = (clsAt (canonF ls) i, ls[i].2) := by
  have h1 := canGo_ref ls (fun _ => 0) 0 i
  rw [List.getD_eq_getElem?_getD, List.getD_eq_getElem?_getD, List.getElem?_eq_getElem hl] at h1
  change ((canonF ls)[i]?.getD (0, 0)).2 = _ at h1
  rw [List.getElem?_eq_getElem hi] at h1
  have h2 := clsAt_get hi
  simp only [Option.getD_some] at h1
  rw [h2, ← h1]
theorem first_le (ls : List (Int × Int)) (i : Nat) : ∀ f k, firstFrom ls i f k ≤ i := by
  intro f
  induction f with
  | zero => intro k; exact Nat.le_refl _
  | succ f ih =>
    intro k
    unfold firstFrom
    split
    · split
      · omega
      · exact ih _
    · exact Nat.le_refl _
theorem first_alike (ls : List (Int × Int)) (i : Nat) : ∀ f k, firstFrom ls i f k < i → alikeB ls (firstFrom ls i f k) i = true := by
  intro f
  induction f with
  | zero => intro k h; unfold firstFrom at h; omega
  | succ f ih =>
    intro k h
    unfold firstFrom at h ⊢
    split
    · next hk =>
      rw [if_pos hk] at h
      split
      · assumption
      · next ha =>
        rw [if_neg ha] at h
        exact ih _ h
    · next hk =>
      rw [if_neg hk] at h
      omega
theorem firstF_cls (ls : List (Int × Int)) {i : Nat} (h : firstF ls i < i) : 0 ≤ clsAt ls i ∧ clsAt ls (firstF ls i) = clsAt ls i := by
  have h1 := first_alike ls i i 0 h
  unfold alikeB at h1
  simp at h1
  rcases h1 with h1 | h1
  · change firstF ls i = i at h1
    omega
  · change 0 ≤ clsAt ls (firstF ls i) ∧ clsAt ls (firstF ls i) = clsAt ls i at h1
    exact ⟨by omega, h1.2⟩

/-- the first i lines numbered anew -/
def canPre (ls : List (Int × Int)) (i : Nat) : List (Int × Int) := (canonF ls).take i ++ ls.drop i
theorem canPre_len (ls : List (Int × Int)) (i : Nat) : (canPre ls i).length = ls.length := by
  unfold canPre
  rw [List.length_append, List.length_take, List.length_drop, canonF_len]
  omega
theorem canPre_zero (ls : List (Int × Int)) : canPre ls 0 = ls := by simp [canPre]
theorem canPre_end (ls : List (Int × Int)) : canPre ls ls.length = canonF ls := by
  unfold canPre
  rw [List.drop_length, List.append_nil, List.take_of_length_le (by rw [canonF_len]; exact Nat.le_refl _)]
theorem canPre_here (ls : List (Int × Int)) {i : Nat} (hi : i < ls.length) : (canPre ls i)[i]? = some ls[i] := by
  unfold canPre
  rw [List.getElem?_append_right (by rw [List.length_take]; omega), List.length_take, canonF_len, List.getElem?_drop]
  rw [show i + (i - min i ls.length) = i by omega, List.getElem?_eq_getElem hi]
theorem canPre_back (ls : List (Int × Int)) {k i : Nat} (hk : k < i) (hi : i < ls.length) : (canPre ls i)[k]? = (canonF ls)[k]? := by
  unfold canPre
  rw [List.getElem?_append_left (by rw [List.length_take, canonF_len]; omega), List.getElem?_take, if_pos hk]
theorem canPre_succ (ls : List (Int × Int)) {i : Nat} (hi : i < ls.length) : canPre ls (i + 1) = (canPre ls i).set i (clsAt (canonF ls) i, ls[i].2) := by
  have hc : i < (canonF ls).length := by rw [canonF_len]; exact hi
  apply List.ext_getElem?
  intro q
  rw [List.getElem?_set]
  by_cases e : i = q
  · subst e
    rw [if_pos rfl, if_pos (by rw [canPre_len]; exact hi)]
    unfold canPre
    rw [List.getElem?_append_left (by rw [List.length_take]; omega), List.getElem?_take, if_pos (by omega), List.getElem?_eq_getElem hc, canonF_at ls hc hi]
  · rw [if_neg e]
    unfold canPre
    rcases Nat.lt_or_ge q i with h1 | h1
    · rw [List.getElem?_append_left (by rw [List.length_take]; omega), List.getElem?_append_left (by rw [List.length_take]; omega), List.getElem?_take, List.getElem?_take, if_pos (by omega), if_pos h1]
    · rw [List.getElem?_append_right (by rw [List.length_take]; omega), List.getElem?_append_right (by rw [List.length_take]; omega), List.length_take, List.length_take, List.getElem?_drop, List.getElem?_drop]
      congr 1
      omega
theorem canPre_skip (ls : List (Int × Int)) {i : Nat} (hi : i < ls.length) (h0 : clsAt ls i < 0) : canPre ls (i + 1) = canPre ls i := by
  rw [canPre_succ ls hi, canon_neg ls hi h0, clsAt_get hi]
  apply List.ext_getElem?
  intro q
  rw [List.getElem?_set]
  by_cases e : i = q
  · subst e
    rw [if_pos rfl, if_pos (by rw [canPre_len]; exact hi), canPre_here ls hi]
  · rw [if_neg e]
end Go.Proofs.Ytbjfbmienlojkaa
