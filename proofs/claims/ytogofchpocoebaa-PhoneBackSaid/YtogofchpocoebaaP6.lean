/- The phones of a text: where each begins and ends; what stands between (no program in sight). -/
import Derived.Test.YtogofchpocoebaaP5
namespace Go.Proofs.Ytogofchpocoebaa

/-- phones one behind another from a place on, up to an end -/
def Chain (l : List UInt8) : List (Ph × Nat) → Nat → Nat → Prop
  | [], a, e => a = e
  | x :: r, a, e => x.2 = a ∧ (nextL (l.drop a)).1 = x.1 ∧ (nextL (l.drop a)).2 ≠ 0 ∧ Chain l r (a + (nextL (l.drop a)).2) e
theorem ev_chain (l : List UInt8) : ∀ (f a : Nat), Chain l (evGo l f a).1 a (evGo l f a).2 := by
  intro f
  induction f with
  | zero => intro a; rfl
  | succ f ih =>
    intro a
    unfold evGo
    split
    · split
      · rfl
      · rename_i h
        exact ⟨rfl, rfl, h, ih _⟩
    · rfl
theorem Chain.le {l : List UInt8} : ∀ {r : List (Ph × Nat)} {a e : Nat}, Chain l r a e → a ≤ e := by
  intro r
  induction r with
  | nil => intro a e h; exact Nat.le_of_eq h
  | cons x r ih => intro a e h; have := ih h.2.2.2; omega
/-- where the phone of number k begins; behind the last one: the end -/
def posE (ev : List (Ph × Nat)) (e k : Nat) : Nat := match ev[k]? with | some x => x.2 | none => e
theorem posE_lt {ev : List (Ph × Nat)} {e k : Nat} (h : k < ev.length) : posE ev e k = ev[k].2 := by unfold posE; rw [List.getElem?_eq_getElem h]
theorem posE_ge {ev : List (Ph × Nat)} {e k : Nat} (h : ev.length ≤ k) : posE ev e k = e := by unfold posE; rw [List.getElem?_eq_none h]
theorem posE_cons (x : Ph × Nat) (ev : List (Ph × Nat)) (e k : Nat) : posE (x :: ev) e (k + 1) = posE ev e k := by unfold posE; rw [List.getElem?_cons_succ]
theorem Chain.first {l : List UInt8} {r : List (Ph × Nat)} {a e : Nat} (h : Chain l r a e) : posE r e 0 = a := by
  cases r with
  | nil => exact h.symm
  | cons x r => exact h.1
/-- each phone is the one that is read at its place, and ends where the next one begins -/
theorem Chain.at {l : List UInt8} : ∀ {r : List (Ph × Nat)} {a e : Nat}, Chain l r a e → ∀ {k : Nat} (h : k < r.length),
    (nextL (l.drop r[k].2)).1 = r[k].1 ∧ (nextL (l.drop r[k].2)).2 ≠ 0 ∧ r[k].2 + (nextL (l.drop r[k].2)).2 = posE r e (k + 1) := by
  intro r
  induction r with
  | nil => intro a e _ k h; simp at h
  | cons x r ih =>
    intro a e h k hk
    obtain ⟨h1, h2, h3, h4⟩ := h
    cases k with
    | zero =>
      rw [List.getElem_cons_zero, h1]
      exact ⟨h2, h3, by rw [posE_cons, h4.first]⟩
    | succ k =>
      rw [List.getElem_cons_succ, posE_cons]
      exact ih h4 (by simpa using hk)
theorem ev_at (l : List UInt8) {k : Nat} (h : k < (evL l).1.length) :
    (nextL (l.drop (evL l).1[k].2)).1 = (evL l).1[k].1 ∧ (nextL (l.drop (evL l).1[k].2)).2 ≠ 0 ∧ (evL l).1[k].2 + (nextL (l.drop (evL l).1[k].2)).2 = posE (evL l).1 (evL l).2 (k + 1) := (ev_chain l _ 0).at h
theorem ev_end_le (l : List UInt8) : (evL l).2 ≤ l.length := (ev_back l (l.length + 1) 0 (by omega) (by omega)).2.2.1
theorem Chain.pos_le {l : List UInt8} : ∀ {r : List (Ph × Nat)} {a e : Nat}, Chain l r a e → ∀ k, a ≤ posE r e k ∧ posE r e k ≤ e := by
  intro r
  induction r with
  | nil => intro a e h k; rw [posE_ge (by simp)]; exact ⟨Nat.le_of_eq h, Nat.le_refl _⟩
  | cons x r ih =>
    intro a e h k
    have hle := h.le
    cases k with
    | zero => rw [h.first]; exact ⟨Nat.le_refl _, hle⟩
    | succ k =>
      rw [posE_cons]
      have := ih h.2.2.2 k
      omega
theorem ev_pos_le (l : List UInt8) (k : Nat) : posE (evL l).1 (evL l).2 k ≤ l.length := Nat.le_trans ((ev_chain l _ 0).pos_le k).2 (ev_end_le l)
/-- what stands between a phone's place and the next one's is its text -/
theorem ev_text (l : List UInt8) {k : Nat} (h : k < (evL l).1.length) : isF (evL l).1[k].1 = true ∧ (l.drop (evL l).1[k].2).take (posE (evL l).1 (evL l).2 (k + 1) - (evL l).1[k].2) = textP (evL l).1[k].1 ∧ (evL l).1[k].2 < posE (evL l).1 (evL l).2 (k + 1) := by
  obtain ⟨h1, h2, h3⟩ := ev_at l h
  obtain ⟨k1, k2, k3⟩ := next_ok h2
  rw [h1] at k1 k2 k3
  refine ⟨k1, ?_, by omega⟩
  rw [← h3, Nat.add_sub_cancel_left, k3]
  exact (List.prefix_iff_eq_take.1 k2).symm

/-- what rows that were gone through so far, and a part of a row's six, leave as the best -/
def bestAt (l : List UInt8) (i k : Nat) : Ph × Nat := ((sixP ((rowsL.map (·.1)).getD i 0)).take k).foldl (tryP l) ((rowsL.take i).foldl (fun st x => (sixP x.1).foldl (tryP l) st) ((0, false, 0), 0))
theorem bestAt_zero (l : List UInt8) : bestAt l 0 0 = ((0, false, 0), 0) := rfl
theorem bestAt_end (l : List UInt8) : bestAt l 38 0 = nextL l := by
  rw [← best_next]
  unfold bestAt bestL
  rw [List.take_zero, List.foldl_nil, List.take_of_length_le (by rw [rowsL_len]; exact Nat.le_refl _)]
theorem bestAt_row (l : List UInt8) {i : Nat} (h : i < rowsL.length) : bestAt l i 6 = bestAt l (i + 1) 0 := by
  unfold bestAt
  rw [List.take_zero, List.foldl_nil, List.take_succ_eq_append_getElem h, List.foldl_append, List.foldl_cons, List.foldl_nil]
  have e : (rowsL.map (·.1)).getD i 0 = rowsL[i].1 := by
    rw [List.getD_eq_getElem?_getD, List.getElem?_map, List.getElem?_eq_getElem h]; rfl
  rw [e]
  rfl
def sixAt (r : Int) (k : Nat) : Ph := (sixP r).getD k (0, false, 0)
theorem bestAt_step (l : List UInt8) {i k : Nat} (h : i < rowsL.length) (hk : k < 6) : bestAt l i (k + 1) = tryP l (bestAt l i k) (sixAt rowsL[i].1 k) := by
  unfold bestAt sixAt
  have e : (rowsL.map (·.1)).getD i 0 = rowsL[i].1 := by
    rw [List.getD_eq_getElem?_getD, List.getElem?_map, List.getElem?_eq_getElem h]; rfl
  rw [e]
  generalize rowsL[i].1 = r
  have hl : k < (sixP r).length := by simpa [sixP] using hk
  rw [List.take_succ_eq_append_getElem hl, List.foldl_append, List.foldl_cons, List.foldl_nil, List.getD_eq_getElem?_getD, List.getElem?_eq_getElem hl]
  rfl
def sixG (k : Nat) : Int := if k % 3 = 0 then 0 else if k % 3 = 1 then 105 else 117
theorem sixAt_is (r : Int) {k : Nat} (hk : k < 6) : sixAt r k = (r, decide (3 ≤ k), sixG k) := by
  have : k = 0 ∨ k = 1 ∨ k = 2 ∨ k = 3 ∨ k = 4 ∨ k = 5 := by omega
  rcases this with rfl | rfl | rfl | rfl | rfl | rfl <;> rfl
end Go.Proofs.Ytogofchpocoebaa
