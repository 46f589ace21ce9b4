/- A text's places, in plain words: the boundaries with their numbers; the boundary at which each line begins. -/
import Derived.Test.YtialpfmaekagjaaD1
namespace Go.Proofs.Ytialpfmaekagjaa
open Go.RowKit

/-- a place: byte, rune, unit, line, column -/
structure Pl where
  b : Nat
  r : Nat
  u : Nat
  l : Nat
  c : Nat
def plC (p : Pl) : List Value := [.int .i64 p.b, .int .i64 p.r, .int .i64 p.u, .int .i64 p.l, .int .i64 p.c]
def plCs (l : List Pl) : List Value := l.flatMap plC
theorem plCs_len (l : List Pl) : (plCs l).length = l.length * 5 := by
  induction l with
  | nil => rfl
  | cons a l ih => simp only [plCs, List.flatMap_cons, List.length_append, List.length_cons] at ih ⊢; rw [ih]; simp [plC]; omega
theorem plCs_at (l : List Pl) (k : Nat) (h : k < l.length) (j : Nat) (hj : j < 5) : (plCs l)[k * 5 + j]? = (plC l[k])[j]? := by
  induction l generalizing k with
  | nil => simp at h
  | cons a l ih =>
    rcases k with _ | k
    · simp only [plCs, List.flatMap_cons, List.getElem_cons_zero, Nat.zero_mul, Nat.zero_add]
      exact List.getElem?_append_left (by simp [plC]; omega)
    · have := ih k (by simpa using h)
      simp only [plCs, List.flatMap_cons, List.getElem_cons_succ] at this ⊢
      rw [← this, List.getElem?_append_right (by simp [plC]; omega)]
      congr 1
      simp [plC]
      omega
theorem plCs_append (l : List Pl) (p : Pl) : plCs (l ++ [p]) = plCs l ++ plC p := by simp [plCs]
/-- a line: from, to, how many bytes its end has, the boundary at which it begins -/
structure Ln where
  f : Int
  t : Int
  e : Int
  k : Nat
def lnC (x : Ln) : List Value := [.int .i64 x.f, .int .i64 x.t, .int .i64 x.e, .int .i64 x.k]
def lnCs (l : List Ln) : List Value := l.flatMap lnC
theorem lnCs_len (l : List Ln) : (lnCs l).length = l.length * 4 := by
  induction l with
  | nil => rfl
  | cons a l ih => simp only [lnCs, List.flatMap_cons, List.length_append, List.length_cons] at ih ⊢; rw [ih]; simp [lnC]; omega
theorem lnCs_at (l : List Ln) (k : Nat) (h : k < l.length) (j : Nat) (hj : j < 4) : (lnCs l)[k * 4 + j]? = (lnC l[k])[j]? := by
  induction l generalizing k with
  | nil => simp at h
  | cons a l ih =>
    rcases k with _ | k
    · simp only [lnCs, List.flatMap_cons, List.getElem_cons_zero, Nat.zero_mul, Nat.zero_add]
      exact List.getElem?_append_left (by simp [lnC]; omega)
    · have := ih k (by simpa using h)
      simp only [lnCs, List.flatMap_cons, List.getElem_cons_succ] at this ⊢
      rw [← this, List.getElem?_append_right (by simp [lnC]; omega)]
      congr 1
      simp [lnC]
      omega
theorem lnCs_append (l : List Ln) (p : Ln) : lnCs (l ++ [p]) = lnCs l ++ lnC p := by simp [lnCs]

/-- does a line end with the piece at a place that is read as r? -/
def brkF (s : ByteArray) (pos r : Nat) : Bool := r == 10 || (r == 13 && !(decide (pos + 1 < s.size) && (s.get! (pos + 1)).toNat == 10))
def nextP (s : ByteArray) (pos r dw : Nat) (p : Pl) : Pl :=
  ⟨pos + dw, p.r + 1, p.u + (if 65536 ≤ r then 2 else 1), if brkF s pos r then p.l + 1 else p.l, if brkF s pos r then 0 else p.c + 1⟩
/-- the boundaries from a place on -/
def plGo (s : ByteArray) : Nat → Nat → Pl → List Pl
  | 0, _, _ => []
  | f + 1, pos, p => if pos < s.size then p :: plGo s f (pos + (Utf8.decode s pos).2) (nextP s pos (Utf8.decode s pos).1 (Utf8.decode s pos).2 p) else [p]
def pl0 : Pl := ⟨0, 0, 0, 0, 0⟩
def plL (s : ByteArray) : List Pl := plGo s (s.size + 1) 0 pl0
/-- the lines' first boundaries from a place on: the boundary's number, that of the open line's first -/
def fsGo (s : ByteArray) : Nat → Nat → Nat → Nat → List Nat
  | 0, _, _, _ => []
  | f + 1, pos, k, cur =>
    if pos < s.size then
      if brkF s pos (Utf8.decode s pos).1 then cur :: fsGo s f (pos + (Utf8.decode s pos).2) (k + 1) (k + 1) else fsGo s f (pos + (Utf8.decode s pos).2) (k + 1) cur
    else [cur]
def fsL (s : ByteArray) : List Nat := fsGo s (s.size + 1) 0 0 0
theorem go_more (s : ByteArray) (f pos : Nat) (p : Pl) (k cur : Nat) (h : pos < s.size) (hf : s.size - pos < f) : ∃ f', s.size - (pos + (Utf8.decode s pos).2) < f' ∧
    plGo s f pos p = p :: plGo s f' (pos + (Utf8.decode s pos).2) (nextP s pos (Utf8.decode s pos).1 (Utf8.decode s pos).2 p) ∧
    fsGo s f pos k cur = if brkF s pos (Utf8.decode s pos).1 then cur :: fsGo s f' (pos + (Utf8.decode s pos).2) (k + 1) (k + 1) else fsGo s f' (pos + (Utf8.decode s pos).2) (k + 1) cur := by
  cases f with
  | zero => omega
  | succ f =>
    have := width_pos s pos h
    exact ⟨f, by omega, by conv => lhs; unfold plGo; rw [if_pos h], by conv => lhs; unfold fsGo; rw [if_pos h]⟩
theorem go_end (s : ByteArray) (f pos : Nat) (p : Pl) (k cur : Nat) (h : ¬ pos < s.size) (hf : 0 < f) : plGo s f pos p = [p] ∧ fsGo s f pos k cur = [cur] := by
  cases f with
  | zero => omega
  | succ f => exact ⟨by unfold plGo; rw [if_neg h], by unfold fsGo; rw [if_neg h]⟩
end Go.Proofs.Ytialpfmaekagjaa
