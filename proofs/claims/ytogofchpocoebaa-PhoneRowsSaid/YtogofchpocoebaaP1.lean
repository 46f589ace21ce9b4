/- Phones: what a rune says; the rows in order; a phone; what it costs (no program in sight). -/
import Derived.WalkKit
import Derived.Test.YtogofchpocoebaaMem
namespace Go.Proofs.Ytogofchpocoebaa
open Go.RowKit

/-- what a phone's rune says: a vowel?, its height, its back, round?, its place, its manner, voiced? -/
abbrev Tr := Bool × Int × Int × Bool × Int × Int × Bool
def Tr.vow (t : Tr) : Bool := t.1
def Tr.hgt (t : Tr) : Int := t.2.1
def Tr.bck (t : Tr) : Int := t.2.2.1
def Tr.rnd (t : Tr) : Bool := t.2.2.2.1
def Tr.plc (t : Tr) : Int := t.2.2.2.2.1
def Tr.mnr (t : Tr) : Int := t.2.2.2.2.2.1
def Tr.vcd (t : Tr) : Bool := t.2.2.2.2.2.2
def trC (t : Tr) : List Value := [.bool t.vow, .int .i64 t.hgt, .int .i64 t.bck, .bool t.rnd, .int .i64 t.plc, .int .i64 t.mnr, .bool t.vcd]
def trV (t : Tr) : Value := .agg (trC t).toArray
def tr0 : Tr := (false, 0, 0, false, 0, 0, false)
def rowC (r : Int × Tr) : List Value := .int .i32 r.1 :: trC r.2
/-- a phone: its rune, long?, its glide -/
abbrev Ph := Int × Bool × Int
def phC (p : Ph) : List Value := [.int .i32 p.1, .bool p.2.1, .int .i32 p.2.2]
def phV (p : Ph) : Value := .agg (phC p).toArray

/-- the cells of rows of elements of one size -/
theorem flat_len {α : Type} (f : α → List Value) (sz : Nat) (hf : ∀ a, (f a).length = sz) (l : List α) : (l.flatMap f).length = l.length * sz := by
  induction l with
  | nil => simp
  | cons a l ih => rw [List.flatMap_cons, List.length_append, ih, hf, List.length_cons, Nat.add_mul, Nat.one_mul, Nat.add_comm]
theorem flat_at {α : Type} (f : α → List Value) (sz : Nat) (hf : ∀ a, (f a).length = sz) (l : List α) (k : Nat) (h : k < l.length) (j : Nat) (hj : j < sz) : (l.flatMap f)[k * sz + j]? = (f l[k])[j]? := by
  induction l generalizing k with
  | nil => simp at h
  | cons a l ih =>
    rw [List.flatMap_cons]
    rcases k with _ | k
    · rw [List.getElem?_append_left (by rw [hf]; omega)]
      simp
    · rw [List.getElem?_append_right (by rw [hf, Nat.add_mul]; omega), hf, show (k + 1) * sz + j - sz = k * sz + j by rw [Nat.add_mul]; omega]
      simpa using ih k (by simpa using h)
theorem Rd.flat {α : Type} {f : α → List Value} {sz : Nat} (hf : ∀ a, (f a).length = sz) (hs : 0 < sz) {w : World} {L B n : Nat} {A : Option Addr} {l : List α} (h : Rd w L B sz A n (l.flatMap f)) {k : Nat} (hk : k < n) :
    ∃ b o, ∃ hl : k < l.length, A = some ⟨b, o, none⟩ ∧ L ≤ b ∧ b < B ∧ ∀ j u, (f l[k])[j]? = some u → w.cell? ⟨b, o + k * sz + j, none⟩ = some u := by
  have hn : l.length = n := by have := h.1; rw [flat_len f sz hf] at this; exact Nat.eq_of_mul_eq_mul_right hs this
  obtain ⟨b, o, e, hl, hb, hc⟩ := h.2 (by omega)
  refine ⟨b, o, by omega, e, hl, hb, fun j u hu => ?_⟩
  have hj : j < sz := by have := (List.getElem?_eq_some_iff.1 hu).1; rwa [hf] at this
  rw [Nat.add_assoc]
  exact hc _ _ ((flat_at f sz hf l k (by omega) j hj).trans hu)
theorem flat_drop {α : Type} (f : α → List Value) (sz : Nat) (hf : ∀ a, (f a).length = sz) (l : List α) (N : Nat) (h : N ≤ l.length) : (l.drop N).flatMap f = (l.flatMap f).drop (N * sz) := by
  have h1 : l.flatMap f = (l.take N).flatMap f ++ (l.drop N).flatMap f := by rw [← List.flatMap_append, List.take_append_drop]
  have h2 : N * sz = ((l.take N).flatMap f).length := by rw [flat_len f sz hf, List.length_take]; congr 1; omega
  rw [h1, h2, List.drop_left]
theorem flat_take {α : Type} (f : α → List Value) (sz : Nat) (hf : ∀ a, (f a).length = sz) (l : List α) (N : Nat) (h : N ≤ l.length) : (l.take N).flatMap f = (l.flatMap f).take (N * sz) := by
  have h1 : l.flatMap f = (l.take N).flatMap f ++ (l.drop N).flatMap f := by rw [← List.flatMap_append, List.take_append_drop]
  have h2 : N * sz = ((l.take N).flatMap f).length := by rw [flat_len f sz hf, List.length_take]; congr 1; omega
  rw [h1, h2, List.take_left]
theorem phC_len (p : Ph) : (phC p).length = 3 := rfl
theorem rowC_len (r : Int × Tr) : (rowC r).length = 8 := rfl
def phs (l : List Ph) : List Value := l.flatMap phC
def rws (l : List (Int × Tr)) : List Value := l.flatMap rowC
theorem phs_len (l : List Ph) : (phs l).length = l.length * 3 := flat_len phC 3 phC_len l
theorem rws_len (l : List (Int × Tr)) : (rws l).length = l.length * 8 := flat_len rowC 8 rowC_len l
theorem phs_append (a b : List Ph) : phs (a ++ b) = phs a ++ phs b := by simp [phs]
theorem rws_append (a b : List (Int × Tr)) : rws (a ++ b) = rws a ++ rws b := by simp [rws]
theorem phs_one (l : List Ph) : ∀ u ∈ phs l, u.oneCell' = true := by
  intro u hu
  obtain ⟨p, _, hp⟩ := List.mem_flatMap.1 hu
  simp [phC] at hp
  rcases hp with rfl | rfl | rfl <;> rfl
theorem rws_one (l : List (Int × Tr)) : ∀ u ∈ rws l, u.oneCell' = true := by
  intro u hu
  obtain ⟨p, _, hp⟩ := List.mem_flatMap.1 hu
  simp [rowC, trC] at hp
  rcases hp with rfl | rfl | rfl | rfl | rfl | rfl | rfl | rfl <;> rfl
theorem Rd.ph {w : World} {L B n : Nat} {A : Option Addr} {l : List Ph} (h : Rd w L B 3 A n (phs l)) {k : Nat} (hk : k < n) :
    ∃ b o, ∃ hl : k < l.length, A = some ⟨b, o, none⟩ ∧ L ≤ b ∧ b < B ∧ w.cell? ⟨b, o + k * 3, none⟩ = some (.int .i32 l[k].1) ∧ w.cell? ⟨b, o + k * 3 + 1, none⟩ = some (.bool l[k].2.1) ∧ w.cell? ⟨b, o + k * 3 + 2, none⟩ = some (.int .i32 l[k].2.2) := by
  obtain ⟨b, o, hl, e, h1, h2, hc⟩ := Rd.flat phC_len (by omega) h hk
  exact ⟨b, o, hl, e, h1, h2, hc 0 _ rfl, hc 1 _ rfl, hc 2 _ rfl⟩
theorem Rd.len_ph {w : World} {L B n : Nat} {A : Option Addr} {l : List Ph} (h : Rd w L B 3 A n (phs l)) : l.length = n := by have := h.1; rw [phs_len] at this; omega

/-- the vowels, the consonants, by rune -/
def vowRows : List (Int × Tr) := [(97, true, 0, 1, false, 0, 0, false), (101, true, 4, 0, false, 0, 0, false), (105, true, 6, 0, false, 0, 0, false), (111, true, 4, 2, true, 0, 0, false), (117, true, 6, 2, true, 0, 0, false), (121, true, 6, 0, true, 0, 0, false),
  (230, true, 1, 0, false, 0, 0, false), (248, true, 4, 0, true, 0, 0, false), (593, true, 0, 2, false, 0, 0, false), (596, true, 2, 2, true, 0, 0, false), (601, true, 3, 1, false, 0, 0, false), (603, true, 2, 0, false, 0, 0, false)]
def conRows : List (Int × Tr) := [(98, false, 0, 0, false, 0, 0, true), (100, false, 0, 0, false, 2, 0, true), (102, false, 0, 0, false, 0, 2, false), (103, false, 0, 0, false, 5, 0, true), (104, false, 0, 0, false, 6, 2, false), (106, false, 0, 0, false, 4, 5, true), (107, false, 0, 0, false, 5, 0, false),
  (108, false, 0, 0, false, 2, 4, true), (109, false, 0, 0, false, 0, 3, true), (110, false, 0, 0, false, 2, 3, true), (112, false, 0, 0, false, 0, 0, false), (114, false, 0, 0, false, 3, 4, true), (115, false, 0, 0, false, 2, 2, false), (116, false, 0, 0, false, 2, 0, false),
  (118, false, 0, 0, false, 0, 2, true), (119, false, 0, 0, false, 0, 5, true), (120, false, 0, 0, false, 5, 2, false), (122, false, 0, 0, false, 2, 2, true), (240, false, 0, 0, false, 1, 2, true), (331, false, 0, 0, false, 5, 3, true), (643, false, 0, 0, false, 3, 2, false), (658, false, 0, 0, false, 3, 2, true),
  (660, false, 0, 0, false, 6, 0, false), (676, false, 0, 0, false, 3, 1, true), (679, false, 0, 0, false, 3, 1, false), (952, false, 0, 0, false, 1, 2, false)]
/-- two rows, merged -/
def mergeR : Nat → List (Int × Tr) → List (Int × Tr) → List (Int × Tr)
  | 0, _, _ => []
  | _ + 1, [], [] => []
  | n + 1, v :: vs, [] => v :: mergeR n vs []
  | n + 1, [], c :: cs => c :: mergeR n [] cs
  | n + 1, v :: vs, c :: cs => if v.1 < c.1 then v :: mergeR n vs (c :: cs) else c :: mergeR n (v :: vs) cs
def rowsL : List (Int × Tr) := mergeR 38 vowRows conRows
theorem rowsL_len : rowsL.length = 38 := by decide +kernel

/-- what the table says of a rune when the rows l have been laid in it -/
def tabOf (l : List (Int × Tr)) (r : Int) : Option Tr := (l.reverse.find? fun x => x.1 == r).map (·.2)
theorem tabOf_snoc (l : List (Int × Tr)) (x : Int × Tr) (r : Int) : tabOf (l ++ [x]) r = if x.1 = r then some x.2 else tabOf l r := by
  unfold tabOf
  rw [List.reverse_append]
  simp only [List.reverse_cons, List.reverse_nil, List.nil_append, List.singleton_append, List.find?_cons]
  by_cases h : x.1 = r
  · rw [if_pos h, show (x.1 == r) = true by simpa using h]
    rfl
  · rw [if_neg h, show (x.1 == r) = false by simpa using h]
def tabF (r : Int) : Option Tr := tabOf rowsL r
def traits (r : Int) : Tr := (tabF r).getD tr0

/-- is it a phone? -/
def isF (p : Ph) : Bool := (tabF p.1).isSome && (decide (p.2.2 = 0) || ((traits p.1).vow && (decide (p.2.2 = 105) || decide (p.2.2 = 117))))
def sonF (p : Ph) : Int := if isF p then if (traits p.1).vow then 7 else (traits p.1).mnr + 1 else 0

def farF (a b : Int) : Int := max (a - b) (b - a)
def bit (b : Bool) (n : Int) : Int := if b then n else 0
def apartF (p q : Ph) : Int :=
  if (traits p.1).vow != (traits q.1).vow then 40
  else (if (traits p.1).vow then 3 * farF (traits p.1).hgt (traits q.1).hgt + 2 * farF (traits p.1).bck (traits q.1).bck + bit ((traits p.1).rnd != (traits q.1).rnd) 1
    else 2 * farF (traits p.1).plc (traits q.1).plc + 3 * farF (traits p.1).mnr (traits q.1).mnr + bit ((traits p.1).vcd != (traits q.1).vcd) 1)
    + bit (p.2.1 != q.2.1) 2 + bit (p.2.2 != q.2.2) 3
def loneF (p : Ph) : Int := (if (traits p.1).vow then 14 else 10) + bit p.2.1 2 + bit (p.2.2 != 0) 3

/-- what the least alignment of two rows costs -/
def costIn (p : Ph) (f : List Ph → Int) : List Ph → Int
  | [] => loneF p + f []
  | q :: b => min (apartF p q + f b) (min (loneF p + f (q :: b)) (loneF q + costIn p f b))
def costNil : List Ph → Int
  | [] => 0
  | q :: b => loneF q + costNil b
def costF : List Ph → List Ph → Int
  | [], b => costNil b
  | p :: a, b => costIn p (costF a) b
end Go.Proofs.Ytogofchpocoebaa
