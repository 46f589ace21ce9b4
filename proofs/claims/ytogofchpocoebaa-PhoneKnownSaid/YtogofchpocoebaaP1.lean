/- Phones: what a rune says; the rows in order; a phone; what it costs (no program in sight).
   Phones: how far rows are apart: a metric (no program in sight).
   Phones in texts: the bytes of a phone; the longest phone with which bytes begin (no program in sight).
   Phones in texts: the longest phone among all that may be; phones read one behind another; printed and read (no program in sight). -/
import Derived.WalkKit
import Derived.Test.YtogofchpocoebaaMem
namespace Go.Proofs.Ytogofchpocoebaa
open Go.RowKit

/-- what a phone's rune says: a vowel?, its height, its back, round?, its place, its manner, voiced? -/
abbrev Tr := Bool × Int × Int × Bool × Int × Int × Bool
def Tr.vow (t : Tr) : Bool := t.1
def Tr.hgt (t : Tr) : Int := t.2.1
def Tr.bck (t : Tr) : Int := t.2.2.1
def Tr.rnd (t : Tr) : Bool := t.2.2.2.1
def Tr.plc (t : Tr) : Int := t.2.2.2.2.1
def Tr.mnr (t : Tr) : Int := t.2.2.2.2.2.1
def Tr.vcd (t : Tr) : Bool := t.2.2.2.2.2.2
def trC (t : Tr) : List Value := [.bool t.vow, .int .i64 t.hgt, .int .i64 t.bck, .bool t.rnd, .int .i64 t.plc, .int .i64 t.mnr, .bool t.vcd]
def trV (t : Tr) : Value := .agg (trC t).toArray
def tr0 : Tr := (false, 0, 0, false, 0, 0, false)
def rowC (r : Int × Tr) : List Value := .int .i32 r.1 :: trC r.2
/-- a phone: its rune, long?, its glide -/
abbrev Ph := Int × Bool × Int
def phC (p : Ph) : List Value := [.int .i32 p.1, .bool p.2.1, .int .i32 p.2.2]
def phV (p : Ph) : Value := .agg (phC p).toArray

/-- the cells of rows of elements of one size -/
theorem flat_len {α : Type} (f : α → List Value) (sz : Nat) (hf : ∀ a, (f a).length = sz) (l : List α) : (l.flatMap f).length = l.length * sz := by
  induction l with
  | nil => simp
  | cons a l ih => rw [List.flatMap_cons, List.length_append, ih, hf, List.length_cons, Nat.add_mul, Nat.one_mul, Nat.add_comm]
theorem flat_at {α : Type} (f : α → List Value) (sz : Nat) (hf : ∀ a, (f a).length = sz) (l : List α) (k : Nat) (h : k < l.length) (j : Nat) (hj : j < sz) : (l.flatMap f)[k * sz + j]? = (f l[k])[j]? := by
  induction l generalizing k with
  | nil => simp at h
  | cons a l ih =>
    rw [List.flatMap_cons]
    rcases k with _ | k
    · rw [List.getElem?_append_left (by rw [hf]; omega)]
      simp
    · rw [List.getElem?_append_right (by rw [hf, Nat.add_mul]; omega), hf, show (k + 1) * sz + j - sz = k * sz + j by rw [Nat.add_mul]; omega]
      simpa using ih k (by simpa using h)
theorem Rd.flat {α : Type} {f : α → List Value} {sz : Nat} (hf : ∀ a, (f a).length = sz) (hs : 0 < sz) {w : World} {L B n : Nat} {A : Option Addr} {l : List α} (h : Rd w L B sz A n (l.flatMap f)) {k : Nat} (hk : k < n) :
    ∃ b o, ∃ hl : k < l.length, A = some ⟨b, o, none⟩ ∧ L ≤ b ∧ b < B ∧ ∀ j u, (f l[k])[j]? = some u → w.cell? ⟨b, o + k * sz + j, none⟩ = some u := by
  have hn : l.length = n := by have := h.1; rw [flat_len f sz hf] at this; exact Nat.eq_of_mul_eq_mul_right hs this
  obtain ⟨b, o, e, hl, hb, hc⟩ := h.2 (by omega)
  refine ⟨b, o, by omega, e, hl, hb, fun j u hu => ?_⟩
  have hj : j < sz := by have := (List.getElem?_eq_some_iff.1 hu).1; rwa [hf] at this
  rw [Nat.add_assoc]
  exact hc _ _ ((flat_at f sz hf l k (by omega) j hj).trans hu)
theorem flat_drop {α : Type} (f : α → List Value) (sz : Nat) (hf : ∀ a, (f a).length = sz) (l : List α) (N : Nat) (h : N ≤ l.length) : (l.drop N).flatMap f = (l.flatMap f).drop (N * sz) := by
  have h1 : l.flatMap f = (l.take N).flatMap f ++ (l.drop N).flatMap f := by rw [← List.flatMap_append, List.take_append_drop]
  have h2 : N * sz = ((l.take N).flatMap f).length := by rw [flat_len f sz hf, List.length_take]; congr 1; omega
  rw [h1, h2, List.drop_left]
theorem flat_take {α : Type} (f : α → List Value) (sz : Nat) (hf : ∀ a, (f a).length = sz) (l : List α) (N : Nat) (h : N ≤ l.length) : (l.take N).flatMap f = (l.flatMap f).take (N * sz) := by
  have h1 : l.flatMap f = (l.take N).flatMap f ++ (l.drop N).flatMap f := by rw [← List.flatMap_append, List.take_append_drop]
  have h2 : N * sz = ((l.take N).flatMap f).length := by rw [flat_len f sz hf, List.length_take]; congr 1; omega
  rw [h1, h2, List.take_left]
theorem phC_len (p : Ph) : (phC p).length = 3 := rfl
theorem rowC_len (r : Int × Tr) : (rowC r).length = 8 := rfl
def phs (l : List Ph) : List Value := l.flatMap phC
def rws (l : List (Int × Tr)) : List Value := l.flatMap rowC
theorem phs_len (l : List Ph) : (phs l).length = l.length * 3 := flat_len phC 3 phC_len l
theorem rws_len (l : List (Int × Tr)) : (rws l).length = l.length * 8 := flat_len rowC 8 rowC_len l
theorem phs_append (a b : List Ph) : phs (a ++ b) = phs a ++ phs b := by simp [phs]
theorem rws_append (a b : List (Int × Tr)) : rws (a ++ b) = rws a ++ rws b := by simp [rws]
theorem phs_one (l : List Ph) : ∀ u ∈ phs l, u.oneCell' = true := by
  intro u hu
  obtain ⟨p, _, hp⟩ := List.mem_flatMap.1 hu
  simp [phC] at hp
  rcases hp with rfl | rfl | rfl <;> rfl
theorem rws_one (l : List (Int × Tr)) : ∀ u ∈ rws l, u.oneCell' = true := by
  intro u hu
  obtain ⟨p, _, hp⟩ := List.mem_flatMap.1 hu
  simp [rowC, trC] at hp
  rcases hp with rfl | rfl | rfl | rfl | rfl | rfl | rfl | rfl <;> rfl
theorem Rd.ph {w : World} {L B n : Nat} {A : Option Addr} {l : List Ph} (h : Rd w L B 3 A n (phs l)) {k : Nat} (hk : k < n) :
    ∃ b o, ∃ hl : k < l.length, A = some ⟨b, o, none⟩ ∧ L ≤ b ∧ b < B ∧ w.cell? ⟨b, o + k * 3, none⟩ = some (.int .i32 l[k].1) ∧ w.cell? ⟨b, o + k * 3 + 1, none⟩ = some (.bool l[k].2.1) ∧ w.cell? ⟨b, o + k * 3 + 2, none⟩ = some (.int .i32 l[k].2.2) := by
  obtain ⟨b, o, hl, e, h1, h2, hc⟩ := Rd.flat phC_len (by omega) h hk
  exact ⟨b, o, hl, e, h1, h2, hc 0 _ rfl, hc 1 _ rfl, hc 2 _ rfl⟩
theorem Rd.len_ph {w : World} {L B n : Nat} {A : Option Addr} {l : List Ph} (h : Rd w L B 3 A n (phs l)) : l.length = n := by have := h.1; rw [phs_len] at this; omega

/-- the vowels, the consonants, by rune -/
def vowRows : List (Int × Tr) := [(97, true, 0, 1, false, 0, 0, false), (101, true, 4, 0, false, 0, 0, false), (105, true, 6, 0, false, 0, 0, false), (111, true, 4, 2, true, 0, 0, false), (117, true, 6, 2, true, 0, 0, false), (121, true, 6, 0, true, 0, 0, false),
  (230, true, 1, 0, false, 0, 0, false), (248, true, 4, 0, true, 0, 0, false), (593, true, 0, 2, false, 0, 0, false), (596, true, 2, 2, true, 0, 0, false), (601, true, 3, 1, false, 0, 0, false), (603, true, 2, 0, false, 0, 0, false)]
def conRows : List (Int × Tr) := [(98, false, 0, 0, false, 0, 0, true), (100, false, 0, 0, false, 2, 0, true), (102, false, 0, 0, false, 0, 2, false), (103, false, 0, 0, false, 5, 0, true), (104, false, 0, 0, false, 6, 2, false), (106, false, 0, 0, false, 4, 5, true), (107, false, 0, 0, false, 5, 0, false),
  (108, false, 0, 0, false, 2, 4, true), (109, false, 0, 0, false, 0, 3, true), (110, false, 0, 0, false, 2, 3, true), (112, false, 0, 0, false, 0, 0, false), (114, false, 0, 0, false, 3, 4, true), (115, false, 0, 0, false, 2, 2, false), (116, false, 0, 0, false, 2, 0, false),
  (118, false, 0, 0, false, 0, 2, true), (119, false, 0, 0, false, 0, 5, true), (120, false, 0, 0, false, 5, 2, false), (122, false, 0, 0, false, 2, 2, true), (240, false, 0, 0, false, 1, 2, true), (331, false, 0, 0, false, 5, 3, true), (643, false, 0, 0, false, 3, 2, false), (658, false, 0, 0, false, 3, 2, true),
  (660, false, 0, 0, false, 6, 0, false), (676, false, 0, 0, false, 3, 1, true), (679, false, 0, 0, false, 3, 1, false), (952, false, 0, 0, false, 1, 2, false)]
/-- two rows, merged -/
def mergeR : Nat → List (Int × Tr) → List (Int × Tr) → List (Int × Tr)
  | 0, _, _ => []
  | _ + 1, [], [] => []
  | n + 1, v :: vs, [] => v :: mergeR n vs []
  | n + 1, [], c :: cs => c :: mergeR n [] cs
  | n + 1, v :: vs, c :: cs => if v.1 < c.1 then v :: mergeR n vs (c :: cs) else c :: mergeR n (v :: vs) cs
def rowsL : List (Int × Tr) := mergeR 38 vowRows conRows
theorem rowsL_len : rowsL.length = 38 := by decide +kernel

/-- what the table says of a rune when the rows l have been laid in it -/
def tabOf (l : List (Int × Tr)) (r : Int) : Option Tr := (l.reverse.find? fun x => x.1 == r).map (·.2)
theorem tabOf_snoc (l : List (Int × Tr)) (x : Int × Tr) (r : Int) : tabOf (l ++ [x]) r = if x.1 = r then some x.2 else tabOf l r := by
  unfold tabOf
  rw [List.reverse_append]
  simp only [List.reverse_cons, List.reverse_nil, List.nil_append, List.singleton_append, List.find?_cons]
  by_cases h : x.1 = r
  · rw [if_pos h, show (x.1 == r) = true by simpa using h]
    rfl
  · rw [if_neg h, show (x.1 == r) = false by simpa using h]
def tabF (r : Int) : Option Tr := tabOf rowsL r
def traits (r : Int) : Tr := (tabF r).getD tr0

/-- is it a phone? -/
def isF (p : Ph) : Bool := (tabF p.1).isSome && (decide (p.2.2 = 0) || ((traits p.1).vow && (decide (p.2.2 = 105) || decide (p.2.2 = 117))))
def sonF (p : Ph) : Int := if isF p then if (traits p.1).vow then 7 else (traits p.1).mnr + 1 else 0

def farF (a b : Int) : Int := max (a - b) (b - a)
def bit (b : Bool) (n : Int) : Int := if b then n else 0
def apartF (p q : Ph) : Int :=
  if (traits p.1).vow != (traits q.1).vow then 40
  else (if (traits p.1).vow then 3 * farF (traits p.1).hgt (traits q.1).hgt + 2 * farF (traits p.1).bck (traits q.1).bck + bit ((traits p.1).rnd != (traits q.1).rnd) 1
    else 2 * farF (traits p.1).plc (traits q.1).plc + 3 * farF (traits p.1).mnr (traits q.1).mnr + bit ((traits p.1).vcd != (traits q.1).vcd) 1)
    + bit (p.2.1 != q.2.1) 2 + bit (p.2.2 != q.2.2) 3
def loneF (p : Ph) : Int := (if (traits p.1).vow then 14 else 10) + bit p.2.1 2 + bit (p.2.2 != 0) 3

/-- what the least alignment of two rows costs -/
def costIn (p : Ph) (f : List Ph → Int) : List Ph → Int
  | [] => loneF p + f []
  | q :: b => min (apartF p q + f b) (min (loneF p + f (q :: b)) (loneF q + costIn p f b))
def costNil : List Ph → Int
  | [] => 0
  | q :: b => loneF q + costNil b
def costF : List Ph → List Ph → Int
  | [], b => costNil b
  | p :: a, b => costIn p (costF a) b
end Go.Proofs.Ytogofchpocoebaa

namespace Go.Proofs.Ytogofchpocoebaa

theorem cost_nn : costF [] [] = 0 := rfl
theorem cost_nc (q : Ph) (b : List Ph) : costF [] (q :: b) = loneF q + costF [] b := rfl
theorem cost_cn (p : Ph) (a : List Ph) : costF (p :: a) [] = loneF p + costF a [] := rfl
theorem cost_cc (p q : Ph) (a b : List Ph) : costF (p :: a) (q :: b) = min (apartF p q + costF a b) (min (loneF p + costF a (q :: b)) (loneF q + costF (p :: a) b)) := rfl

theorem far_comm (a b : Int) : farF a b = farF b a := by unfold farF; omega
theorem far_nn (a b : Int) : 0 ≤ farF a b := by unfold farF; omega
theorem far_tri (a b c : Int) : farF a c ≤ farF a b + farF b c := by unfold farF; omega
theorem bit_nn (b : Bool) (n : Int) (h : 0 ≤ n) : 0 ≤ bit b n := by unfold bit; split <;> omega
theorem bne_comm' {α : Type} [BEq α] [LawfulBEq α] (a b : α) : (a != b) = (b != a) := by
  by_cases h : a = b
  · subst h; rfl
  · rw [show (a != b) = true by simpa using h, show (b != a) = true by simpa using fun e => h e.symm]
theorem apart_comm (p q : Ph) : apartF p q = apartF q p := by
  unfold apartF
  rw [bne_comm' (traits q.1).vow, bne_comm' (traits q.1).rnd, bne_comm' (traits q.1).vcd, bne_comm' q.2.1, bne_comm' q.2.2, far_comm (traits q.1).hgt, far_comm (traits q.1).bck, far_comm (traits q.1).plc, far_comm (traits q.1).mnr]
  by_cases h : ((traits p.1).vow != (traits q.1).vow) = true
  · rw [if_pos h, if_pos h]
  · rw [if_neg h, if_neg h]
    have : (traits p.1).vow = (traits q.1).vow := by simpa using h
    rw [this]
theorem apart_nn (p q : Ph) : 0 ≤ apartF p q := by
  have f1 := far_nn (traits p.1).hgt (traits q.1).hgt
  have f2 := far_nn (traits p.1).bck (traits q.1).bck
  have f3 := far_nn (traits p.1).plc (traits q.1).plc
  have f4 := far_nn (traits p.1).mnr (traits q.1).mnr
  have b1 := bit_nn ((traits p.1).rnd != (traits q.1).rnd) 1 (by omega)
  have b2 := bit_nn ((traits p.1).vcd != (traits q.1).vcd) 1 (by omega)
  have b3 := bit_nn (p.2.1 != q.2.1) 2 (by omega)
  have b4 := bit_nn (p.2.2 != q.2.2) 3 (by omega)
  unfold apartF
  split
  · omega
  · split <;> omega
theorem lone_pos (p : Ph) : 10 ≤ loneF p := by
  have b3 := bit_nn p.2.1 2 (by omega)
  have b4 := bit_nn (p.2.2 != 0) 3 (by omega)
  unfold loneF
  split <;> omega
theorem cost_le2 (p : Ph) (a b : List Ph) : costF (p :: a) b ≤ loneF p + costF a b := by
  cases b with
  | nil => rw [cost_cn]; exact Int.le_refl _
  | cons q b => rw [cost_cc]; omega
theorem cost_le3 (q : Ph) (a b : List Ph) : costF a (q :: b) ≤ loneF q + costF a b := by
  cases a with
  | nil => rw [cost_nc]; exact Int.le_refl _
  | cons p a => rw [cost_cc]; omega
theorem cost_le1 (p q : Ph) (a b : List Ph) : costF (p :: a) (q :: b) ≤ apartF p q + costF a b := by rw [cost_cc]; omega
theorem cost_nn' : ∀ a b, 0 ≤ costF a b := by
  intro a
  induction a with
  | nil =>
    intro b
    induction b with
    | nil => rw [cost_nn]; omega
    | cons q b ih => have := lone_pos q; rw [cost_nc]; omega
  | cons p a iha =>
    intro b
    induction b with
    | nil => have := lone_pos p; have := iha []; rw [cost_cn]; omega
    | cons q b ih =>
      have h1 := lone_pos p
      have h2 := lone_pos q
      have h3 := apart_nn p q
      have h4 := iha b
      have h5 := iha (q :: b)
      rw [cost_cc]; omega
theorem cost_comm : ∀ a b, costF a b = costF b a := by
  intro a
  induction a with
  | nil =>
    intro b
    induction b with
    | nil => rfl
    | cons q b ih => rw [cost_nc, cost_cn, ih]
  | cons p a iha =>
    intro b
    induction b with
    | nil => rw [cost_nc, cost_cn, iha]
    | cons q b ih => rw [cost_cc, cost_cc, iha, iha, ih, apart_comm p q]; omega

/-- two rows part by one first step -/
theorem cost_way (a b : List Ph) : (a = [] ∧ b = []) ∨ (∃ p a', a = p :: a' ∧ costF a b = loneF p + costF a' b) ∨ (∃ q b', b = q :: b' ∧ costF a b = loneF q + costF a b') ∨
    (∃ p a' q b', a = p :: a' ∧ b = q :: b' ∧ costF a b = apartF p q + costF a' b') := by
  cases a with
  | nil =>
    cases b with
    | nil => exact .inl ⟨rfl, rfl⟩
    | cons q b => exact .inr (.inr (.inl ⟨q, b, rfl, cost_nc q b⟩))
  | cons p a =>
    cases b with
    | nil => exact .inr (.inl ⟨p, a, rfl, cost_cn p a⟩)
    | cons q b =>
      have h := cost_cc p q a b
      by_cases h1 : costF (p :: a) (q :: b) = apartF p q + costF a b
      · exact .inr (.inr (.inr ⟨p, a, q, b, rfl, rfl, h1⟩))
      · by_cases h2 : costF (p :: a) (q :: b) = loneF p + costF a (q :: b)
        · exact .inr (.inl ⟨p, a, rfl, h2⟩)
        · exact .inr (.inr (.inl ⟨q, b, rfl, by omega⟩))

/-- what the traits of the table say lies in these bounds -/
def trOk (t : Tr) : Bool := decide (0 ≤ t.hgt) && decide (t.hgt ≤ 6) && decide (0 ≤ t.bck) && decide (t.bck ≤ 2) && decide (0 ≤ t.plc) && decide (t.plc ≤ 6) && decide (0 ≤ t.mnr) && decide (t.mnr ≤ 5) &&
  (if t.vow then decide (t.plc = 0) && decide (t.mnr = 0) && !t.vcd else decide (t.hgt = 0) && decide (t.bck = 0) && !t.rnd)
theorem rows_ok : (rowsL.all fun x => trOk x.2) = true := by decide +kernel
theorem tab_mem {l : List (Int × Tr)} {r : Int} {t : Tr} (h : tabOf l r = some t) : (r, t) ∈ l := by
  unfold tabOf at h
  obtain ⟨x, hx, ht⟩ := Option.map_eq_some_iff.1 h
  have h1 := List.mem_of_find?_eq_some hx
  have h2 := List.find?_some hx
  have : x.1 = r := by simpa using h2
  subst this ht
  simpa using h1
theorem traits_ok (r : Int) : trOk (traits r) = true := by
  unfold traits
  cases h : tabF r with
  | none => rfl
  | some t =>
    show trOk t = true
    have h2 := List.all_eq_true.1 rows_ok (r, t) (tab_mem (l := rowsL) h)
    exact h2

theorem bit_tri {α : Type} [BEq α] [LawfulBEq α] [DecidableEq α] (a b c : α) (n : Int) (h : 0 ≤ n) : bit (a != c) n ≤ bit (a != b) n + bit (b != c) n := by
  unfold bit
  by_cases h1 : a = b
  · subst h1; simp
  · by_cases h2 : b = c
    · subst h2
      simp
    · rw [show (a != b) = true by simpa using h1, show (b != c) = true by simpa using h2]
      split <;> simp <;> omega
set_option maxHeartbeats 2000000 in
theorem apart_hi (p q : Ph) : apartF p q ≤ 40 := by
  have h1 := traits_ok p.1
  have h2 := traits_ok q.1
  simp only [trOk, Bool.and_eq_true, decide_eq_true_eq] at h1 h2
  have b : ∀ (x : Bool) (n : Int), 0 ≤ n → bit x n ≤ n := fun x n h => by unfold bit; split <;> omega
  have b1 := b ((traits p.1).rnd != (traits q.1).rnd) 1 (by omega)
  have b2 := b ((traits p.1).vcd != (traits q.1).vcd) 1 (by omega)
  have b3 := b (p.2.1 != q.2.1) 2 (by omega)
  have b4 := b (p.2.2 != q.2.2) 3 (by omega)
  unfold apartF farF
  split
  · omega
  · split <;> omega
theorem apart_tri (p q r : Ph) : apartF p r ≤ apartF p q + apartF q r := by
  have t3 := bit_tri p.2.1 q.2.1 r.2.1 2 (by omega)
  have t4 := bit_tri p.2.2 q.2.2 r.2.2 3 (by omega)
  have hi := apart_hi p r
  have n1 := apart_nn p q
  have n2 := apart_nn q r
  by_cases h1 : (traits p.1).vow = (traits q.1).vow
  · by_cases h2 : (traits q.1).vow = (traits r.1).vow
    · unfold apartF
      rw [show ((traits p.1).vow != (traits q.1).vow) = false by simpa using h1, show ((traits q.1).vow != (traits r.1).vow) = false by simpa using h2, show ((traits p.1).vow != (traits r.1).vow) = false by simpa using h1.trans h2]
      rw [h1, h2]
      simp only [Bool.false_eq_true, if_false]
      have f1 := far_tri (traits p.1).hgt (traits q.1).hgt (traits r.1).hgt
      have f2 := far_tri (traits p.1).bck (traits q.1).bck (traits r.1).bck
      have f3 := far_tri (traits p.1).plc (traits q.1).plc (traits r.1).plc
      have f4 := far_tri (traits p.1).mnr (traits q.1).mnr (traits r.1).mnr
      have t1 := bit_tri (traits p.1).rnd (traits q.1).rnd (traits r.1).rnd 1 (by omega)
      have t2 := bit_tri (traits p.1).vcd (traits q.1).vcd (traits r.1).vcd 1 (by omega)
      split <;> omega
    · have : apartF q r = 40 := by unfold apartF; rw [if_pos (by simpa using h2)]
      omega
  · have : apartF p q = 40 := by unfold apartF; rw [if_pos (by simpa using h1)]
    omega
theorem lone_tri (p q : Ph) : loneF p ≤ apartF p q + loneF q := by
  have b : ∀ (x : Bool) (n : Int), 0 ≤ n → bit x n ≤ n ∧ 0 ≤ bit x n := fun x n h => by unfold bit; split <;> omega
  have t3 : bit p.2.1 2 ≤ bit (p.2.1 != q.2.1) 2 + bit q.2.1 2 := by
    cases p.2.1 <;> cases q.2.1 <;> decide
  have t4 : bit (p.2.2 != 0) 3 ≤ bit (p.2.2 != q.2.2) 3 + bit (q.2.2 != 0) 3 := by
    have := bit_tri p.2.2 q.2.2 0 3 (by omega)
    exact this
  have c1 := b p.2.1 2 (by omega)
  have c2 := b q.2.1 2 (by omega)
  have c3 := b (p.2.2 != 0) 3 (by omega)
  have c4 := b (q.2.2 != 0) 3 (by omega)
  have n := apart_nn p q
  by_cases h1 : (traits p.1).vow = (traits q.1).vow
  · have f1 := far_nn (traits p.1).hgt (traits q.1).hgt
    have f2 := far_nn (traits p.1).bck (traits q.1).bck
    have f3 := far_nn (traits p.1).plc (traits q.1).plc
    have f4 := far_nn (traits p.1).mnr (traits q.1).mnr
    have b1 := b ((traits p.1).rnd != (traits q.1).rnd) 1 (by omega)
    have b2 := b ((traits p.1).vcd != (traits q.1).vcd) 1 (by omega)
    unfold apartF loneF
    rw [show ((traits p.1).vow != (traits q.1).vow) = false by simpa using h1, h1]
    simp only [Bool.false_eq_true, if_false]
    split <;> omega
  · have h40 : apartF p q = 40 := by unfold apartF; rw [if_pos (by simpa using h1)]
    unfold loneF
    split <;> split <;> omega

theorem cost_tri : ∀ (n : Nat) (a b c : List Ph), a.length + b.length + c.length ≤ n → costF a c ≤ costF a b + costF b c := by
  intro n
  induction n with
  | zero =>
    intro a b c h
    obtain rfl : a = [] := List.eq_nil_of_length_eq_zero (by omega)
    obtain rfl : b = [] := List.eq_nil_of_length_eq_zero (by omega)
    obtain rfl : c = [] := List.eq_nil_of_length_eq_zero (by omega)
    decide
  | succ n ih =>
    intro a b c h
    rcases cost_way a b with ⟨rfl, rfl⟩ | ⟨p, a', rfl, e⟩ | ⟨q, b', rfl, e⟩ | ⟨p, a', q, b', rfl, rfl, e⟩
    · rw [cost_nn]; omega
    · have := ih a' b c (by simp at h; omega)
      have := cost_le2 p a' c
      omega
    · rcases cost_way (q :: b') c with ⟨h0, _⟩ | ⟨q1, b1, hb, e'⟩ | ⟨r, c', rfl, e'⟩ | ⟨q1, b1, r, c', hb, rfl, e'⟩
      · cases h0
      · cases hb
        have := ih a b' c (by simp at h; omega)
        have := lone_pos q
        omega
      · have := ih a (q :: b') c' (by simp at h ⊢; omega)
        have := cost_le3 r a c'
        omega
      · cases hb
        have := ih a b' c' (by simp at h; omega)
        have := cost_le3 r a c'
        have := lone_tri r q
        rw [apart_comm] at this
        omega
    · rcases cost_way (q :: b') c with ⟨h0, _⟩ | ⟨q1, b1, hb, e'⟩ | ⟨r, c', rfl, e'⟩ | ⟨q1, b1, r, c', hb, rfl, e'⟩
      · cases h0
      · cases hb
        have := ih a' b' c (by simp at h; omega)
        have := cost_le2 p a' c
        have := lone_tri p q
        omega
      · have := ih (p :: a') (q :: b') c' (by simp at h ⊢; omega)
        have := cost_le3 r (p :: a') c'
        omega
      · cases hb
        have := ih a' b' c' (by simp at h; omega)
        have := cost_le1 p r a' c'
        have := apart_tri p q r
        omega
theorem cost_apart (a b c : List Ph) : costF a c ≤ costF a b + costF b c := cost_tri _ a b c (Nat.le_refl _)

theorem apart_self (p : Ph) : apartF p p = 0 := by
  unfold apartF farF bit
  simp
theorem cost_self (a : List Ph) : costF a a = 0 := by
  induction a with
  | nil => rfl
  | cons p a ih =>
    have h1 := cost_le1 p p a a
    rw [apart_self, ih] at h1
    have h2 := cost_nn' (p :: a) (p :: a)
    omega
/-- phones whose runes differ are apart -/
theorem rows_apart : (rowsL.all fun x => rowsL.all fun y => x.1 == y.1 || !(x.2 == y.2)) = true := by decide +kernel
theorem tr_eq {s t : Tr} (h : s.vow = t.vow) (h1 : s.hgt = t.hgt) (h2 : s.bck = t.bck) (h3 : s.rnd = t.rnd) (h4 : s.plc = t.plc) (h5 : s.mnr = t.mnr) (h6 : s.vcd = t.vcd) : s = t := by
  obtain ⟨a, b, c, d, e, f, g⟩ := s
  obtain ⟨a', b', c', d', e', f', g'⟩ := t
  simp [Tr.vow, Tr.hgt, Tr.bck, Tr.rnd, Tr.plc, Tr.mnr, Tr.vcd] at *
  simp [*]
theorem bit_zero {α : Type} [BEq α] [LawfulBEq α] [DecidableEq α] {a b : α} {n : Int} (hn : 0 < n) (h : bit (a != b) n = 0) : a = b := by
  by_cases e : a = b
  · exact e
  · rw [show (a != b) = true by simpa using e] at h
    unfold bit at h
    simp at h
    omega
theorem apart_zero {p q : Ph} (hp : (tabF p.1).isSome = true) (hq : (tabF q.1).isSome = true) (h : apartF p q = 0) : p = q := by
  have h1 := traits_ok p.1
  have h2 := traits_ok q.1
  have f1 := far_nn (traits p.1).hgt (traits q.1).hgt
  have f2 := far_nn (traits p.1).bck (traits q.1).bck
  have f3 := far_nn (traits p.1).plc (traits q.1).plc
  have f4 := far_nn (traits p.1).mnr (traits q.1).mnr
  have b1 := bit_nn ((traits p.1).rnd != (traits q.1).rnd) 1 (by omega)
  have b2 := bit_nn ((traits p.1).vcd != (traits q.1).vcd) 1 (by omega)
  have b3 := bit_nn (p.2.1 != q.2.1) 2 (by omega)
  have b4 := bit_nn (p.2.2 != q.2.2) 3 (by omega)
  have hv : (traits p.1).vow = (traits q.1).vow := by
    by_cases e : (traits p.1).vow = (traits q.1).vow
    · exact e
    · unfold apartF at h; rw [if_pos (by simpa using e)] at h; omega
  unfold apartF at h
  rw [show ((traits p.1).vow != (traits q.1).vow) = false by simpa using hv] at h
  simp only [Bool.false_eq_true, if_false] at h
  have f0 : ∀ a b : Int, farF a b = 0 → a = b := fun a b h => by unfold farF at h; omega
  have key : traits p.1 = traits q.1 ∧ p.2.1 = q.2.1 ∧ p.2.2 = q.2.2 := by
    simp only [trOk, Bool.and_eq_true, decide_eq_true_eq] at h1 h2
    by_cases hw : (traits p.1).vow = true
    · rw [if_pos hw] at h
      have hw2 : (traits q.1).vow = true := hv ▸ hw
      rw [if_pos hw] at h1
      rw [if_pos hw2] at h2
      simp only [Bool.and_eq_true, decide_eq_true_eq, Bool.not_eq_true'] at h1 h2
      exact ⟨tr_eq hv (f0 _ _ (by omega)) (f0 _ _ (by omega)) (bit_zero (n := 1) (by omega) (by omega)) (by rw [h1.2.1.1, h2.2.1.1]) (by rw [h1.2.1.2, h2.2.1.2]) (by rw [h1.2.2, h2.2.2]), bit_zero (n := 2) (by omega) (by omega), bit_zero (n := 3) (by omega) (by omega)⟩
    · rw [if_neg hw] at h
      have hw2 : ¬ (traits q.1).vow = true := hv ▸ hw
      rw [if_neg hw] at h1
      rw [if_neg hw2] at h2
      simp only [Bool.and_eq_true, decide_eq_true_eq, Bool.not_eq_true'] at h1 h2
      exact ⟨tr_eq hv (by rw [h1.2.1.1, h2.2.1.1]) (by rw [h1.2.1.2, h2.2.1.2]) (by rw [h1.2.2, h2.2.2]) (f0 _ _ (by omega)) (f0 _ _ (by omega)) (bit_zero (n := 1) (by omega) (by omega)), bit_zero (n := 2) (by omega) (by omega), bit_zero (n := 3) (by omega) (by omega)⟩
  obtain ⟨t, ht⟩ := Option.isSome_iff_exists.1 hp
  obtain ⟨u, hu⟩ := Option.isSome_iff_exists.1 hq
  have e1 : traits p.1 = t := by unfold traits; rw [ht]; rfl
  have e2 : traits q.1 = u := by unfold traits; rw [hu]; rfl
  have hr := (List.all_eq_true.1 ((List.all_eq_true.1 rows_apart) _ (tab_mem ht))) _ (tab_mem hu)
  have htu : t = u := by rw [← e1, ← e2]; exact key.1
  subst htu
  have hrr : p.1 = q.1 := by simpa using hr
  obtain ⟨a, b, c⟩ := p
  obtain ⟨a', b', c'⟩ := q
  simp only at hrr key
  rw [hrr, key.2.1, key.2.2]
theorem cost_zero : ∀ a b : List Ph, (∀ p ∈ a, (tabF p.1).isSome = true) → (∀ p ∈ b, (tabF p.1).isSome = true) → costF a b = 0 → a = b := by
  intro a
  induction a with
  | nil =>
    intro b _ _ h
    cases b with
    | nil => rfl
    | cons q b => have := lone_pos q; have := cost_nn' [] b; rw [cost_nc] at h; omega
  | cons p a ih =>
    intro b ha hb h
    cases b with
    | nil => have := lone_pos p; have := cost_nn' a []; rw [cost_cn] at h; omega
    | cons q b =>
      have l1 := lone_pos p
      have l2 := lone_pos q
      have c1 := cost_nn' a (q :: b)
      have c2 := cost_nn' (p :: a) b
      have c3 := cost_nn' a b
      have c4 := apart_nn p q
      rw [cost_cc] at h
      have e1 : apartF p q = 0 := by omega
      have e2 : costF a b = 0 := by omega
      rw [apart_zero (ha p (by simp)) (hb q (by simp)) e1, ih b (fun x hx => ha x (by simp [hx])) (fun x hx => hb x (by simp [hx])) e2]
theorem cost_cat : ∀ a b c d : List Ph, costF (a ++ c) (b ++ d) ≤ costF a b + costF c d := by
  intro a
  induction a with
  | nil =>
    intro b c d
    induction b with
    | nil => simp [cost_nn]
    | cons q b ih =>
      have := cost_le3 q ([] ++ c) (b ++ d)
      rw [List.cons_append, cost_nc]
      omega
  | cons p a iha =>
    intro b c d
    induction b with
    | nil =>
      have := iha [] c d
      have := cost_le2 p (a ++ c) ([] ++ d)
      rw [List.cons_append, cost_cn]
      omega
    | cons q b ih =>
      have h1 := iha b c d
      have h2 := iha (q :: b) c d
      have l1 := cost_le1 p q (a ++ c) (b ++ d)
      have l2 := cost_le2 p (a ++ c) (q :: b ++ d)
      have l3 := cost_le3 q (p :: a ++ c) (b ++ d)
      rw [cost_cc]
      simp only [List.cons_append] at *
      omega
theorem cost_alone (a : List Ph) : costF a [] = (a.map loneF).sum := by
  induction a with
  | nil => rfl
  | cons p a ih => rw [cost_cn, ih]; simp
theorem apart_self_le (p : Ph) : 0 ≤ loneF p := by have := lone_pos p; omega
theorem cost_hi : ∀ a b : List Ph, costF a b ≤ 20 * (a.length + b.length : Nat) := by
  have lh : ∀ p : Ph, loneF p ≤ 19 := fun p => by
    have b : ∀ (x : Bool) (n : Int), 0 ≤ n → bit x n ≤ n := fun x n h => by unfold bit; split <;> omega
    have b3 := b p.2.1 2 (by omega)
    have b4 := b (p.2.2 != 0) 3 (by omega)
    unfold loneF; split <;> omega
  intro a
  induction a with
  | nil =>
    intro b
    induction b with
    | nil => decide
    | cons q b ih => have := lh q; rw [cost_nc]; simp at ih ⊢; omega
  | cons p a iha =>
    intro b
    have := lh p
    have h1 := cost_le2 p a b
    have h2 := iha b
    simp at h2 ⊢
    omega
end Go.Proofs.Ytogofchpocoebaa

namespace Go.Proofs.Ytogofchpocoebaa

def bts (l : List UInt8) : ByteArray := ⟨l.toArray⟩
theorem bts_size (l : List UInt8) : (bts l).size = l.length := by simp [bts, ByteArray.size]
theorem bts_get (l : List UInt8) (i : Nat) : (bts l).get! i = l.getD i default := by
  unfold bts ByteArray.get!
  simp [List.getD_eq_getElem?_getD]
theorem bts_list (s : ByteArray) : bts s.data.toList = s := rfl
theorem bts_drop (l : List UInt8) (n : Nat) : (bts l).extract n (bts l).size = bts (l.drop n) := by
  apply ByteArray.ext
  rw [ByteArray.data_extract]
  apply Array.ext'
  simp [bts, ByteArray.size]
  rw [List.take_of_length_le (by simp)]
theorem bts_inj {a b : List UInt8} (h : bts a = bts b) : a = b := by
  unfold bts at h
  injection h with h
  exact List.toArray_inj h
theorem bts_append (a b : List UInt8) : bts a ++ bts b = bts (a ++ b) := by
  apply ByteArray.ext
  simp [bts]

/-- the bytes of a rune's form -/
def encL (r : Int) : List UInt8 := (Utf8.encode r).data.toList
theorem encL_one {r : Int} (h0 : 0 ≤ r) (h : r < 128) : encL r = [UInt8.ofNat r.toNat] := by
  unfold encL Utf8.encode Utf8.valid
  have hv : (decide (0 ≤ r) && decide (r < 55296) || decide (57344 ≤ r) && decide (r ≤ 1114111)) = true := by simp; omega
  simp only [hv, if_true]
  rw [if_pos (by omega)]
theorem encL_two {r : Int} (h0 : 128 ≤ r) (h : r < 2048) : encL r = [UInt8.ofNat (192 + r.toNat / 64), UInt8.ofNat (128 + r.toNat % 64)] := by
  unfold encL Utf8.encode Utf8.valid
  have hv : (decide (0 ≤ r) && decide (r < 55296) || decide (57344 ≤ r) && decide (r ≤ 1114111)) = true := by simp; omega
  simp only [hv, if_true]
  rw [if_neg (by omega), if_pos (by omega)]

def longL : List UInt8 := [203, 144]
def glideL : List UInt8 := [204, 175]
/-- the bytes of a phone -/
def textP (p : Ph) : List UInt8 := encL p.1 ++ (if p.2.1 then longL else []) ++ (if p.2.2 = 0 then [] else encL p.2.2 ++ glideL)

/-- the rune with which bytes begin; 0: there are none -/
def headR (l : List UInt8) : Int := if l = [] then 0 else ((Utf8.decode (bts l) 0).1 : Int)
/-- the longest phone with which bytes begin, and how many it has -/
def nextL (l : List UInt8) : Ph × Nat :=
  match tabF (headR l) with
  | none => ((0, false, 0), 0)
  | some t =>
    let r := headR l
    let w1 := (encL r).length
    let lg := longL.isPrefixOf (l.drop w1)
    let w2 := if lg then w1 + 2 else w1
    if !t.vow then ((r, lg, 0), w2)
    else if (105 :: glideL).isPrefixOf (l.drop w2) then ((r, lg, 105), w2 + 3)
    else if (117 :: glideL).isPrefixOf (l.drop w2) then ((r, lg, 117), w2 + 3)
    else ((r, lg, 0), w2)

theorem dec_small (l : List UInt8) (h : l ≠ []) (hs : (Utf8.decode (bts l) 0).1 < 2048) : encL ((Utf8.decode (bts l) 0).1 : Int) <+: l ∧ (Utf8.decode (bts l) 0).2 = (encL ((Utf8.decode (bts l) 0).1 : Int)).length := by
  obtain ⟨a, t, rfl⟩ := List.exists_cons_of_ne_nil h
  have g0 : (bts (a :: t)).get! (0 + 0) = a := by rw [bts_get]; rfl
  have g1 : (bts (a :: t)).get! (0 + 1) = t.getD 0 default := by rw [bts_get]; rfl
  unfold Utf8.decode at hs ⊢
  simp only [g0, g1] at hs ⊢
  have ha := a.toNat_lt
  by_cases h1 : a.toNat < 128
  · rw [if_pos h1] at hs ⊢
    rw [encL_one (by omega) (by simp; omega)]
    simp
  · rw [if_neg h1] at hs ⊢
    by_cases h2 : (a.toNat / 32 == 6 && (decide (0 + 1 < (bts (a :: t)).size) && (t.getD 0 default).toNat / 64 == 2)) = true
    · rw [if_pos h2] at hs ⊢
      simp only [Bool.and_eq_true, beq_iff_eq, decide_eq_true_eq, bts_size] at h2
      cases t with
      | nil => simp at h2
      | cons b t =>
        simp only [List.getD_cons_zero] at h2 hs ⊢
        have hb := b.toNat_lt
        by_cases h3 : a.toNat % 32 * 64 + b.toNat % 64 ≥ 128
        · rw [if_pos h3] at hs ⊢
          rw [encL_two (by omega) (by omega)]
          refine ⟨?_, rfl⟩
          have e1 : UInt8.ofNat (192 + ((a.toNat % 32 * 64 + b.toNat % 64 : Nat) : Int).toNat / 64) = a := by
            apply UInt8.toNat_inj.1
            rw [UInt8.toNat_ofNat']
            omega
          have e2 : UInt8.ofNat (128 + ((a.toNat % 32 * 64 + b.toNat % 64 : Nat) : Int).toNat % 64) = b := by
            apply UInt8.toNat_inj.1
            rw [UInt8.toNat_ofNat']
            omega
          rw [e1, e2]
          exact ⟨t, rfl⟩
        · rw [if_neg h3] at hs
          simp [Utf8.runeError] at hs
    · rw [if_neg h2] at hs
      exfalso
      revert hs
      simp only [Utf8.runeError]
      split
      · split
        · rename_i h4 h5
          simp only [Bool.and_eq_true, decide_eq_true_eq] at h5
          omega
        · simp
      · split
        · split
          · rename_i h4 h5
            simp only [Bool.and_eq_true, decide_eq_true_eq] at h5
            omega
          · simp
        · simp
theorem pre_dec (l : List UInt8) (r : Int) (h0 : 0 ≤ r) (h : r < 2048) (hp : encL r <+: l) : Utf8.decode (bts l) 0 = (r.toNat, (encL r).length) ∧ l ≠ [] := by
  obtain ⟨t, rfl⟩ := hp
  by_cases h1 : r < 128
  · rw [encL_one h0 h1]
    have g0 : (bts ([UInt8.ofNat r.toNat] ++ t)).get! (0 + 0) = UInt8.ofNat r.toNat := by rw [bts_get]; rfl
    have e : (UInt8.ofNat r.toNat).toNat = r.toNat := by rw [UInt8.toNat_ofNat']; omega
    unfold Utf8.decode
    simp only [g0, e]
    rw [if_pos (by omega)]
    exact ⟨rfl, by simp⟩
  · rw [encL_two (by omega) h]
    have g0 : (bts ([UInt8.ofNat (192 + r.toNat / 64), UInt8.ofNat (128 + r.toNat % 64)] ++ t)).get! (0 + 0) = UInt8.ofNat (192 + r.toNat / 64) := by rw [bts_get]; rfl
    have g1 : (bts ([UInt8.ofNat (192 + r.toNat / 64), UInt8.ofNat (128 + r.toNat % 64)] ++ t)).get! (0 + 1) = UInt8.ofNat (128 + r.toNat % 64) := by rw [bts_get]; rfl
    have e0 : (UInt8.ofNat (192 + r.toNat / 64)).toNat = 192 + r.toNat / 64 := by rw [UInt8.toNat_ofNat']; omega
    have e1 : (UInt8.ofNat (128 + r.toNat % 64)).toNat = 128 + r.toNat % 64 := by rw [UInt8.toNat_ofNat']; omega
    unfold Utf8.decode
    simp only [g0, g1, e0, e1]
    rw [if_neg (by omega), if_pos (by simp [bts_size]; omega), if_pos (by omega)]
    refine ⟨?_, by simp⟩
    simp
    omega

theorem rows_small : (rowsL.all fun x => decide (0 ≤ x.1) && decide (x.1 < 2048)) = true := by decide +kernel
theorem tab_small {r : Int} (h : (tabF r).isSome = true) : 0 ≤ r ∧ r < 2048 := by
  obtain ⟨t, ht⟩ := Option.isSome_iff_exists.1 h
  have hm : (r, t) ∈ rowsL := by
    unfold tabF tabOf at ht
    obtain ⟨x, hx, hxt⟩ := Option.map_eq_some_iff.1 ht
    have h1 := List.mem_of_find?_eq_some hx
    have h2 := List.find?_some hx
    have : x.1 = r := by simpa using h2
    subst this hxt
    simpa using h1
  have := (List.all_eq_true.1 rows_small) _ hm
  simpa using this
theorem mem_tab {x : Int × Tr} (h : x ∈ rowsL) : (tabF x.1).isSome = true := by
  unfold tabF tabOf
  rw [Option.isSome_map, List.find?_isSome]
  exact ⟨x, by simpa using h, by simp⟩
/-- where a table's rune stands, its form stands -/
theorem head_pre {l : List UInt8} (h : (tabF (headR l)).isSome = true) : l ≠ [] ∧ encL (headR l) <+: l ∧ ((Utf8.decode (bts l) 0).1 : Int) = headR l ∧ (Utf8.decode (bts l) 0).2 = (encL (headR l)).length := by
  by_cases hl : l = []
  · subst hl
    have : (tabF 0).isSome = false := by decide +kernel
    unfold headR at h
    rw [if_pos rfl, this] at h
    cases h
  · have hr : headR l = ((Utf8.decode (bts l) 0).1 : Int) := if_neg hl
    have hs := tab_small h
    rw [hr] at hs ⊢
    have := dec_small l hl (by omega)
    exact ⟨hl, this.1, rfl, this.2⟩
theorem pre_head {l : List UInt8} {r : Int} (h : (tabF r).isSome = true) (hp : encL r <+: l) : headR l = r := by
  obtain ⟨h1, h2⟩ := tab_small h
  obtain ⟨h3, h4⟩ := pre_dec l r h1 h2 hp
  unfold headR
  rw [if_neg h4, h3]
  simp
  omega
end Go.Proofs.Ytogofchpocoebaa

namespace Go.Proofs.Ytogofchpocoebaa

/-- one phone tried: kept where its bytes stand, and are more -/
def tryP (l : List UInt8) (st : Ph × Nat) (p : Ph) : Ph × Nat := if isF p && (textP p).isPrefixOf l && decide (st.2 < (textP p).length) then (p, (textP p).length) else st
def sixP (r : Int) : List Ph := [(r, false, 0), (r, false, 105), (r, false, 117), (r, true, 0), (r, true, 105), (r, true, 117)]
def bestL (l : List UInt8) : Ph × Nat := (rowsL.foldl (fun st x => (sixP x.1).foldl (tryP l) st) ((0, false, 0), 0))

theorem textP_enc (p : Ph) : encL p.1 <+: textP p := ⟨_, by unfold textP; rw [List.append_assoc]⟩
theorem try_no {l : List UInt8} {p : Ph} (h : ¬ encL p.1 <+: l) (st : Ph × Nat) : tryP l st p = st := by
  unfold tryP
  have : (textP p).isPrefixOf l = false := by
    rw [Bool.eq_false_iff]
    intro hp
    exact h ((textP_enc p).trans (List.isPrefixOf_iff_prefix.1 hp))
  rw [this]
  simp
theorem six_no {l : List UInt8} {r : Int} (h : ¬ encL r <+: l) (st : Ph × Nat) : (sixP r).foldl (tryP l) st = st := by
  simp only [sixP, List.foldl_cons, List.foldl_nil]
  rw [try_no (p := (r, false, 0)) h, try_no (p := (r, false, 105)) h, try_no (p := (r, false, 117)) h, try_no (p := (r, true, 0)) h, try_no (p := (r, true, 105)) h, try_no (p := (r, true, 117)) h]
theorem rows_no {l : List UInt8} : ∀ (ys : List (Int × Tr)) (st : Ph × Nat), (∀ y ∈ ys, ¬ encL y.1 <+: l) → ys.foldl (fun st x => (sixP x.1).foldl (tryP l) st) st = st := by
  intro ys
  induction ys with
  | nil => intro st _; rfl
  | cons y ys ih =>
    intro st h
    rw [List.foldl_cons, six_no (h y (by simp))]
    exact ih st fun z hz => h z (by simp [hz])
theorem rows_keys : (rowsL.map (·.1)).Nodup := by decide +kernel
theorem rows_split {r : Int} {t : Tr} (h : tabF r = some t) : ∃ as bs, rowsL = as ++ (r, t) :: bs ∧ (∀ y ∈ as, y.1 ≠ r) ∧ ∀ y ∈ bs, y.1 ≠ r := by
  have hm : (r, t) ∈ rowsL := by
    unfold tabF tabOf at h
    obtain ⟨x, hx, ht⟩ := Option.map_eq_some_iff.1 h
    have h1 := List.mem_of_find?_eq_some hx
    have h2 := List.find?_some hx
    have : x.1 = r := by simpa using h2
    subst this ht
    simpa using h1
  obtain ⟨as, bs, e⟩ := List.append_of_mem hm
  have hn := rows_keys
  rw [e, List.map_append, List.map_cons, List.nodup_append] at hn
  refine ⟨as, bs, e, fun y hy hr => ?_, fun y hy hr => ?_⟩
  · exact hn.2.2 y.1 (List.mem_map_of_mem (f := (·.1)) hy) r (by simp) hr
  · exact (List.nodup_cons.1 hn.2.1).1 (by have h5 : y.1 ∈ bs.map (·.1) := List.mem_map_of_mem hy; rwa [hr] at h5)
theorem pre_pre (a x y : List UInt8) : (a ++ x).isPrefixOf (a ++ y) = x.isPrefixOf y := by
  induction a with
  | nil => rfl
  | cons b a ih => simp [ih]
theorem enc_i : encL 105 = [105] := by decide +kernel
theorem enc_u : encL 117 = [117] := by decide +kernel
theorem vow_isF {r : Int} {t : Tr} (h : tabF r = some t) (lg : Bool) : isF (r, lg, 0) = true ∧ isF (r, lg, 105) = t.vow ∧ isF (r, lg, 117) = t.vow := by
  unfold isF traits
  simp only [h]
  simp
set_option maxHeartbeats 2000000 in
theorem best_next (l : List UInt8) : bestL l = nextL l := by
  unfold nextL
  cases ht : tabF (headR l) with
  | none =>
    dsimp only
    refine rows_no rowsL _ fun y hy hp => ?_
    have hm := mem_tab hy
    rw [← pre_head hm hp, ht] at hm
    cases hm
  | some t =>
    have hsome : (tabF (headR l)).isSome = true := by rw [ht]; rfl
    obtain ⟨h1, h2, h3, h4⟩ := head_pre hsome
    generalize headR l = r at *
    obtain ⟨as, bs, e, ha, hb⟩ := rows_split ht
    have hno : ∀ y, (y ∈ as ∨ y ∈ bs) → ¬ encL y.1 <+: l := by
      intro y hy hp
      have hm : (tabF y.1).isSome = true := mem_tab (by rw [e]; simp; rcases hy with hy | hy; exact .inl hy; exact .inr (.inr hy))
      have e1 := pre_dec l y.1 (tab_small hm).1 (tab_small hm).2 hp
      rw [e1.1] at h3
      have := (tab_small hm).1
      have hr : y.1 = r := by simp at h3; omega
      rcases hy with hy | hy
      · exact ha y hy hr
      · exact hb y hy hr
    unfold bestL
    rw [e, List.foldl_append, rows_no as _ (fun y hy => hno y (.inl hy)), List.foldl_cons, rows_no bs _ (fun y hy => hno y (.inr hy))]
    obtain ⟨l1, rfl⟩ := h2
    obtain ⟨i0, i1, i2⟩ := vow_isF ht false
    obtain ⟨j0, j1, j2⟩ := vow_isF ht true
    dsimp only
    rw [List.drop_left]
    have hpos : 0 < (encL r).length := by
      by_cases h : r < 128
      · rw [encL_one (tab_small hsome).1 h]; simp
      · rw [encL_two (by omega) (tab_small hsome).2]; simp
    have x0 : textP (r, false, 0) = encL r ++ [] := by simp [textP]
    have x1 : textP (r, false, 105) = encL r ++ (105 :: glideL) := by simp [textP, enc_i]
    have x2 : textP (r, false, 117) = encL r ++ (117 :: glideL) := by simp [textP, enc_u]
    have y0 : textP (r, true, 0) = encL r ++ longL := by simp [textP]
    have y1 : textP (r, true, 105) = encL r ++ (longL ++ 105 :: glideL) := by simp [textP, enc_i]
    have y2 : textP (r, true, 117) = encL r ++ (longL ++ 117 :: glideL) := by simp [textP, enc_u]
    have e1 : List.drop ((encL r).length + 2) (encL r ++ l1) = l1.drop 2 := by rw [List.drop_append]; simp
    simp only [sixP, List.foldl_cons, List.foldl_nil]
    unfold tryP
    rw [i0, i1, i2, j0, j1, j2, x0, x1, x2, y0, y1, y2, pre_pre _ [], pre_pre _ (105 :: glideL), pre_pre _ (117 :: glideL), pre_pre _ longL, pre_pre _ (longL ++ 105 :: glideL), pre_pre _ (longL ++ 117 :: glideL)]
    have hl : ∀ a : List UInt8, (encL r ++ a).length = (encL r).length + a.length := fun a => List.length_append
    simp only [hl]
    have z1 : (longL ++ 105 :: glideL).length = 5 := rfl
    have z2 : (longL ++ 117 :: glideL).length = 5 := rfl
    have z3 : (105 :: glideL).length = 3 := rfl
    have z4 : (117 :: glideL).length = 3 := rfl
    have z5 : longL.length = 2 := rfl
    have z6 : ([] : List UInt8).length = 0 := rfl
    have z7 : ([] : List UInt8).isPrefixOf l1 = true := by cases l1 <;> rfl
    simp only [z1, z2, z3, z4, z5, z6, z7]
    have d0 : List.drop (encL r).length (encL r ++ l1) = l1 := List.drop_left
    clear hl x0 x1 x2 y0 y1 y2 i0 i1 i2 j0 j1 j2 z1 z2 z3 z4 z5 z6 z7
    generalize (encL r).length = n at *
    cases hg : longL.isPrefixOf l1 with
    | true =>
      obtain ⟨l2, rfl⟩ := List.isPrefixOf_iff_prefix.1 hg
      have k1 : (105 :: glideL).isPrefixOf (longL ++ l2) = false := rfl
      have k2 : (117 :: glideL).isPrefixOf (longL ++ l2) = false := rfl
      have k3 : List.drop 2 (longL ++ l2) = l2 := rfl
      rw [k1, k2, pre_pre longL (105 :: glideL) l2, pre_pre longL (117 :: glideL) l2]
      rw [k3] at e1
      simp only [if_true, e1]
      generalize (105 :: glideL).isPrefixOf l2 = c1
      generalize (117 :: glideL).isPrefixOf l2 = c2
      cases t.vow <;> cases c1 <;> cases c2 <;> simp [hpos]
    | false =>
      have k4 : ∀ x : List UInt8, (longL ++ x).isPrefixOf l1 = false := fun x => by
        rw [Bool.eq_false_iff]
        intro hx
        have h := (List.prefix_append longL x).trans (List.isPrefixOf_iff_prefix.1 hx)
        rw [List.isPrefixOf_iff_prefix.2 h] at hg
        cases hg
      rw [k4, k4]
      simp only [Bool.false_eq_true, if_false, d0]
      generalize (105 :: glideL).isPrefixOf l1 = c1
      generalize (117 :: glideL).isPrefixOf l1 = c2
      cases t.vow <;> cases c1 <;> cases c2 <;> simp [hpos]
end Go.Proofs.Ytogofchpocoebaa
