/- Phones: how far rows are apart: a metric (no program in sight). -/
import Derived.Test.YtogofchpocoebaaP1
namespace Go.Proofs.Ytogofchpocoebaa

theorem cost_nn : costF [] [] = 0 := rfl
theorem cost_nc (q : Ph) (b : List Ph) : costF [] (q :: b) = loneF q + costF [] b := rfl
theorem cost_cn (p : Ph) (a : List Ph) : costF (p :: a) [] = loneF p + costF a [] := rfl
theorem cost_cc (p q : Ph) (a b : List Ph) : costF (p :: a) (q :: b) = min (apartF p q + costF a b) (min (loneF p + costF a (q :: b)) (loneF q + costF (p :: a) b)) := rfl

theorem far_comm (a b : Int) : farF a b = farF b a := by unfold farF; omega
theorem far_nn (a b : Int) : 0 ≤ farF a b := by unfold farF; omega
theorem far_tri (a b c : Int) : farF a c ≤ farF a b + farF b c := by unfold farF; omega
theorem bit_nn (b : Bool) (n : Int) (h : 0 ≤ n) : 0 ≤ bit b n := by unfold bit; split <;> omega
theorem bne_comm' {α : Type} [BEq α] [LawfulBEq α] (a b : α) : (a != b) = (b != a) := by
  by_cases h : a = b
  · subst h; rfl
  · rw [show (a != b) = true by simpa using h, show (b != a) = true by simpa using fun e => h e.symm]
theorem apart_comm (p q : Ph) : apartF p q = apartF q p := by
  unfold apartF
  rw [bne_comm' (traits q.1).vow, bne_comm' (traits q.1).rnd, bne_comm' (traits q.1).vcd, bne_comm' q.2.1, bne_comm' q.2.2, far_comm (traits q.1).hgt, far_comm (traits q.1).bck, far_comm (traits q.1).plc, far_comm (traits q.1).mnr]
  by_cases h : ((traits p.1).vow != (traits q.1).vow) = true
  · rw [if_pos h, if_pos h]
  · rw [if_neg h, if_neg h]
    have : (traits p.1).vow = (traits q.1).vow := by simpa using h
    rw [this]
theorem apart_nn (p q : Ph) : 0 ≤ apartF p q := by
  have f1 := far_nn (traits p.1).hgt (traits q.1).hgt
  have f2 := far_nn (traits p.1).bck (traits q.1).bck
  have f3 := far_nn (traits p.1).plc (traits q.1).plc
  have f4 := far_nn (traits p.1).mnr (traits q.1).mnr
  have b1 := bit_nn ((traits p.1).rnd != (traits q.1).rnd) 1 (by omega)
  have b2 := bit_nn ((traits p.1).vcd != (traits q.1).vcd) 1 (by omega)
  have b3 := bit_nn (p.2.1 != q.2.1) 2 (by omega)
  have b4 := bit_nn (p.2.2 != q.2.2) 3 (by omega)
  unfold apartF
  split
  · omega
  · split <;> omega
theorem lone_pos (p : Ph) : 10 ≤ loneF p := by
  have b3 := bit_nn p.2.1 2 (by omega)
  have b4 := bit_nn (p.2.2 != 0) 3 (by omega)
  unfold loneF
  split <;> omega
theorem cost_le2 (p : Ph) (a b : List Ph) : costF (p :: a) b ≤ loneF p + costF a b := by
  cases b with
  | nil => rw [cost_cn]; exact Int.le_refl _
  | cons q b => rw [cost_cc]; omega
theorem cost_le3 (q : Ph) (a b : List Ph) : costF a (q :: b) ≤ loneF q + costF a b := by
  cases a with
  | nil => rw [cost_nc]; exact Int.le_refl _
  | cons p a => rw [cost_cc]; omega
theorem cost_le1 (p q : Ph) (a b : List Ph) : costF (p :: a) (q :: b) ≤ apartF p q + costF a b := by rw [cost_cc]; omega
theorem cost_nn' : ∀ a b, 0 ≤ costF a b := by
  intro a
  induction a with
  | nil =>
    intro b
    induction b with
    | nil => rw [cost_nn]; omega
    | cons q b ih => have := lone_pos q; rw [cost_nc]; omega
  | cons p a iha =>
    intro b
    induction b with
    | nil => have := lone_pos p; have := iha []; rw [cost_cn]; omega
    | cons q b ih =>
      have h1 := lone_pos p
      have h2 := lone_pos q
      have h3 := apart_nn p q
      have h4 := iha b
      have h5 := iha (q :: b)
      rw [cost_cc]; omega
theorem cost_comm : ∀ a b, costF a b = costF b a := by
  intro a
  induction a with
  | nil =>
    intro b
    induction b with
    | nil => rfl
    | cons q b ih => rw [cost_nc, cost_cn, ih]
  | cons p a iha =>
    intro b
    induction b with
    | nil => rw [cost_nc, cost_cn, iha]
    | cons q b ih => rw [cost_cc, cost_cc, iha, iha, ih, apart_comm p q]; omega

/-- two rows part by one first step -/
theorem cost_way (a b : List Ph) : (a = [] ∧ b = []) ∨ (∃ p a', a = p :: a' ∧ costF a b = loneF p + costF a' b) ∨ (∃ q b', b = q :: b' ∧ costF a b = loneF q + costF a b') ∨
    (∃ p a' q b', a = p :: a' ∧ b = q :: b' ∧ costF a b = apartF p q + costF a' b') := by
  cases a with
  | nil =>
    cases b with
    | nil => exact .inl ⟨rfl, rfl⟩
    | cons q b => exact .inr (.inr (.inl ⟨q, b, rfl, cost_nc q b⟩))
  | cons p a =>
    cases b with
    | nil => exact .inr (.inl ⟨p, a, rfl, cost_cn p a⟩)
    | cons q b =>
      have h := cost_cc p q a b
      by_cases h1 : costF (p :: a) (q :: b) = apartF p q + costF a b
      · exact .inr (.inr (.inr ⟨p, a, q, b, rfl, rfl, h1⟩))
      · by_cases h2 : costF (p :: a) (q :: b) = loneF p + costF a (q :: b)
        · exact .inr (.inl ⟨p, a, rfl, h2⟩)
        · exact .inr (.inr (.inl ⟨q, b, rfl, by omega⟩))

/-- what the traits of the table say lies in these bounds -/
def trOk (t : Tr) : Bool := decide (0 ≤ t.hgt) && decide (t.hgt ≤ 6) && decide (0 ≤ t.bck) && decide (t.bck ≤ 2) && decide (0 ≤ t.plc) && decide (t.plc ≤ 6) && decide (0 ≤ t.mnr) && decide (t.mnr ≤ 5) &&
  (if t.vow then decide (t.plc = 0) && decide (t.mnr = 0) && !t.vcd else decide (t.hgt = 0) && decide (t.bck = 0) && !t.rnd)
theorem rows_ok : (rowsL.all fun x => trOk x.2) = true := by decide +kernel
theorem tab_mem {l : List (Int × Tr)} {r : Int} {t : Tr} (h : tabOf l r = some t) : (r, t) ∈ l := by
  unfold tabOf at h
  obtain ⟨x, hx, ht⟩ := Option.map_eq_some_iff.1 h
  have h1 := List.mem_of_find?_eq_some hx
  have h2 := List.find?_some hx
  have : x.1 = r := by simpa using h2
  subst this ht
  simpa using h1
theorem traits_ok (r : Int) : trOk (traits r) = true := by
  unfold traits
  cases h : tabF r with
  | none => rfl
  | some t =>
    show trOk t = true
    have h2 := List.all_eq_true.1 rows_ok (r, t) (tab_mem (l := rowsL) h)
    exact h2

theorem bit_tri {α : Type} [BEq α] [LawfulBEq α] [DecidableEq α] (a b c : α) (n : Int) (h : 0 ≤ n) : bit (a != c) n ≤ bit (a != b) n + bit (b != c) n := by
  unfold bit
  by_cases h1 : a = b
  · subst h1; simp
  · by_cases h2 : b = c
    · subst h2
      simp
    · rw [show (a != b) = true by simpa using h1, show (b != c) = true by simpa using h2]
      split <;> simp <;> omega
set_option maxHeartbeats 2000000 in
theorem apart_hi (p q : Ph) : apartF p q ≤ 40 := by
  have h1 := traits_ok p.1
  have h2 := traits_ok q.1
  simp only [trOk, Bool.and_eq_true, decide_eq_true_eq] at h1 h2
  have b : ∀ (x : Bool) (n : Int), 0 ≤ n → bit x n ≤ n := fun x n h => by unfold bit; split <;> omega
  have b1 := b ((traits p.1).rnd != (traits q.1).rnd) 1 (by omega)
  have b2 := b ((traits p.1).vcd != (traits q.1).vcd) 1 (by omega)
  have b3 := b (p.2.1 != q.2.1) 2 (by omega)
  have b4 := b (p.2.2 != q.2.2) 3 (by omega)
  unfold apartF farF
  split
  · omega
  · split <;> omega
theorem apart_tri (p q r : Ph) : apartF p r ≤ apartF p q + apartF q r := by
  have t3 := bit_tri p.2.1 q.2.1 r.2.1 2 (by omega)
  have t4 := bit_tri p.2.2 q.2.2 r.2.2 3 (by omega)
  have hi := apart_hi p r
  have n1 := apart_nn p q
  have n2 := apart_nn q r
  by_cases h1 : (traits p.1).vow = (traits q.1).vow
  · by_cases h2 : (traits q.1).vow = (traits r.1).vow
    · unfold apartF
      rw [show ((traits p.1).vow != (traits q.1).vow) = false by simpa using h1, show ((traits q.1).vow != (traits r.1).vow) = false by simpa using h2, show ((traits p.1).vow != (traits r.1).vow) = false by simpa using h1.trans h2]
      rw [h1, h2]
      simp only [Bool.false_eq_true, if_false]
      have f1 := far_tri (traits p.1).hgt (traits q.1).hgt (traits r.1).hgt
      have f2 := far_tri (traits p.1).bck (traits q.1).bck (traits r.1).bck
      have f3 := far_tri (traits p.1).plc (traits q.1).plc (traits r.1).plc
      have f4 := far_tri (traits p.1).mnr (traits q.1).mnr (traits r.1).mnr
      have t1 := bit_tri (traits p.1).rnd (traits q.1).rnd (traits r.1).rnd 1 (by omega)
      have t2 := bit_tri (traits p.1).vcd (traits q.1).vcd (traits r.1).vcd 1 (by omega)
      split <;> omega
    · have : apartF q r = 40 := by unfold apartF; rw [if_pos (by simpa using h2)]
      omega
  · have : apartF p q = 40 := by unfold apartF; rw [if_pos (by simpa using h1)]
    omega
theorem lone_tri (p q : Ph) : loneF p ≤ apartF p q + loneF q := by
  have b : ∀ (x : Bool) (n : Int), 0 ≤ n → bit x n ≤ n ∧ 0 ≤ bit x n := fun x n h => by unfold bit; split <;> omega
  have t3 : bit p.2.1 2 ≤ bit (p.2.1 != q.2.1) 2 + bit q.2.1 2 := by
    cases p.2.1 <;> cases q.2.1 <;> decide
  have t4 : bit (p.2.2 != 0) 3 ≤ bit (p.2.2 != q.2.2) 3 + bit (q.2.2 != 0) 3 := by
    have := bit_tri p.2.2 q.2.2 0 3 (by omega)
    exact this
  have c1 := b p.2.1 2 (by omega)
  have c2 := b q.2.1 2 (by omega)
  have c3 := b (p.2.2 != 0) 3 (by omega)
  have c4 := b (q.2.2 != 0) 3 (by omega)
  have n := apart_nn p q
  by_cases h1 : (traits p.1).vow = (traits q.1).vow
  · have f1 := far_nn (traits p.1).hgt (traits q.1).hgt
    have f2 := far_nn (traits p.1).bck (traits q.1).bck
    have f3 := far_nn (traits p.1).plc (traits q.1).plc
    have f4 := far_nn (traits p.1).mnr (traits q.1).mnr
    have b1 := b ((traits p.1).rnd != (traits q.1).rnd) 1 (by omega)
    have b2 := b ((traits p.1).vcd != (traits q.1).vcd) 1 (by omega)
    unfold apartF loneF
    rw [show ((traits p.1).vow != (traits q.1).vow) = false by simpa using h1, h1]
    simp only [Bool.false_eq_true, if_false]
    split <;> omega
  · have h40 : apartF p q = 40 := by unfold apartF; rw [if_pos (by simpa using h1)]
    unfold loneF
    split <;> split <;> omega

theorem cost_tri : ∀ (n : Nat) (a b c : List Ph), a.length + b.length + c.length ≤ n → costF a c ≤ costF a b + costF b c := by
  intro n
  induction n with
  | zero =>
    intro a b c h
    obtain rfl : a = [] := List.eq_nil_of_length_eq_zero (by omega)
    obtain rfl : b = [] := List.eq_nil_of_length_eq_zero (by omega)
    obtain rfl : c = [] := List.eq_nil_of_length_eq_zero (by omega)
    decide
  | succ n ih =>
    intro a b c h
    rcases cost_way a b with ⟨rfl, rfl⟩ | ⟨p, a', rfl, e⟩ | ⟨q, b', rfl, e⟩ | ⟨p, a', q, b', rfl, rfl, e⟩
    · rw [cost_nn]; omega
    · have := ih a' b c (by simp at h; omega)
      have := cost_le2 p a' c
      omega
    · rcases cost_way (q :: b') c with ⟨h0, _⟩ | ⟨q1, b1, hb, e'⟩ | ⟨r, c', rfl, e'⟩ | ⟨q1, b1, r, c', hb, rfl, e'⟩
      · cases h0
      · cases hb
        have := ih a b' c (by simp at h; omega)
        have := lone_pos q
        omega
      · have := ih a (q :: b') c' (by simp at h ⊢; omega)
        have := cost_le3 r a c'
        omega
      · cases hb
        have := ih a b' c' (by simp at h; omega)
        have := cost_le3 r a c'
        have := lone_tri r q
        rw [apart_comm] at this
        omega
    · rcases cost_way (q :: b') c with ⟨h0, _⟩ | ⟨q1, b1, hb, e'⟩ | ⟨r, c', rfl, e'⟩ | ⟨q1, b1, r, c', hb, rfl, e'⟩
      · cases h0
      · cases hb
        have := ih a' b' c (by simp at h; omega)
        have := cost_le2 p a' c
        have := lone_tri p q
        omega
      · have := ih (p :: a') (q :: b') c' (by simp at h ⊢; omega)
        have := cost_le3 r (p :: a') c'
        omega
      · cases hb
        have := ih a' b' c' (by simp at h; omega)
        have := cost_le1 p r a' c'
        have := apart_tri p q r
        omega
theorem cost_apart (a b c : List Ph) : costF a c ≤ costF a b + costF b c := cost_tri _ a b c (Nat.le_refl _)

theorem apart_self (p : Ph) : apartF p p = 0 := by
  unfold apartF farF bit
  simp
theorem cost_self (a : List Ph) : costF a a = 0 := by
  induction a with
  | nil => rfl
  | cons p a ih =>
    have h1 := cost_le1 p p a a
    rw [apart_self, ih] at h1
    have h2 := cost_nn' (p :: a) (p :: a)
    omega
/-- phones whose runes differ are apart -/
theorem rows_apart : (rowsL.all fun x => rowsL.all fun y => x.1 == y.1 || !(x.2 == y.2)) = true := by decide +kernel
theorem tr_eq {s t : Tr} (h : s.vow = t.vow) (h1 : s.hgt = t.hgt) (h2 : s.bck = t.bck) (h3 : s.rnd = t.rnd) (h4 : s.plc = t.plc) (h5 : s.mnr = t.mnr) (h6 : s.vcd = t.vcd) : s = t := by
  obtain ⟨a, b, c, d, e, f, g⟩ := s
  obtain ⟨a', b', c', d', e', f', g'⟩ := t
  simp [Tr.vow, Tr.hgt, Tr.bck, Tr.rnd, Tr.plc, Tr.mnr, Tr.vcd] at *
  simp [*]
theorem bit_zero {α : Type} [BEq α] [LawfulBEq α] [DecidableEq α] {a b : α} {n : Int} (hn : 0 < n) (h : bit (a != b) n = 0) : a = b := by
  by_cases e : a = b
  · exact e
  · rw [show (a != b) = true by simpa using e] at h
    unfold bit at h
    simp at h
    omega
theorem apart_zero {p q : Ph} (hp : (tabF p.1).isSome = true) (hq : (tabF q.1).isSome = true) (h : apartF p q = 0) : p = q := by
  have h1 := traits_ok p.1
  have h2 := traits_ok q.1
  have f1 := far_nn (traits p.1).hgt (traits q.1).hgt
  have f2 := far_nn (traits p.1).bck (traits q.1).bck
  have f3 := far_nn (traits p.1).plc (traits q.1).plc
  have f4 := far_nn (traits p.1).mnr (traits q.1).mnr
  have b1 := bit_nn ((traits p.1).rnd != (traits q.1).rnd) 1 (by omega)
  have b2 := bit_nn ((traits p.1).vcd != (traits q.1).vcd) 1 (by omega)
  have b3 := bit_nn (p.2.1 != q.2.1) 2 (by omega)
  have b4 := bit_nn (p.2.2 != q.2.2) 3 (by omega)
  have hv : (traits p.1).vow = (traits q.1).vow := by
    by_cases e : (traits p.1).vow = (traits q.1).vow
    · exact e
    · unfold apartF at h; rw [if_pos (by simpa using e)] at h; omega
  unfold apartF at h
  rw [show ((traits p.1).vow != (traits q.1).vow) = false by simpa using hv] at h
  simp only [Bool.false_eq_true, if_false] at h
  have f0 : ∀ a b : Int, farF a b = 0 → a = b := fun a b h => by unfold farF at h; omega
  have key : traits p.1 = traits q.1 ∧ p.2.1 = q.2.1 ∧ p.2.2 = q.2.2 := by
    simp only [trOk, Bool.and_eq_true, decide_eq_true_eq] at h1 h2
    by_cases hw : (traits p.1).vow = true
    · rw [if_pos hw] at h
      have hw2 : (traits q.1).vow = true := hv ▸ hw
      rw [if_pos hw] at h1
      rw [if_pos hw2] at h2
      simp only [Bool.and_eq_true, decide_eq_true_eq, Bool.not_eq_true'] at h1 h2
      exact ⟨tr_eq hv (f0 _ _ (by omega)) (f0 _ _ (by omega)) (bit_zero (n := 1) (by omega) (by omega)) (by rw [h1.2.1.1, h2.2.1.1]) (by rw [h1.2.1.2, h2.2.1.2]) (by rw [h1.2.2, h2.2.2]), bit_zero (n := 2) (by omega) (by omega), bit_zero (n := 3) (by omega) (by omega)⟩
    · rw [if_neg hw] at h
      have hw2 : ¬ (traits q.1).vow = true := hv ▸ hw
      rw [if_neg hw] at h1
      rw [if_neg hw2] at h2
      simp only [Bool.and_eq_true, decide_eq_true_eq, Bool.not_eq_true'] at h1 h2
      exact ⟨tr_eq hv (by rw [h1.2.1.1, h2.2.1.1]) (by rw [h1.2.1.2, h2.2.1.2]) (by rw [h1.2.2, h2.2.2]) (f0 _ _ (by omega)) (f0 _ _ (by omega)) (bit_zero (n := 1) (by omega) (by omega)), bit_zero (n := 2) (by omega) (by omega), bit_zero (n := 3) (by omega) (by omega)⟩
  obtain ⟨t, ht⟩ := Option.isSome_iff_exists.1 hp
  obtain ⟨u, hu⟩ := Option.isSome_iff_exists.1 hq
  have e1 : traits p.1 = t := by unfold traits; rw [ht]; rfl
  have e2 : traits q.1 = u := by unfold traits; rw [hu]; rfl
  have hr := (List.all_eq_true.1 ((List.all_eq_true.1 rows_apart) _ (tab_mem ht))) _ (tab_mem hu)
  have htu : t = u := by rw [← e1, ← e2]; exact key.1
  subst htu
  have hrr : p.1 = q.1 := by simpa using hr
  obtain ⟨a, b, c⟩ := p
  obtain ⟨a', b', c'⟩ := q
  simp only at hrr key
  rw [hrr, key.2.1, key.2.2]
theorem cost_zero : ∀ a b : List Ph, (∀ p ∈ a, (tabF p.1).isSome = true) → (∀ p ∈ b, (tabF p.1).isSome = true) → costF a b = 0 → a = b := by
  intro a
  induction a with
  | nil =>
    intro b _ _ h
    cases b with
    | nil => rfl
    | cons q b => have := lone_pos q; have := cost_nn' [] b; rw [cost_nc] at h; omega
  | cons p a ih =>
    intro b ha hb h
    cases b with
    | nil => have := lone_pos p; have := cost_nn' a []; rw [cost_cn] at h; omega
    | cons q b =>
      have l1 := lone_pos p
      have l2 := lone_pos q
      have c1 := cost_nn' a (q :: b)
      have c2 := cost_nn' (p :: a) b
      have c3 := cost_nn' a b
      have c4 := apart_nn p q
      rw [cost_cc] at h
      have e1 : apartF p q = 0 := by omega
      have e2 : costF a b = 0 := by omega
      rw [apart_zero (ha p (by simp)) (hb q (by simp)) e1, ih b (fun x hx => ha x (by simp [hx])) (fun x hx => hb x (by simp [hx])) e2]
theorem cost_cat : ∀ a b c d : List Ph, costF (a ++ c) (b ++ d) ≤ costF a b + costF c d := by
  intro a
  induction a with
  | nil =>
    intro b c d
    induction b with
    | nil => simp [cost_nn]
    | cons q b ih =>
      have := cost_le3 q ([] ++ c) (b ++ d)
      rw [List.cons_append, cost_nc]
      omega
  | cons p a iha =>
    intro b c d
    induction b with
    | nil =>
      have := iha [] c d
      have := cost_le2 p (a ++ c) ([] ++ d)
      rw [List.cons_append, cost_cn]
      omega
    | cons q b ih =>
      have h1 := iha b c d
      have h2 := iha (q :: b) c d
      have l1 := cost_le1 p q (a ++ c) (b ++ d)
      have l2 := cost_le2 p (a ++ c) (q :: b ++ d)
      have l3 := cost_le3 q (p :: a ++ c) (b ++ d)
      rw [cost_cc]
      simp only [List.cons_append] at *
      omega
theorem cost_alone (a : List Ph) : costF a [] = (a.map loneF).sum := by
  induction a with
  | nil => rfl
  | cons p a ih => rw [cost_cn, ih]; simp
theorem apart_self_le (p : Ph) : 0 ≤ loneF p := by have := lone_pos p; omega
theorem cost_hi : ∀ a b : List Ph, costF a b ≤ 20 * (a.length + b.length : Nat) := by
  have lh : ∀ p : Ph, loneF p ≤ 19 := fun p => by
    have b : ∀ (x : Bool) (n : Int), 0 ≤ n → bit x n ≤ n := fun x n h => by unfold bit; split <;> omega
    have b3 := b p.2.1 2 (by omega)
    have b4 := b (p.2.2 != 0) 3 (by omega)
    unfold loneF; split <;> omega
  intro a
  induction a with
  | nil =>
    intro b
    induction b with
    | nil => decide
    | cons q b ih => have := lh q; rw [cost_nc]; simp at ih ⊢; omega
  | cons p a iha =>
    intro b
    have := lh p
    have h1 := cost_le2 p a b
    have h2 := iha b
    simp at h2 ⊢
    omega
end Go.Proofs.Ytogofchpocoebaa
