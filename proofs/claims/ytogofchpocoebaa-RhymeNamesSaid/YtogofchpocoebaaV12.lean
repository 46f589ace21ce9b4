/- rhyme.Classes. -/
import Derived.Test.YtogofchpocoebaaV7
import Derived.Deep.DeepMust
namespace Go.Proofs.Ytogofchpocoebaa
open Go.RowKit Go.Maps Go.WideShapes

/-- block b is a map that holds m, with n entries -/
def MapIs (P : Program) (w : World) (k e b : Nat) (m : Lit → Option Int) (n : Nat) : Prop :=
  ∃ D : DataW Unit, w.ownsMap P k (plainElem P e) b n D ∧ Maps.size D = n ∧ ∀ l z, D.atKey l z = match m l with | some x => .lit (.int .i64 x) | none => z
open Classical in
/-- m with x at l -/
noncomputable def updM (m : Lit → Option Int) (l : Lit) (x : Int) : Lit → Option Int := fun l' => if l' = l then some x else m l'
theorem updM_same (m : Lit → Option Int) (l : Lit) (x : Int) : updM m l x l = some x := if_pos rfl
theorem updM_other (m : Lit → Option Int) {l l' : Lit} (x : Int) (h : l' ≠ l) : updM m l x l' = m l' := if_neg h

section
variable {P : Program} {w w' : World} {k e b n : Nat} {m : Lit → Option Int}
theorem own_tight {R : Value → Option (DataW Unit × List MemPlace)} {D : DataW Unit} (h : w.ownsMap P k R b n D) : w.ownsMap P k R b (Maps.size D) D := by
  obtain ⟨es, clock, hb, F, hs, rfl⟩ := h
  exact ⟨es, clock, hb, F, by simp [Maps.size, length_sorted], rfl⟩
theorem MapIs.made (P : Program) (w : World) (k e : Nat) : MapIs P (w.alloc (.map #[] 0)) k e w.heap.size (fun _ => none) 0 := ⟨.map [], World.ownsMap_made w P k _, rfl, fun _ _ => rfl⟩
theorem MapIs.congr (h : MapIs P w k e b m n) {m' : Lit → Option Int} (hm : ∀ l, m l = m' l) : MapIs P w k e b m' n := by
  obtain ⟨D, h1, h2, h3⟩ := h
  exact ⟨D, h1, h2, fun l z => by rw [h3, hm]⟩
theorem MapIs.lt (h : MapIs P w k e b m n) : b < w.heap.size := let ⟨_, h1, _, _⟩ := h; h1.lt
theorem MapIs.heap (h : MapIs P w k e b m n) (hb : w'.heap[b]? = w.heap[b]?) : MapIs P w' k e b m n := by
  obtain ⟨D, ⟨es, clock, hm, F, hs, hD⟩, h2, h3⟩ := h
  exact ⟨D, ⟨es, clock, hb.trans hm, F, hs, hD⟩, h2, h3⟩
theorem MapIs.only {S : Nat → Prop} (h : MapIs P w k e b m n) (ho : Only S w w') (hS : ¬ S b) : MapIs P w' k e b m n := h.heap (ho.block b h.lt hS)
theorem MapIs.below {B : Nat} (h : MapIs P w k e b m n) (hb : Below B w w') (hB : b < B) : MapIs P w' k e b m n := h.heap (hb.block b hB)
theorem MapIs.on (h : MapIs P w k e b m n) (hb : Below w.heap.size w w') : MapIs P w' k e b m n := h.below hb h.lt
theorem MapIs.alloc (h : MapIs P w k e b m n) (o : Obj) : MapIs P (w.alloc o) k e b m n := h.on ((Below.refl _ _).alloc (Nat.le_refl _) _)
theorem MapIs.grown {row : Option Nat} (h : MapIs P w k e b m n) (hg : w.grownBy w' row) (hne : some b ≠ row) : MapIs P w' k e b m n := h.heap (hg.block b h.lt hne)
theorem MapIs.has {D : DataW Unit} (h3 : ∀ l z, D.atKey l z = match m l with | some x => .lit (.int .i64 x) | none => z) (l : Lit) : Maps.has D l = (m l).isSome := by
  cases hm : m l with
  | none => exact Maps.has_false_of_atKey fun z => by rw [h3, hm]
  | some x => exact Maps.has_true_of_atKey (y := .lit (.int .i64 x)) fun z => by rw [h3, hm]
theorem MapIs.put (h : MapIs P w k e b m n) (K : Keyed P k) {t : TypeId} (ht : P.underlying t = some (.map k e)) (he : P.underlying e = some (.int .i64)) (hn : n < maxLen) {key : Value} {kl : Lit} (hkey : keyOf P k key = some kl)
    {x : Int} (hx : (Lit.int .i64 x).wf = true) : ∃ w', (Instr.mapUpdate t (.map (some b)) key (.int .i64 x)).run P w = .ok () w' ∧ MapIs P w' k e b (updM m kl x) (if (m kl).isSome then n else n + 1) ∧ w.grownBy w' (some b) := by
  obtain ⟨D, h1, h2, h3⟩ := h
  obtain ⟨w', hrun, hw, hg⟩ := h1.update K ht hn hkey (plainElem_int he hx)
  refine ⟨w', hrun, ⟨D.put kl (.lit (.int .i64 x)), ?_, ?_, fun l z => ?_⟩, hg⟩
  · have := own_tight hw
    rw [size_put (h1.tidy K) _, MapIs.has h3, h2] at this
    exact this
  · rw [size_put (h1.tidy K) _, MapIs.has h3, h2]
  · by_cases hl : l = kl
    · subst hl
      rw [atKey_put_same h1.isMap (K.key hkey), updM_same]
    · rw [atKey_put_other hl, updM_other m x hl, h3]
end

section
variable {P : Program} (w : World) {ops : Array Oper} {rest : List Oper} {o : Oper} {a : Act} {Q : Exit → Act → World → Prop}
/-- m[key] = x, at the operation -/
theorem wpList_put (hg : o.guard = none) (mo xo vo : Operand) (t : TypeId) (hop : o.op = Op.mapUpdate t mo xo vo) (k e : TypeId) (K : Keyed P k) (ht : P.underlying t = some (.map k e)) (he : P.underlying e = some (.int .i64))
    (b n : Nat) (m : Lit → Option Int) (hm : a.eval mo = .map (some b)) (h : MapIs P w k e b m n) (hn : n < maxLen) (key : Value) (kl : Lit) (hx : a.eval xo = key) (x : Int) (hv : a.eval vo = .int .i64 x) (hkey : keyOf P k key = some kl) (hw : (Lit.int .i64 x).wf = true)
    (hK : ∀ w', MapIs P w' k e b (updM m kl x) (if (m kl).isSome then n else n + 1) → w.grownBy w' (some b) → wpList P ops Q rest (a.put o.dst undef) w') : wpList P ops Q (o :: rest) a w := by
  refine wpList_plain hg fun K' hK' => ?_
  obtain ⟨w', hrun, r1, r2⟩ := h.put K ht he hn hkey hw
  unfold Oper.wp
  simp [execOp, hop, hm, hx, hv, hrun, Result.andThen]
  exact hK' _ _ (hK w' r1 r2)
/-- v, ok := m[key], at the operation -/
theorem wpList_look_ok (hg : o.guard = none) (mo xo : Operand) (t : TypeId) (hop : o.op = Op.lookup t mo xo true) (k e : TypeId) (K : Keyed P k) (ht : P.underlying t = some (.map k e)) (he : P.underlying e = some (.int .i64)) (hz : (zeroValue e).run P w = .ok (.int .i64 0) w)
    (b n : Nat) (m : Lit → Option Int) (hm : a.eval mo = .map (some b)) (h : MapIs P w k e b m n) (key : Value) (kl : Lit) (hx : a.eval xo = key) (hkey : keyOf P k key = some kl)
    (hK : wpList P ops Q rest (a.put o.dst (.tuple #[.int .i64 ((m kl).getD 0), .bool (m kl).isSome])) w) : wpList P ops Q (o :: rest) a w := by
  obtain ⟨D, h1, h2, h3⟩ := h
  refine wpList_lookup_own_ok_int w hg mo xo t hop k e .i64 K ht he hz b n D hm h1 key kl hx hkey fun c hat _ => ?_
  rw [MapIs.has h3]
  rw [h3] at hat
  cases hml : m kl with
  | none =>
    rw [hml] at hat hK
    injection hat with hat
    injection hat with _ hat
    subst hat
    exact hK
  | some x =>
    rw [hml] at hat hK
    injection hat with hat
    injection hat with _ hat
    subst hat
    exact hK
/-- m[key], at the operation -/
theorem wpList_look (hg : o.guard = none) (mo xo : Operand) (t : TypeId) (hop : o.op = Op.lookup t mo xo false) (k e : TypeId) (K : Keyed P k) (ht : P.underlying t = some (.map k e)) (he : P.underlying e = some (.int .i64)) (hz : (zeroValue e).run P w = .ok (.int .i64 0) w)
    (b n : Nat) (m : Lit → Option Int) (hm : a.eval mo = .map (some b)) (h : MapIs P w k e b m n) (key : Value) (kl : Lit) (hx : a.eval xo = key) (hkey : keyOf P k key = some kl)
    (hK : wpList P ops Q rest (a.put o.dst (.int .i64 ((m kl).getD 0))) w) : wpList P ops Q (o :: rest) a w := by
  obtain ⟨D, h1, h2, h3⟩ := h
  refine wpList_lookup_own_int w hg mo xo t hop k e .i64 K ht he hz b n D hm h1 key kl hx hkey fun c hat _ => ?_
  rw [h3] at hat
  cases hml : m kl with
  | none =>
    rw [hml] at hat hK
    injection hat with hat
    injection hat with _ hat
    subst hat
    exact hK
  | some x =>
    rw [hml] at hat hK
    injection hat with hat
    injection hat with _ hat
    subst hat
    exact hK
/-- len(m), at the operation -/
theorem wpList_lenM (hg : o.guard = none) (mo : Operand) (t : TypeId) (hop : o.op = Op.call { callee := Callee.builtin Builtin.len, args := #[mo], argTypes := #[t] }) (k e : TypeId) (ht : P.underlying t = some (.map k e)) (b n : Nat) (m : Lit → Option Int) (hm : a.eval mo = .map (some b)) (h : MapIs P w k e b m n)
    (hK : wpList P ops Q rest (a.put o.dst (.int .i64 n)) w) : wpList P ops Q (o :: rest) a w := by
  obtain ⟨D, h1, h2, h3⟩ := h
  refine wpList_len_own w hg mo t hop k e ht _ b n D hm h1 ?_
  rw [h2]
  exact hK
end
theorem MapIs.run_len {P : Program} {w : World} {k e b n : Nat} {m : Lit → Option Int} (h : MapIs P w k e b m n) {t : TypeId} (ht : P.underlying t = some (.map k e)) (ty : TypeId) : (Builtin.len_ #[t] ty #[.map (some b)]).run P w = .ok (.int .i64 n) w := by
  obtain ⟨D, h1, h2, h3⟩ := h
  rw [h1.len ht ty, h2]
/-- where a string first stands -/
def posB : List ByteArray → ByteArray → Option Nat
  | [], _ => none
  | a :: t, s => if a = s then some 0 else (posB t s).map (· + 1)
theorem posB_some {l : List ByteArray} {s : ByteArray} {p : Nat} (h : posB l s = some p) : l[p]? = some s ∧ ∀ q, q < p → l[q]? ≠ some s := by
  induction l generalizing p with
  | nil => cases h
  | cons a t ih =>
    unfold posB at h
    by_cases e : a = s
    · rw [if_pos e] at h
      injection h with h
      subst h e
      exact ⟨rfl, fun q hq => absurd hq (Nat.not_lt_zero _)⟩
    · rw [if_neg e] at h
      cases hp : posB t s with
      | none => rw [hp] at h; cases h
      | some r =>
        rw [hp] at h
        injection h with h
        subst h
        obtain ⟨h1, h2⟩ := ih hp
        refine ⟨h1, fun q hq => ?_⟩
        cases q with
        | zero => simpa using e
        | succ q => exact h2 q (Nat.lt_of_succ_lt_succ hq)
theorem posB_none {l : List ByteArray} {s : ByteArray} : posB l s = none ↔ ∀ q : Nat, l[q]? ≠ some s := by
  induction l with
  | nil => simp [posB]
  | cons a t ih =>
    unfold posB
    by_cases e : a = s
    · rw [if_pos e]
      constructor
      · intro h; cases h
      · intro h; exact absurd (by simp [e]) (h 0)
    · rw [if_neg e, Option.map_eq_none_iff, ih]
      constructor
      · intro h q
        cases q with
        | zero => simpa using e
        | succ q => exact h q
      · intro h q; exact h (q + 1)
theorem posB_lt {l : List ByteArray} {s : ByteArray} {p : Nat} (h : posB l s = some p) : p < l.length := (List.getElem?_eq_some_iff.1 (posB_some h).1).1
theorem posB_snoc (l : List ByteArray) (s x : ByteArray) : posB (l ++ [x]) s = match posB l s with | some p => some p | none => if x = s then some l.length else none := by
  induction l with
  | nil => simp only [List.nil_append, posB]; split <;> rfl
  | cons a t ih =>
    simp only [List.cons_append, posB]
    by_cases e : a = s
    · rw [if_pos e, if_pos e]
    · rw [if_neg e, if_neg e, ih]
      cases posB t s with
      | some p => rfl
      | none =>
        simp only [Option.map_none]
        by_cases ex : x = s
        · rw [if_pos ex, if_pos ex]; rfl
        · rw [if_neg ex, if_neg ex]; rfl

def litS (s : ByteArray) : Lit := .string s.data.toList
theorem lawS : Keyed Try.prog 9 := string_keyed Try.underlying9
theorem zero3 (w : World) : (zeroValue 3).run Try.prog w = .ok (.int .i64 0) w := by kernel_rfl
theorem litS_inj {s t : ByteArray} (h : litS s = litS t) : s = t := by
  injection h with h
  exact ByteArray.ext (Array.toList_inj.1 h)
theorem keyS {s : ByteArray} (h : s.size ≤ maxLen) : keyOf Try.prog 9 (.string s) = some (litS s) := Go.WideMaps.keyOf_string_mk Try.underlying9 h
theorem wf_nat (n : Nat) (h : n ≤ 1000000) : (Lit.int .i64 (n : Int)).wf = true := by
  simp only [Lit.wf, Bool.and_eq_true, decide_eq_true_eq]
  have h1 : IntKind.i64.min = -9223372036854775808 := by decide
  have h2 : IntKind.i64.max = 9223372036854775807 := by decide
  rw [h1, h2]
  omega
/-- a map by strings holds the places in a list -/
def PosIs (m : Lit → Option Int) (ds : List ByteArray) : Prop := ∀ s, m (litS s) = (posB ds s).map fun p => (p : Int)
theorem PosIs.put {m : Lit → Option Int} {ds : List ByteArray} (h : PosIs m ds) {s : ByteArray} (hs : posB ds s = none) : PosIs (updM m (litS s) (ds.length : Int)) (ds ++ [s]) := by
  intro t
  rw [posB_snoc]
  by_cases e : t = s
  · subst e
    rw [updM_same, hs]
    simp
  · rw [updM_other _ _ (fun he => e (litS_inj he)), h t]
    cases hp : posB ds t with
    | some p => rfl
    | none =>
      have : ¬ s = t := fun h => e h.symm
      simp [this]


/-- one key more: the keys that were met, in order; the numbers so far -/
def clsStep (st : List ByteArray × List Nat) (s : ByteArray) : List ByteArray × List Nat :=
  match posB st.1 s with
  | some p => (st.1, st.2 ++ [p])
  | none => (st.1 ++ [s], st.2 ++ [st.1.length])
def cls (ks : List ByteArray) (i : Nat) : List ByteArray × List Nat := (ks.take i).foldl clsStep ([], [])
theorem cls_succ (ks : List ByteArray) {i : Nat} (h : i < ks.length) : cls ks (i + 1) = clsStep (cls ks i) ks[i] := by
  unfold cls
  rw [List.take_succ_eq_append_getElem h, List.foldl_append]
  rfl
structure ClsOk (ks : List ByteArray) (k : Nat) (st : List ByteArray × List Nat) : Prop where
  len : st.2.length = k
  few : st.1.length ≤ k
  at_ : ∀ j, j < k → st.1[st.2.getD j 0]? = ks[j]?
  one : ∀ (a b : Nat) (v : ByteArray), st.1[a]? = some v → st.1[b]? = some v → a = b
  got : ∀ m, m < st.1.length → ∃ j, j < k ∧ st.2.getD j 0 = m
  mex : ∀ i, i < k → ∀ m, m < st.2.getD i 0 → ∃ j, j < i ∧ st.2.getD j 0 = m
theorem cls_ok (ks : List ByteArray) : ∀ k, k ≤ ks.length → ClsOk ks k (cls ks k) := by
  intro k
  induction k with
  | zero => intro _; exact ⟨rfl, Nat.le_refl _, fun j hj => by omega, fun a b v h => by simp [cls] at h, fun m hm => by simp [cls] at hm, fun i hi => by omega⟩
  | succ k ih =>
    intro hk
    rw [cls_succ ks (by omega)]
    have hkk : ks[k]? = some ks[k] := List.getElem?_eq_getElem (by omega)
    generalize hs : ks[k] = s at *
    have ih := ih (by omega)
    unfold clsStep
    generalize cls ks k = st at ih ⊢
    obtain ⟨F, O⟩ := st
    obtain ⟨i1, i2, i3, i4, i5, i6⟩ := ih
    dsimp only at i1 i2 i3 i4 i5 i6 ⊢
    cases hx : posB F s with
    | some n =>
      obtain ⟨hv, _⟩ := posB_some hx
      have hn := posB_lt hx
      have hnk : (O ++ [n]).getD k 0 = n := getD_snoc_eq i1.symm
      have hlt : ∀ j, j < k → (O ++ [n]).getD j 0 = O.getD j 0 := fun j hj => getD_snoc_lt (by omega)
      refine ⟨by simp [i1], by dsimp only; omega, fun j hj => ?_, i4, fun m hm => ?_, fun i hi m hm => ?_⟩
      · dsimp only
        rcases Nat.lt_or_ge j k with h | h
        · rw [hlt j h]; exact i3 j h
        · have : j = k := by omega
          subst this
          rw [hnk, hkk]; exact hv
      · obtain ⟨j, hj, e⟩ := i5 m hm
        exact ⟨j, by omega, by dsimp only; rw [hlt j hj]; exact e⟩
      · dsimp only at hm ⊢
        rcases Nat.lt_or_ge i k with h | h
        · rw [hlt i h] at hm
          obtain ⟨j, hj, e⟩ := i6 i h m hm
          exact ⟨j, hj, by rw [hlt j (by omega)]; exact e⟩
        · have : i = k := by omega
          subst this
          rw [hnk] at hm
          obtain ⟨j, hj, e⟩ := i5 m (by omega)
          exact ⟨j, hj, by rw [hlt j hj]; exact e⟩
    | none =>
      have hno := posB_none.1 hx
      have hnk : (O ++ [F.length]).getD k 0 = F.length := getD_snoc_eq i1.symm
      have hlt : ∀ j, j < k → (O ++ [F.length]).getD j 0 = O.getD j 0 := fun j hj => getD_snoc_lt (by omega)
      have hap : ∀ (a : Nat) (v : ByteArray), (F ++ [s])[a]? = some v → (a < F.length ∧ F[a]? = some v) ∨ (a = F.length ∧ v = s) := by
        intro a v h
        rcases Nat.lt_or_ge a F.length with ha | ha
        · rw [List.getElem?_append_left ha] at h
          exact .inl ⟨ha, h⟩
        · rw [List.getElem?_append_right ha] at h
          rcases Nat.eq_zero_or_pos (a - F.length) with h0 | h0
          · rw [h0] at h
            simp at h
            exact .inr ⟨by omega, h.symm⟩
          · rw [List.getElem?_eq_none (by simp; omega)] at h
            cases h
      refine ⟨by simp [i1], by simp; omega, fun j hj => ?_, fun a b v ha hb => ?_, fun m hm => ?_, fun i hi m hm => ?_⟩
      · dsimp only
        rcases Nat.lt_or_ge j k with h | h
        · rw [hlt j h]
          have h3 := i3 j h
          have hj2 : ks[j]? = some ks[j] := List.getElem?_eq_getElem (by omega)
          rw [hj2] at h3 ⊢
          rw [List.getElem?_append_left (List.getElem?_eq_some_iff.1 h3).1]
          exact h3
        · have : j = k := by omega
          subst this
          rw [hnk, hkk, List.getElem?_append_right (Nat.le_refl _)]
          simp
      · rcases hap a v ha with ⟨a1, a2⟩ | ⟨a1, a2⟩
        · rcases hap b v hb with ⟨b1, b2⟩ | ⟨b1, b2⟩
          · exact i4 a b v a2 b2
          · subst b2; exact absurd a2 (hno a)
        · rcases hap b v hb with ⟨b1, b2⟩ | ⟨b1, b2⟩
          · subst a2; exact absurd b2 (hno b)
          · omega
      · dsimp only at hm ⊢
        rw [List.length_append] at hm
        rcases Nat.lt_or_ge m F.length with h | h
        · obtain ⟨j, hj, e⟩ := i5 m h
          exact ⟨j, by omega, by rw [hlt j hj]; exact e⟩
        · have : m = F.length := by simp at hm; omega
          subst this
          exact ⟨k, by omega, hnk⟩
      · dsimp only at hm ⊢
        rcases Nat.lt_or_ge i k with h | h
        · rw [hlt i h] at hm
          obtain ⟨j, hj, e⟩ := i6 i h m hm
          exact ⟨j, hj, by rw [hlt j (by omega)]; exact e⟩
        · have : i = k := by omega
          subst this
          rw [hnk] at hm
          obtain ⟨j, hj, e⟩ := i5 m hm
          exact ⟨j, hj, by rw [hlt j hj]; exact e⟩
/-- the numbers of keys -/
def clsN (ks : List ByteArray) : List Nat := (cls ks ks.length).2
theorem cls_num (ks : List ByteArray) : Num ks.length (fun i j => ks[i]? = ks[j]?) (fun i => (clsN ks).getD i 0) := by
  have h := cls_ok ks ks.length (Nat.le_refl _)
  refine ⟨fun i j hi hj => ⟨fun e => ?_, fun e => ?_⟩, h.mex⟩
  · have a := h.at_ i hi
    have b := h.at_ j hj
    try dsimp only at e
    unfold clsN at e
    rw [e, b] at a
    exact a.symm
  · have a := h.at_ i hi
    have b := h.at_ j hj
    have hi2 : ks[i]? = some ks[i] := List.getElem?_eq_getElem hi
    rw [← e, hi2] at b
    rw [hi2] at a
    exact h.one _ _ _ a b
theorem clsN_len (ks : List ByteArray) : (clsN ks).length = ks.length := (cls_ok ks ks.length (Nat.le_refl _)).len

def natV (n : Nat) : Value := .int .i64 (n : Int)
/-- memory while Classes runs -/
structure ClSt (w0 : World) (v : Value) (ds : List ByteArray) (out : List Nat) (w : World) : Prop where
  mp : ∃ m, MapIs Try.prog w 9 3 w0.heap.size m ds.length ∧ PosIs m ds
  own : w.ownsRow (w0.heap.size + 1) 3 1 v out.length (out.map natV)
  below : Below w0.heap.size w0 w
section
variable {w0 : World} {v v' : Value} {ds ds' : List ByteArray} {out out' : List Nat} {w w' : World}
theorem ClSt.on (h : ClSt w0 v ds out w) (hb : Below w.heap.size w w') : ClSt w0 v ds out w' :=
  ⟨let ⟨m, h1, h2⟩ := h.mp; ⟨m, h1.on hb, h2⟩, own_stay h.own (Only.of_below hb _), h.below.trans (hb.mono h.below.size)⟩
theorem ClSt.app {n : Nat} {cs : List Value} (h : ClSt w0 v ds out w) (hown : w'.ownsRow (w0.heap.size + 1) 3 1 v' n cs) (hg : w.grownBy w' v.ownBlock) (hc : cs = out'.map natV) : ClSt w0 v' ds out' w' := by
  subst hc
  have hn : n = out'.length := by have := hown.1; simp at this; omega
  subst hn
  have ho : Only (fun k => v.ownBlock = some k) w w' := (Only.refl _ _).grown hg (fun _ hg => .inl hg)
  obtain ⟨m, h1, h2⟩ := h.mp
  refine ⟨⟨m, h1.only ho (fun hk => by have := (h.own.lt _ hk).1; omega), h2⟩, hown, h.below.trans (ho.below h.below.size (fun k hk hh => by have := (h.own.lt _ hh).1; omega))⟩
theorem ClSt.put {m' : Lit → Option Int} (h : ClSt w0 v ds out w) (hm : MapIs Try.prog w' 9 3 w0.heap.size m' ds'.length) (hp : PosIs m' ds') (hg : w.grownBy w' (some w0.heap.size)) : ClSt w0 v ds' out w' := by
  have ho : Only (fun k => k = w0.heap.size) w w' := (Only.refl _ _).grown hg (fun _ hg => .inl (by injection hg with hg; exact hg.symm))
  exact ⟨⟨m', hm, hp⟩, own_only h.own ho (fun k hk _ _ he => by omega), h.below.trans (ho.below h.below.size (fun k hk he => by omega))⟩
end
def keyB (x : Sd) : ByteArray := bts (texts (tailF x.l x.ss))
def keysL (xs : List Sd) : List ByteArray := xs.map keyB
theorem key_size {x : Sd} (hf : Form x.l x.ss) : (keyB x).size ≤ 896 := by
  have h := texts_len _ (form_parts hf).1
  have h2 := (form_parts hf).2.2.1
  unfold keyB
  rw [bts_size]
  omega

set_option maxHeartbeats 4000000 in
set_option maxRecDepth 100000 in
theorem classes_long (X : Option Addr) (k cp : Nat) (w : World) (h : 512 < k) :
    Calls Try.prog 72 #[.slice X k cp] w fun e w' => e = .returned (.tuple #[.slice none 0 0, .int .i64 3]) ∧ Below w.heap.size w w' := by
  have d1 : decide ((512 : Int) < (k : Int)) = true := by simp; omega
  go_enter Try.func72, Try.ntmps72
  go_wp2
  go_ret2
  exact ⟨rfl, Below.refl _ _⟩

set_option maxHeartbeats 4000000 in
set_option maxRecDepth 100000 in
theorem classes_any (X : Option Addr) (k cp BB : Nat) (xs : List Sd) (w : World) (h : SdsIn w BB X k xs) (hBB : BB ≤ w.heap.size) (hk : k ≤ 512) :
    Calls Try.prog 72 #[.slice X k cp] w fun e w' => ∃ v, e = .returned (if xs.all mayB then .tuple #[v, .int .i64 0] else .tuple #[.slice none 0 0, .int .i64 2]) ∧ (xs.all mayB = true → w'.ownsRow (w.heap.size + 1) 3 1 v k ((clsN (keysL xs)).map natV)) ∧ Below w.heap.size w w' := by
  have d1 : decide ((512 : Int) < (k : Int)) = false := by simp; omega
  have HX := Lib.hid h
  have HL := Lib.hid h.len
  have HM := Lib.hid (show k ≤ maxLen by unfold maxLen; omega)
  clear h
  cases hall : xs.all mayB with
  | false =>
    have HA := Lib.hid hall
    simp only [Bool.false_eq_true, if_false]
    go_enter Try.func72, Try.ntmps72
    go_wp2_with fail
    refine (mayAll_any X k cp 0 BB BB xs w HX.out.rd hBB hBB HX.out.each HM.out).mono ?_
    rintro e w1 ⟨rfl, hb⟩
    rw [HA.out]
    have H1 := Lib.hid hb
    clear hb
    go_wp2
    go_ret2
    exact ⟨.slice none 0 0, rfl, fun h => h.elim, H1.out⟩
  | true =>
    have HA := Lib.hid hall
    simp only [if_true]
    have hmm := @run_makeMap Try.prog
    have hinfo : (Try.prog.info? 3).map (fun i => (i.zero, i.size, i.bytes)) = some (some (.int .i64 0), 1, 8) := by kernel_rfl
    obtain ⟨i0, hi, hz0, hz1, hz2⟩ := info_parts hinfo
    have HI := Lib.hid (And.intro hi (And.intro hz0 (And.intro hz1 hz2)))
    clear hi hz0 hz1 hz2 hinfo
    go_enter Try.func72, Try.ntmps72
    go_wp2_with fail
    refine (mayAll_any X k cp 0 BB BB xs w HX.out.rd hBB hBB HX.out.each HM.out).mono ?_
    rintro e w1 ⟨rfl, hb⟩
    rw [HA.out]
    have H1 := Lib.hid hb
    clear hb
    have HF := Lib.hid (show ∀ x ∈ xs, Form x.l x.ss from fun x hx => form_of (by have := List.all_eq_true.1 hall x hx; unfold mayB at this; exact eq_of_beq this))
    have hkl : (keysL xs).length = k := by unfold keysL; rw [List.length_map]; exact HL.out
    have HKL := Lib.hid hkl
    clear hall hkl
    generalize hks : keysL xs = ks at *
    have HKS := Lib.hid hks
    clear hks
    go_upto_region 7 with (fail)
    refine wp_abs (ClSt w1 (.slice none 0 0) [] []) ⟨⟨fun _ => none, by simpa using MapIs.made Try.prog w1 9 3, fun s => rfl⟩, World.ownsRow_nil _ _ _ _, (Below.refl _ _).alloc (Nat.le_refl _) _⟩ ?_
    intro w2 hS
    have HS := Lib.hid hS
    clear hS hmm
    go_wp2
    go_loopw [4, 7, 8, 9, 10, 22] (fun v4 _ _ _ _ v22 wr => ∃ i : Nat, i ≤ k ∧ v22 = .int .i64 i ∧ Hid (ClSt w1 v4 (cls ks i).1 (cls ks i).2 wr)) (fun _ _ _ _ _ v22 _ => k - (intOf v22).toNat)
    case atStart => exact ⟨0, by omega, rfl, HS⟩
    case round =>
      obtain ⟨i, hi, rfl, HS⟩ := hrel
      by_cases hlt : i < k
      · have hBr : BB ≤ wr.heap.size := Nat.le_trans hBB (Nat.le_trans H1.out.size HS.out.below.size)
        have hbx : Below w.heap.size w wr := H1.out.trans (HS.out.below.mono H1.out.size)
        obtain ⟨b, o, eX, hbB, x0, x1, hxx, hmx⟩ := (HX.out.below hbx hBB).at hlt
        have hil : i < ks.length := by have := HKL.out; omega
        have hsu := cls_succ ks hil
        have hok := cls_ok ks i (by omega)
        have hxi : ks[i] = keyB (xs.getD i sd0) := by
          have : ks[i]? = some (keyB (xs.getD i sd0)) := by
            rw [← HKS.out]
            unfold keysL
            have hl : i < xs.length := by have := HL.out; omega
            rw [List.getElem?_map, List.getD_eq_getElem?_getD, List.getElem?_eq_getElem hl]
            rfl
          rw [List.getElem?_eq_getElem hil] at this
          exact Option.some.inj this
        rw [hxi] at hsu
        have hff := HF.out _ hmx
        have fl1 := hok.len
        have fl2 := hok.few
        generalize xs.getD i sd0 = x at *
        generalize hst : cls ks i = st at *
        obtain ⟨ds, out⟩ := st
        simp only at fl1 fl2
        have hSt : ClSt w1 _ ds out wr := HS.out
        obtain ⟨XV, XC, rfl⟩ := own_slice hSt.own
        have HX2 := Lib.hid (And.intro hSt (And.intro hxx hff))
        have HSU := Lib.hid hsu
        have hzk := key_size hff
        have bw := hSt.below.size
        rw [eX]
        clear hst hsu HS hSt hok hxi hxx hff hmx hbx eX
        have i1 : (0 : Int) ≤ (i : Int) := by omega
        have i2 : (i : Int) < (k : Int) := by omega
        have dk : decide ((i : Int) < (k : Int)) = true := by simp; omega
        go_upto_region 10 with (fail)
        refine wp_abs (fun wx => ClSt w1 (.slice XV out.length XC) ds out wx ∧ SdIn wx BB x ∧ BB ≤ wx.heap.size ∧ Blk wx wr.heap.size 25 #[.slice x.A x.n x.c, .slice x.D x.m x.d]) ⟨HX2.out.1.on ((Below.refl _ _).alloc (Nat.le_refl _) _), HX2.out.2.1.below ((Below.refl _ _).alloc (Nat.le_refl _) _) hBr, by simp; omega, Blk.new _ _ _⟩ ?_
        rintro w3 ⟨hS3, hx3, hB3, hb3⟩
        have y0 : w3.cell? ⟨wr.heap.size, 0, none⟩ = some (.slice x.A x.n x.c) := hb3.cell 0
        have y1 : w3.cell? ⟨wr.heap.size, 1, none⟩ = some (.slice x.D x.m x.d) := hb3.cell 1
        have H3 := Lib.hid (And.intro hS3 (And.intro hx3 hB3))
        clear hS3 hx3 hB3 hb3 x0 x1
        generalize wr.heap.size = xb at *
        go_wp2_with fail
        refine (key_any x BB w3 H3.out.2.1 H3.out.2.2 HX2.out.2.2).mono ?_
        rintro e w4 ⟨rfl, hb⟩
        rw [show bts (texts (tailF x.l x.ss)) = keyB x from rfl]
        have hS4 := H3.out.1.on hb
        obtain ⟨m, hm, hp⟩ := hS4.mp
        have hml := hp (keyB x)
        have HX := Lib.hid (And.intro hS4 (And.intro hm hp))
        have bw3 := hS4.below.size
        have bw2 := hm.lt
        have HK := Lib.hid (show (keyB x).size ≤ maxLen by unfold maxLen; omega)
        clear hb y0 y1 H3 HX2 hS4 hm hp hzk
        generalize keyB x = s at *
        have fl3 : out.length ≤ 512 := by omega
        have fl4 : ds.length ≤ 512 := by omega
        clear fl1
        cases hpos : posB ds s with
        | some p =>
          have hpl := posB_lt hpos
          have hml2 : m (litS s) = some (p : Int) := by rw [hml, hpos]; rfl
          have HM := Lib.hid hml2
          have HP := Lib.hid hpos
          clear hml hml2 hpos
          go_wp2_with (first
            | (at_lookup; refine wpList_look_ok _ rfl _ _ 205 rfl 9 3 lawS Try.underlying205 Try.underlying3 (zero3 _) w1.heap.size _ m rfl HX.out.2.1 _ _ rfl (keyS HK.out) ?_; rw [HM.out])
            | (at_builtin; go_must (refine wpList_append_rd _ rfl _ _ 71 rfl (w1.heap.size + 1) 3 i0 (.int .i64 0) 1 8 Try.underlying71 HI.out.1 HI.out.2.1 HI.out.2.2.1 HI.out.2.2.2 rfl (by decide) _ _ _ rfl (HX.out.1.own.alloc _) _ _ _ 1 1 _ rfl (rd_new _ _ #[.int .i64 (p : Int)] 1 rfl) (by simp [Value.oneCell']) (by unfold maxLen; omega) (by omega) (by simp; omega) ?_; intro v4 w5 _ hown hgrow _; have HN := Lib.hid ((HX.out.1.on ((Below.refl _ _).alloc (Nat.le_refl _) _)).app (out' := out ++ [p]) hown hgrow (by rw [List.map_append]; rfl)); clear hown hgrow)))
          go_roundw
          case rel => exact ⟨i + 1, by omega, by go_num, Lib.hid (by rw [HSU.out]; unfold clsStep; simp only [HP.out]; exact HN.out)⟩
          case measure => simp [intOf]; omega
        | none =>
          have hml2 : m (litS s) = none := by rw [hml, hpos]; rfl
          have HM := Lib.hid hml2
          have HP := Lib.hid hpos
          clear hml hml2 hpos
          go_wp2_with (first
            | (at_lookup; refine wpList_look_ok _ rfl _ _ 205 rfl 9 3 lawS Try.underlying205 Try.underlying3 (zero3 _) w1.heap.size _ m rfl HX.out.2.1 _ _ rfl (keyS HK.out) ?_; rw [HM.out])
            | (at_len; refine wpList_lenM _ rfl _ 205 rfl 9 3 Try.underlying205 w1.heap.size _ m rfl HX.out.2.1 ?_)
            | (at_mapUpdate; refine wpList_put _ rfl _ _ _ 205 rfl 9 3 lawS Try.underlying205 Try.underlying3 w1.heap.size _ m rfl HX.out.2.1 (by unfold maxLen; omega) _ _ rfl _ rfl (keyS HK.out) (wf_nat _ (by omega)) ?_; rw [HM.out]; intro wq hmq hgq; have HQ := Lib.hid (HX.out.1.put (ds' := ds ++ [s]) (by rw [List.length_append]; exact hmq) (HX.out.2.2.put HP.out) hgq); have bq := hgq.size; clear hmq hgq)
            | (at_builtin; go_must (refine wpList_append_rd _ rfl _ _ 71 rfl (w1.heap.size + 1) 3 i0 (.int .i64 0) 1 8 Try.underlying71 HI.out.1 HI.out.2.1 HI.out.2.2.1 HI.out.2.2.2 rfl (by decide) _ _ _ rfl (HQ.out.own.alloc _) _ _ _ 1 1 _ rfl (rd_new _ _ #[.int .i64 (ds.length : Int)] 1 rfl) (by simp [Value.oneCell']) (by unfold maxLen; omega) (by omega) (by simp; omega) ?_; intro v4 w5 _ hown hgrow _; have HN := Lib.hid ((HQ.out.on ((Below.refl _ _).alloc (Nat.le_refl _) _)).app (out' := out ++ [ds.length]) hown hgrow (by rw [List.map_append]; rfl)); clear hown hgrow)))
          go_roundw
          case rel => exact ⟨i + 1, by omega, by go_num, Lib.hid (by rw [HSU.out]; unfold clsStep; simp only [HP.out]; exact HN.out)⟩
          case measure => simp [intOf]; omega
      · have hik : i = k := by omega
        subst hik
        have hln := (cls_ok ks i (by have := HKL.out; omega)).len
        obtain ⟨XV, XC, eV⟩ := own_slice HS.out.own
        subst eV
        have HC := Lib.hid (show (cls ks i).2 = clsN (keysL xs) by rw [HKS.out]; unfold clsN; rw [HKL.out])
        have dk : decide ((i : Int) < (i : Int)) = false := by simp
        have HLN := Lib.hid hln
        clear hln
        go_wp2
        go_ret2
        refine ⟨.slice XV (cls ks i).2.length XC, rfl, fun _ => ?_, H1.out.trans (HS.out.below.mono H1.out.size)⟩
        have h := own_lower HS.out.own (show w.heap.size + 1 ≤ w1.heap.size + 1 by have := H1.out.size; omega)
        rw [← HC.out]
        have h2 : ∀ n, n = (cls ks i).2.length → wr.ownsRow (w.heap.size + 1) 3 1 (.slice XV (cls ks i).2.length XC) n ((cls ks i).2.map natV) := fun n e => by rw [e]; exact h
        exact h2 i HLN.out.symm
end Go.Proofs.Ytogofchpocoebaa
