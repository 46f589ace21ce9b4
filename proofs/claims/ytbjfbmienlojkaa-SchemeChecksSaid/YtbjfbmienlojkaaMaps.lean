/- Words for a map of the call's own with int elements: what stands at each key, and how many entries there are. -/
import Derived.Test.YtbjfbmienlojkaaMem
import Derived.Maps.OwnSet
import Derived.Maps.OwnOps
namespace Go.Proofs.Ytbjfbmienlojkaa
open Go.RowKit Go.Maps Go.WideShapes

/-- block b is a map that holds m, with n entries -/
def MapIs (P : Program) (w : World) (k e b : Nat) (m : Lit → Option Int) (n : Nat) : Prop :=
  ∃ D : DataW Unit, w.ownsMap P k (plainElem P e) b n D ∧ Maps.size D = n ∧ ∀ l z, D.atKey l z = match m l with | some x => .lit (.int .i64 x) | none => z
open Classical in
/-- m with x at l -/
noncomputable def updM (m : Lit → Option Int) (l : Lit) (x : Int) : Lit → Option Int := fun l' => if l' = l then some x else m l'
theorem updM_same (m : Lit → Option Int) (l : Lit) (x : Int) : updM m l x l = some x := if_pos rfl
theorem updM_other (m : Lit → Option Int) {l l' : Lit} (x : Int) (h : l' ≠ l) : updM m l x l' = m l' := if_neg h

section
variable {P : Program} {w w' : World} {k e b n : Nat} {m : Lit → Option Int}
theorem own_tight {R : Value → Option (DataW Unit × List MemPlace)} {D : DataW Unit} (h : w.ownsMap P k R b n D) : w.ownsMap P k R b (Maps.size D) D := by
  obtain ⟨es, clock, hb, F, hs, rfl⟩ := h
  exact ⟨es, clock, hb, F, by simp [Maps.size, length_sorted], rfl⟩
theorem MapIs.made (P : Program) (w : World) (k e : Nat) : MapIs P (w.alloc (.map #[] 0)) k e w.heap.size (fun _ => none) 0 := ⟨.map [], World.ownsMap_made w P k _, rfl, fun _ _ => rfl⟩
theorem MapIs.congr (h : MapIs P w k e b m n) {m' : Lit → Option Int} (hm : ∀ l, m l = m' l) : MapIs P w k e b m' n := by
  obtain ⟨D, h1, h2, h3⟩ := h
  exact ⟨D, h1, h2, fun l z => by rw [h3, hm]⟩
theorem MapIs.lt (h : MapIs P w k e b m n) : b < w.heap.size := let ⟨_, h1, _, _⟩ := h; h1.lt
theorem MapIs.heap (h : MapIs P w k e b m n) (hb : w'.heap[b]? = w.heap[b]?) : MapIs P w' k e b m n := by
  obtain ⟨D, ⟨es, clock, hm, F, hs, hD⟩, h2, h3⟩ := h
  exact ⟨D, ⟨es, clock, hb.trans hm, F, hs, hD⟩, h2, h3⟩
theorem MapIs.only {S : Nat → Prop} (h : MapIs P w k e b m n) (ho : Only S w w') (hS : ¬ S b) : MapIs P w' k e b m n := h.heap (ho.block b h.lt hS)
theorem MapIs.below {B : Nat} (h : MapIs P w k e b m n) (hb : Below B w w') (hB : b < B) : MapIs P w' k e b m n := h.heap (hb.block b hB)
theorem MapIs.on (h : MapIs P w k e b m n) (hb : Below w.heap.size w w') : MapIs P w' k e b m n := h.below hb h.lt
theorem MapIs.alloc (h : MapIs P w k e b m n) (o : Obj) : MapIs P (w.alloc o) k e b m n := h.on ((Below.refl _ _).alloc (Nat.le_refl _) _)
theorem MapIs.grown {row : Option Nat} (h : MapIs P w k e b m n) (hg : w.grownBy w' row) (hne : some b ≠ row) : MapIs P w' k e b m n := h.heap (hg.block b h.lt hne)
theorem MapIs.has {D : DataW Unit} (h3 : ∀ l z, D.atKey l z = match m l with | some x => .lit (.int .i64 x) | none => z) (l : Lit) : Maps.has D l = (m l).isSome := by
  cases hm : m l with
  | none => exact Maps.has_false_of_atKey fun z => by rw [h3, hm]
  | some x => exact Maps.has_true_of_atKey (y := .lit (.int .i64 x)) fun z => by rw [h3, hm]
theorem MapIs.put (h : MapIs P w k e b m n) (K : Keyed P k) {t : TypeId} (ht : P.underlying t = some (.map k e)) (he : P.underlying e = some (.int .i64)) (hn : n < maxLen) {key : Value} {kl : Lit} (hkey : keyOf P k key = some kl)
    {x : Int} (hx : (Lit.int .i64 x).wf = true) : ∃ w', (Instr.mapUpdate t (.map (some b)) key (.int .i64 x)).run P w = .ok () w' ∧ MapIs P w' k e b (updM m kl x) (if (m kl).isSome then n else n + 1) ∧ w.grownBy w' (some b) := by
  obtain ⟨D, h1, h2, h3⟩ := h
  obtain ⟨w', hrun, hw, hg⟩ := h1.update K ht hn hkey (plainElem_int he hx)
  refine ⟨w', hrun, ⟨D.put kl (.lit (.int .i64 x)), ?_, ?_, fun l z => ?_⟩, hg⟩
  · have := own_tight hw
    rw [size_put (h1.tidy K) _, MapIs.has h3, h2] at this
    exact this
  · rw [size_put (h1.tidy K) _, MapIs.has h3, h2]
  · by_cases hl : l = kl
    · subst hl
      rw [atKey_put_same h1.isMap (K.key hkey), updM_same]
    · rw [atKey_put_other hl, updM_other m x hl, h3]
end

section
variable {P : Program} (w : World) {ops : Array Oper} {rest : List Oper} {o : Oper} {a : Act} {Q : Exit → Act → World → Prop}
/-- m[key] = x, at the operation -/
theorem wpList_put (hg : o.guard = none) (mo xo vo : Operand) (t : TypeId) (hop : o.op = Op.mapUpdate t mo xo vo) (k e : TypeId) (K : Keyed P k) (ht : P.underlying t = some (.map k e)) (he : P.underlying e = some (.int .i64))
    (b n : Nat) (m : Lit → Option Int) (hm : a.eval mo = .map (some b)) (h : MapIs P w k e b m n) (hn : n < maxLen) (key : Value) (kl : Lit) (hx : a.eval xo = key) (x : Int) (hv : a.eval vo = .int .i64 x) (hkey : keyOf P k key = some kl) (hw : (Lit.int .i64 x).wf = true)
    (hK : ∀ w', MapIs P w' k e b (updM m kl x) (if (m kl).isSome then n else n + 1) → w.grownBy w' (some b) → wpList P ops Q rest (a.put o.dst undef) w') : wpList P ops Q (o :: rest) a w := by
  refine wpList_plain hg fun K' hK' => ?_
  obtain ⟨w', hrun, r1, r2⟩ := h.put K ht he hn hkey hw
  unfold Oper.wp
  simp [execOp, hop, hm, hx, hv, hrun, Result.andThen]
  exact hK' _ _ (hK w' r1 r2)
/-- v, ok := m[key], at the operation -/
theorem wpList_look_ok (hg : o.guard = none) (mo xo : Operand) (t : TypeId) (hop : o.op = Op.lookup t mo xo true) (k e : TypeId) (K : Keyed P k) (ht : P.underlying t = some (.map k e)) (he : P.underlying e = some (.int .i64)) (hz : (zeroValue e).run P w = .ok (.int .i64 0) w)
    (b n : Nat) (m : Lit → Option Int) (hm : a.eval mo = .map (some b)) (h : MapIs P w k e b m n) (key : Value) (kl : Lit) (hx : a.eval xo = key) (hkey : keyOf P k key = some kl)
    (hK : wpList P ops Q rest (a.put o.dst (.tuple #[.int .i64 ((m kl).getD 0), .bool (m kl).isSome])) w) : wpList P ops Q (o :: rest) a w := by
  obtain ⟨D, h1, h2, h3⟩ := h
  refine wpList_lookup_own_ok_int w hg mo xo t hop k e .i64 K ht he hz b n D hm h1 key kl hx hkey fun c hat _ => ?_
  rw [MapIs.has h3]
  rw [h3] at hat
  cases hml : m kl with
  | none =>
    rw [hml] at hat hK
    injection hat with hat
    injection hat with _ hat
    subst hat
    exact hK
  | some x =>
    rw [hml] at hat hK
    injection hat with hat
    injection hat with _ hat
    subst hat
    exact hK
/-- m[key], at the operation -/
theorem wpList_look (hg : o.guard = none) (mo xo : Operand) (t : TypeId) (hop : o.op = Op.lookup t mo xo false) (k e : TypeId) (K : Keyed P k) (ht : P.underlying t = some (.map k e)) (he : P.underlying e = some (.int .i64)) (hz : (zeroValue e).run P w = .ok (.int .i64 0) w)
    (b n : Nat) (m : Lit → Option Int) (hm : a.eval mo = .map (some b)) (h : MapIs P w k e b m n) (key : Value) (kl : Lit) (hx : a.eval xo = key) (hkey : keyOf P k key = some kl)
    (hK : wpList P ops Q rest (a.put o.dst (.int .i64 ((m kl).getD 0))) w) : wpList P ops Q (o :: rest) a w := by
  obtain ⟨D, h1, h2, h3⟩ := h
  refine wpList_lookup_own_int w hg mo xo t hop k e .i64 K ht he hz b n D hm h1 key kl hx hkey fun c hat _ => ?_
  rw [h3] at hat
  cases hml : m kl with
  | none =>
    rw [hml] at hat hK
    injection hat with hat
    injection hat with _ hat
    subst hat
    exact hK
  | some x =>
    rw [hml] at hat hK
    injection hat with hat
    injection hat with _ hat
    subst hat
    exact hK
/-- len(m), at the operation -/
theorem wpList_lenM (hg : o.guard = none) (mo : Operand) (t : TypeId) (hop : o.op = Op.call { callee := Callee.builtin Builtin.len, args := #[mo], argTypes := #[t] }) (k e : TypeId) (ht : P.underlying t = some (.map k e)) (b n : Nat) (m : Lit → Option Int) (hm : a.eval mo = .map (some b)) (h : MapIs P w k e b m n)
    (hK : wpList P ops Q rest (a.put o.dst (.int .i64 n)) w) : wpList P ops Q (o :: rest) a w := by
  obtain ⟨D, h1, h2, h3⟩ := h
  refine wpList_len_own w hg mo t hop k e ht _ b n D hm h1 ?_
  rw [h2]
  exact hK
end
theorem MapIs.run_len {P : Program} {w : World} {k e b n : Nat} {m : Lit → Option Int} (h : MapIs P w k e b m n) {t : TypeId} (ht : P.underlying t = some (.map k e)) (ty : TypeId) : (Builtin.len_ #[t] ty #[.map (some b)]).run P w = .ok (.int .i64 n) w := by
  obtain ⟨D, h1, h2, h3⟩ := h
  rw [h1.len ht ty, h2]
end Go.Proofs.Ytbjfbmienlojkaa
