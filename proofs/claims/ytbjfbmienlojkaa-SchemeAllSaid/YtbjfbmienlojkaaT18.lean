/- A scheme that came from outside, opened: two slices that read as lists.
   A Scheme argument opened, with the bound that memory sets on its lists. -/
import Derived.Test.YtbjfbmienlojkaaT12
import Derived.Deep.Slices
import Derived.Deep.Fields
import Derived.Lib.SmallJoins
import Derived.ChangeSame
import Derived.ProofKit
import Derived.OpenShut
import Derived.SizedLaws
namespace Go.Proofs.Ytbjfbmienlojkaa
open Go.Joins Go.ChangeShapes Go.WideShapes Go.RowKit Go.Deep

def fit64 (x : Int) : Prop := -9223372036854775808 ≤ x ∧ x < 9223372036854775808
theorem wf64 {x : Int} (h : (Lit.int .i64 x).wf = true) : fit64 x := by
  simp only [Lit.wf, Bool.and_eq_true, decide_eq_true_eq] at h
  have h1 : IntKind.i64.min = -9223372036854775808 := by decide
  have h2 : IntKind.i64.max = 9223372036854775807 := by decide
  rw [h1, h2] at h
  unfold fit64
  omega

section
variable {H : Type} {enc : TypeId × Value → H} {w : World} {base : Nat} {held : Bool}

/-- a list of readings, made of what each place reads as -/
theorem cells_list {α : Type} {Q : Nat → α → Prop} (n : Nat) (h : ∀ i, i < n → ∃ x, Q i x) : ∃ l : List α, l.length = n ∧ ∀ i x, l[i]? = some x → Q i x := by
  induction n with
  | zero => exact ⟨[], rfl, by simp⟩
  | succ n ih =>
    obtain ⟨l, hl, hq⟩ := ih fun i hi => h i (by omega)
    obtain ⟨x, hx⟩ := h n (by omega)
    refine ⟨l ++ [x], by simp [hl], fun i y hy => ?_⟩
    rcases Nat.lt_or_ge i n with hi | hi
    · rw [List.getElem?_append_left (by omega)] at hy
      exact hq i y hy
    · rw [List.getElem?_append_right (by omega)] at hy
      have : i = n := by
        rcases Nat.lt_or_ge (i - l.length) 1 with h1 | h1
        · omega
        · rw [List.getElem?_eq_none (by simpa using h1)] at hy; cases hy
      subst this
      rw [show i - l.length = 0 by omega] at hy
      simp at hy
      subst hy
      exact hx

theorem cell_lt {w : World} {a : Addr} {v : Value} (h : w.cell? a = some v) : a.block < w.heap.size := by
  rcases Nat.lt_or_ge a.block w.heap.size with hl | hg
  · exact hl
  · simp [World.cell?, Array.getElem?_eq_none hg] at h
theorem add_none (a : Addr) (i : Nat) (h : a.spot = none) : a.add i = ⟨a.block, a.off + i, none⟩ := by
  obtain ⟨b, o, s⟩ := a
  simp at h
  subst h
  unfold Addr.add
  split <;> simp_all

set_option maxRecDepth 100000 in
theorem open_list {fuel : Nat} {cs : List Value} {x : DataW H × List MemPlace} {t : TypeId} (ht : Try.prog.underlying t = some (.slice 3)) (h : DataW.trod enc Try.prog w base (fun _ => true) held fuel t cs = some x) :
    ∃ (A : Option Addr) (n c : Nat) (st : List Int), cs = [.slice A n c] ∧ n ≤ c ∧ c ≤ maxLen ∧ Rd w 0 w.heap.size 1 A n (st.map (Value.int .i64)) ∧ ∀ z ∈ st, fit64 z := by
  rcases open_slice ht h with ⟨rfl, _⟩ | ⟨a, len, cap, m, n, D, Pl, rfl, hb, hl, hm, hmm, hx, hi⟩
  · exact ⟨none, 0, 0, [], rfl, Nat.le_refl _, by decide, Rd.nil, by simp⟩
  · have hc1 : Try.prog.cellsOf 3 = 1 := by kernel_rfl
    have hmc : m = cap := by simpa using hmm
    have hu3 : Try.prog.underlying 3 = some (.int .i64) := Try.underlying3
    have key : ∀ i, i < len → ∃ z : Int, w.cell? (a.add i) = some (.int .i64 z) ∧ fit64 z := by
      intro i hil
      obtain ⟨cs', hc, ht'⟩ := hi i (by omega)
      rw [hc1, Nat.mul_one] at hc
      obtain ⟨z, rfl, _, hw⟩ := DataW.trod_int hu3 ht'
      obtain ⟨_, hcl, hat⟩ := World.cells?_some hc
      have := hat 0 (by omega)
      simp [Addr.add] at this
      exact ⟨z, by simpa [Addr.add] using this, wf64 hw⟩
    obtain ⟨st, hst, hq⟩ := cells_list len key
    refine ⟨some a, len, cap, st, rfl, hl, hm, ⟨by simp [hst], fun hn => ?_⟩, ?_⟩
    · obtain ⟨z, hz, _⟩ := key 0 hn
      have hs : a.spot = none := World.cell?_spot (by simpa [Addr.add] using hz)
      have hlt := cell_lt hz
      refine ⟨a.block, a.off, ?_, Nat.zero_le _, by rwa [add_none _ _ hs] at hlt, fun j u hu => ?_⟩
      · obtain ⟨b, o, s⟩ := a
        simp at hs
        subst hs
        rfl
      · rw [List.getElem?_map] at hu
        cases hj : st[j]? with
        | none => rw [hj] at hu; cases hu
        | some z =>
          rw [hj] at hu
          cases hu
          have := (hq j z hj).1
          rwa [add_none _ _ hs] at this
    · intro z hz
      obtain ⟨i, hi', e⟩ := List.getElem_of_mem hz
      exact (hq i z (by rw [List.getElem?_eq_getElem hi', e])).2

set_option maxRecDepth 100000 in
theorem open_pairs {fuel : Nat} {cs : List Value} {x : DataW H × List MemPlace} {t : TypeId} (ht : Try.prog.underlying t = some (.slice 66)) (h : DataW.trod enc Try.prog w base (fun _ => true) held fuel t cs = some x) :
    ∃ (A : Option Addr) (n c : Nat) (ls : List (Int × Int)), cs = [.slice A n c] ∧ n ≤ c ∧ c ≤ maxLen ∧ Rd w 0 w.heap.size 2 A n (prs ls) ∧ ∀ z ∈ ls, fit64 z.1 ∧ fit64 z.2 := by
  rcases open_slice ht h with ⟨rfl, _⟩ | ⟨a, len, cap, m, n, D, Pl, rfl, hb, hl, hm, hmm, hx, hi⟩
  · exact ⟨none, 0, 0, [], rfl, Nat.le_refl _, by decide, Rd.nil, by simp⟩
  · have hc2 : Try.prog.cellsOf 66 = 2 := by kernel_rfl
    have hmc : m = cap := by simpa using hmm
    have hu3 : Try.prog.underlying 3 = some (.int .i64) := Try.underlying3
    have key : ∀ i, i < len → ∃ z : Int × Int, w.cell? (a.add (i * 2)) = some (.int .i64 z.1) ∧ w.cell? ((a.add (i * 2)).add 1) = some (.int .i64 z.2) ∧ fit64 z.1 ∧ fit64 z.2 := by
      intro i hil
      obtain ⟨cs', hc, ht'⟩ := hi i (by omega)
      rw [hc2] at hc
      obtain ⟨_, hcl, hat⟩ := World.cells?_some hc
      obtain ⟨y0, y1, n', _, _, g0, g1⟩ := trod_struct2 Try.underlying66 ht'
      match cs', hcl with
      | [u0, u1], _ =>
        have c1 : Try.prog.cellsOf 3 = 1 := by kernel_rfl
        simp [c1] at g0 g1
        obtain ⟨z0, e0, _, w0⟩ := DataW.trod_int hu3 g0
        obtain ⟨z1, e1, _, w1⟩ := DataW.trod_int hu3 g1
        have a0 := hat 0 (by omega)
        have a1 := hat 1 (by omega)
        simp at e0 e1
        subst e0 e1
        exact ⟨(z0, z1), by simpa [Addr.add] using a0, by simpa using a1, wf64 w0, wf64 w1⟩
    obtain ⟨ls, hls, hq⟩ := cells_list len key
    refine ⟨some a, len, cap, ls, rfl, hl, hm, ⟨by rw [prs_len, hls], fun hn => ?_⟩, ?_⟩
    · obtain ⟨z, hz, _⟩ := key 0 hn
      have hs : a.spot = none := World.cell?_spot (by simpa [Addr.add] using hz)
      have hlt := cell_lt hz
      refine ⟨a.block, a.off, ?_, Nat.zero_le _, by rwa [add_none _ _ hs] at hlt, fun j u hu => ?_⟩
      · obtain ⟨b, o, s⟩ := a
        simp at hs
        subst hs
        rfl
      · have hj : j < (prs ls).length := (List.getElem?_eq_some_iff.1 hu).1
        rw [prs_len] at hj
        have hk : j / 2 < ls.length := by omega
        obtain ⟨p1, p2⟩ := prs_at ls (j / 2) hk
        obtain ⟨q1, q2, _⟩ := hq (j / 2) _ (List.getElem?_eq_getElem hk)
        rw [add_none _ _ hs] at q1 q2
        rcases Nat.mod_two_eq_zero_or_one j with hm2 | hm2
        · rw [show j / 2 * 2 = j by omega] at p1 q1
          rw [p1] at hu
          cases hu
          exact q1
        · rw [show j / 2 * 2 + 1 = j by omega] at p2
          rw [p2] at hu
          cases hu
          rw [add_none _ _ rfl] at q2
          simpa [show a.off + j / 2 * 2 + 1 = a.off + j by omega] using q2
    · intro z hz
      obtain ⟨i, hi', e⟩ := List.getElem_of_mem hz
      exact (hq i z (by rw [List.getElem?_eq_getElem hi', e])).2.2

/-- what is known of a scheme from outside -/
structure SchemeIn (w : World) (v : Value) (ls : List (Int × Int)) (st : List Int) : Prop where
  form : ∃ A1 n1 c1 A2 n2 c2, v = .agg #[.slice A1 n1 c1, .slice A2 n2 c2] ∧ n1 ≤ c1 ∧ c1 ≤ maxLen ∧ n2 ≤ c2 ∧ c2 ≤ maxLen ∧ Rd w 0 w.heap.size 2 A1 n1 (prs ls) ∧ Rd w 0 w.heap.size 1 A2 n2 (st.map (Value.int .i64))
  fits1 : ∀ z ∈ ls, fit64 z.1 ∧ fit64 z.2
  fits2 : ∀ z ∈ st, fit64 z

set_option maxRecDepth 100000 in
theorem open_scheme {r : Reach} {b0 : Nat} {v : Value} {d : DataW H} {ps : List MemPlace} (hval : Value.okWide Try.prog w r b0 26 v) (hd : DataW.Trod enc Try.prog w base (fun _ => true) held 26 v d ps) :
    ∃ ls st, SchemeIn w v ls st := by
  obtain ⟨v0, v1, y0, y1, n, rfl, _, _, g0, g1⟩ := open_agg2 Try.underlying26 (by kernel_rfl) (by kernel_rfl) hval hd
  obtain ⟨A1, n1, c1, ls, e1, k1, m1, r1, f1⟩ := open_pairs Try.underlying23 g0
  obtain ⟨A2, n2, c2, st, e2, k2, m2, r2, f2⟩ := open_list Try.underlying24 g1
  simp at e1 e2
  subst e1 e2
  exact ⟨ls, st, ⟨A1, n1, c1, A2, n2, c2, rfl, k1, m1, k2, m2, r1, r2⟩, f1, f2⟩
end
end Go.Proofs.Ytbjfbmienlojkaa

namespace Go.Proofs.Ytbjfbmienlojkaa
open Go.Joins Go.ChangeShapes Go.WideShapes Go.RowKit Go.Deep

/-- what is known of a scheme from outside, with its lists' bounds -/
structure SchemeBig (w : World) (v : Value) (ls : List (Int × Int)) (st : List Int) : Prop where
  form : ∃ A1 n1 c1 A2 n2 c2, v = .agg #[.slice A1 n1 c1, .slice A2 n2 c2] ∧ n1 ≤ c1 ∧ c1 * 16 ≤ 140737488351232 ∧ n2 ≤ c2 ∧ c2 * 8 ≤ 140737488351232 ∧ Rd w 0 w.heap.size 2 A1 n1 (prs ls) ∧ Rd w 0 w.heap.size 1 A2 n2 (st.map (Value.int .i64))
  fits1 : ∀ z ∈ ls, fit64 z.1 ∧ fit64 z.2
  fits2 : ∀ z ∈ st, fit64 z

section
variable {H : Type} {enc : TypeId × Value → H} {w : World} {base : Nat} {held : Bool}
theorem sized_trod {fuel : Nat} {A : Option Addr} {n c : Nat} {x : DataW H × List MemPlace} {t e : TypeId} (ht : Try.prog.underlying t = some (.slice e)) (h : DataW.trod enc Try.prog w base (fun _ => true) held fuel t [.slice A n c] = some x)
    (hsz : (x.1.weights Try.prog t).all (· ≤ reachBytes) = true) : c * Try.prog.bytesOf e ≤ reachBytes := by
  rcases open_slice ht h with ⟨e1, rfl⟩ | ⟨a, len, cap, m, k, D, Pl, e1, hb, hl, hm, hmm, rfl, hi⟩
  · simp at e1
    obtain ⟨_, _, rfl⟩ := e1
    simp
  · simp at e1
    obtain ⟨_, rfl, rfl⟩ := e1
    have hmc : m = c := by simpa using hmm
    subst hmc
    have := List.all_eq_true.1 hsz ((((List.range n).map D).length + ((List.range (m - n)).map fun j => D (n + j)).length) * Try.prog.bytesOf e) (by simp [DataW.weights, ht])
    simp only [List.length_map, List.length_range, decide_eq_true_eq] at this
    rw [show n + (m - n) = m by omega] at this
    exact this

set_option maxRecDepth 100000 in
theorem open_scheme_big {r : Reach} {b0 : Nat} {v : Value} {d : DataW H} {ps : List MemPlace} {ts : List TypeId} {ds : List (DataW H)} {j : Nat} (hval : Value.okWide Try.prog w r b0 26 v) (hd : DataW.Trod enc Try.prog w base (fun _ => true) held 26 v d ps)
    (hsz : (DataW.weightsEach Try.prog ts ds).all (· ≤ reachBytes) = true) (ht : ts[j]? = some 26) (hds : ds[j]? = some d) : ∃ ls st, SchemeBig w v ls st := by
  obtain ⟨v0, v1, y0, y1, n, rfl, rfl, _, g0, g1⟩ := open_agg2 Try.underlying26 (by kernel_rfl) (by kernel_rfl) hval hd
  obtain ⟨A1, n1, c1, ls, e1, k1, m1, r1, f1⟩ := open_pairs Try.underlying23 g0
  obtain ⟨A2, n2, c2, st, e2, k2, m2, r2, f2⟩ := open_list Try.underlying24 g1
  simp at e1 e2
  subst e1 e2
  have hw : ∀ z, z ∈ DataW.weights Try.prog 26 (.agg [y0.1, y1.1]) → z ≤ reachBytes := fun z hz => by
    have := List.all_eq_true.1 hsz _ (DataW.weights_mem_each ht hds z hz)
    simpa using this
  have hu := Try.underlying26
  have hs0 : (y0.1.weights Try.prog 23).all (· ≤ reachBytes) = true := by
    rw [List.all_eq_true]
    intro z hz
    have := hw z (by simp only [DataW.weights, hu]; simp [DataW.weightsEach]; exact .inl hz)
    simpa using this
  have hs1 : (y1.1.weights Try.prog 24).all (· ≤ reachBytes) = true := by
    rw [List.all_eq_true]
    intro z hz
    have := hw z (by simp only [DataW.weights, hu]; simp [DataW.weightsEach]; exact .inr hz)
    simpa using this
  have z0 := sized_trod Try.underlying23 g0 hs0
  have z1 := sized_trod Try.underlying24 g1 hs1
  have b0 : Try.prog.bytesOf 66 = 16 := by kernel_rfl
  have b1 : Try.prog.bytesOf 3 = 8 := by kernel_rfl
  rw [b0] at z0
  rw [b1] at z1
  exact ⟨ls, st, ⟨A1, n1, c1, A2, n2, c2, rfl, k1, by simp only [reachBytes] at z0; omega, k2, by simp only [reachBytes] at z1; omega, r1, r2⟩, f1, f2⟩
end
end Go.Proofs.Ytbjfbmienlojkaa
