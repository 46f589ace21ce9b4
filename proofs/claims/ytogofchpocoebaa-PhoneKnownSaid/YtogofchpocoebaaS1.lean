/- A []Phone argument, opened: it reads as a list of phones; the bound that memory sets on it. -/
import Derived.Test.YtogofchpocoebaaQ6
import Derived.Test.YtogofchpocoebaaGen
import Derived.Deep.Slices
import Derived.Deep.Fields
import Derived.Deep.Strs
import Derived.Lib.SmallJoins
import Derived.ChangeSame
import Derived.ProofKit
import Derived.OpenShut
import Derived.SizedLaws
namespace Go.Proofs.Ytogofchpocoebaa
open Go.Joins Go.ChangeShapes Go.WideShapes Go.RowKit Go.Deep

section
variable {H : Type} {enc : TypeId × Value → H} {w : World} {base : Nat} {held : Bool}

set_option maxRecDepth 100000 in
theorem open_phs {fuel : Nat} {cs : List Value} {x : DataW H × List MemPlace} {t : TypeId} (ht : Try.prog.underlying t = some (.slice 43)) (h : DataW.trod enc Try.prog w base (fun _ => true) held fuel t cs = some x) :
    ∃ (A : Option Addr) (n c : Nat) (ls : List Ph), cs = [.slice A n c] ∧ n ≤ c ∧ c ≤ maxLen ∧ Rd w 0 w.heap.size 3 A n (phs ls) ∧ ∀ z ∈ ls, fitP z := by
  rcases open_slice ht h with ⟨rfl, _⟩ | ⟨a, len, cap, m, n, D, Pl, rfl, hb, hl, hm, hmm, hx, hi⟩
  · exact ⟨none, 0, 0, [], rfl, Nat.le_refl _, by decide, Rd.nil, by simp⟩
  · have hc2 : Try.prog.cellsOf 43 = 3 := by kernel_rfl
    have hmc : m = cap := by simpa using hmm
    have key : ∀ i, i < len → ∃ z : Ph, w.cell? (a.add (i * 3)) = some (.int .i32 z.1) ∧ w.cell? ((a.add (i * 3)).add 1) = some (.bool z.2.1) ∧ w.cell? ((a.add (i * 3)).add 2) = some (.int .i32 z.2.2) ∧ fitP z := by
      intro i hil
      obtain ⟨cs', hc, ht'⟩ := hi i (by omega)
      rw [hc2] at hc
      obtain ⟨_, hcl, hat⟩ := World.cells?_some hc
      obtain ⟨y0, y1, y2, n', _, _, g0, g1, g2⟩ := trod_struct3 Try.underlying43 ht'
      match cs', hcl with
      | [u0, u1, u2], _ =>
        have c1 : Try.prog.cellsOf 21 = 1 := by kernel_rfl
        have c4 : Try.prog.cellsOf 4 = 1 := by kernel_rfl
        simp [c1, c4] at g0 g1 g2
        obtain ⟨z0, e0, _, w0⟩ := DataW.trod_int Try.underlying21 g0
        obtain ⟨z1, e1, _⟩ := DataW.trod_bool Try.underlying4 g1
        obtain ⟨z2, e2, _, w2⟩ := DataW.trod_int Try.underlying21 g2
        have a0 := hat 0 (by omega)
        have a1 := hat 1 (by omega)
        have a2 := hat 2 (by omega)
        simp at e0 e1 e2
        subst e0 e1 e2
        simp only [Lit.wf, Bool.and_eq_true, decide_eq_true_eq] at w0 w2
        exact ⟨(z0, z1, z2), by simpa [Addr.add] using a0, by simpa using a1, by simpa using a2, w0, w2⟩
    obtain ⟨ls, hls, hq⟩ := cells_list len key
    refine ⟨some a, len, cap, ls, rfl, hl, hm, ⟨by rw [phs_len, hls], fun hn => ?_⟩, ?_⟩
    · obtain ⟨z, hz, _⟩ := key 0 hn
      have hs : a.spot = none := World.cell?_spot (by simpa [Addr.add] using hz)
      have hlt := cell_lt hz
      refine ⟨a.block, a.off, ?_, Nat.zero_le _, by rwa [add_none _ _ hs] at hlt, fun j u hu => ?_⟩
      · obtain ⟨b, o, s⟩ := a
        simp at hs
        subst hs
        rfl
      · have hj : j < (phs ls).length := (List.getElem?_eq_some_iff.1 hu).1
        rw [phs_len] at hj
        have hk : j / 3 < ls.length := by omega
        have hm3 : j % 3 < 3 := Nat.mod_lt _ (by omega)
        have hp := flat_at phC 3 phC_len ls (j / 3) hk (j % 3) hm3
        rw [show j / 3 * 3 + j % 3 = j by omega] at hp
        obtain ⟨q1, q2, q3, _⟩ := hq (j / 3) _ (List.getElem?_eq_getElem hk)
        rw [add_none _ _ hs] at q1 q2 q3
        rw [add_none _ _ rfl] at q2 q3
        have hp' : (phs ls)[j]? = (phC ls[j / 3])[j % 3]? := hp
        rw [hp'] at hu
        have ej : a.off + j = a.off + j / 3 * 3 + j % 3 := by omega
        rw [ej]
        have h3 : j % 3 = 0 ∨ j % 3 = 1 ∨ j % 3 = 2 := by omega
        rcases h3 with h3 | h3 | h3
        · rw [h3] at hu ⊢
          simp [phC] at hu
          subst hu
          exact q1
        · rw [h3] at hu ⊢
          simp [phC] at hu
          subst hu
          exact q2
        · rw [h3] at hu ⊢
          simp [phC] at hu
          subst hu
          exact q3
    · intro z hz
      obtain ⟨i, hi', e⟩ := List.getElem_of_mem hz
      exact (hq i z (by rw [List.getElem?_eq_getElem hi', e])).2.2.2

theorem sized_trod {fuel : Nat} {A : Option Addr} {n c : Nat} {x : DataW H × List MemPlace} {t e : TypeId} (ht : Try.prog.underlying t = some (.slice e)) (h : DataW.trod enc Try.prog w base (fun _ => true) held fuel t [.slice A n c] = some x)
    (hsz : (x.1.weights Try.prog t).all (· ≤ reachBytes) = true) : c * Try.prog.bytesOf e ≤ reachBytes := by
  rcases open_slice ht h with ⟨e1, rfl⟩ | ⟨a, len, cap, m, k, D, Pl, e1, hb, hl, hm, hmm, rfl, hi⟩
  · simp at e1
    obtain ⟨_, _, rfl⟩ := e1
    simp
  · simp at e1
    obtain ⟨_, rfl, rfl⟩ := e1
    have hmc : m = c := by simpa using hmm
    subst hmc
    have := List.all_eq_true.1 hsz ((((List.range n).map D).length + ((List.range (m - n)).map fun j => D (n + j)).length) * Try.prog.bytesOf e) (by simp [DataW.weights, ht])
    simp only [List.length_map, List.length_range, decide_eq_true_eq] at this
    rw [show n + (m - n) = m by omega] at this
    exact this

/-- what is known of a list of phones from outside -/
structure PhonesIn (w : World) (v : Value) (ls : List Ph) : Prop where
  form : ∃ A n c, v = .slice A n c ∧ n ≤ c ∧ c * 12 ≤ 140737488351232 ∧ Rd w 0 w.heap.size 3 A n (phs ls)
  fits : ∀ z ∈ ls, fitP z
set_option maxRecDepth 100000 in
theorem open_phones {r : Reach} {b0 : Nat} {v : Value} {d : DataW H} {ps : List MemPlace} {ts : List TypeId} {ds : List (DataW H)} {j : Nat} (hval : Value.okWide Try.prog w r b0 22 v) (hd : DataW.Trod enc Try.prog w base (fun _ => true) held 22 v d ps)
    (hsz : (DataW.weightsEach Try.prog ts ds).all (· ≤ reachBytes) = true) (ht : ts[j]? = some 22) (hds : ds[j]? = some d) : ∃ ls, PhonesIn w v ls := by
  obtain ⟨a0, len, cap, rfl⟩ := okWide_slice Try.underlying22 hval
  obtain ⟨fuel, hf⟩ := hd
  obtain ⟨A, n, c, ls, e1, k1, m1, r1, f1⟩ := open_phs Try.underlying22 hf
  simp [Value.cells] at e1
  obtain ⟨rfl, rfl, rfl⟩ := e1
  have hs0 : (d.weights Try.prog 22).all (· ≤ reachBytes) = true := by
    rw [List.all_eq_true]
    intro z hz
    have := List.all_eq_true.1 hsz _ (DataW.weights_mem_each ht hds z hz)
    simpa using this
  have z0 := sized_trod Try.underlying22 (x := (d, ps)) (A := a0) (n := len) (c := cap) (by simpa [Value.cells] using hf) hs0
  have b0 : Try.prog.bytesOf 43 = 12 := by kernel_rfl
  rw [b0] at z0
  exact ⟨ls, ⟨a0, len, cap, rfl, k1, by simp only [reachBytes] at z0; omega, r1⟩, f1⟩
end
end Go.Proofs.Ytogofchpocoebaa
