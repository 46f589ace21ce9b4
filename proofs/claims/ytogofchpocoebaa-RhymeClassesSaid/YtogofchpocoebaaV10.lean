/- A []Said argument, opened. -/
import Derived.Test.YtogofchpocoebaaY18
import Derived.Test.YtogofchpocoebaaV7
namespace Go.Proofs.Ytogofchpocoebaa
open Go.Joins Go.ChangeShapes Go.WideShapes Go.RowKit Go.Deep

section
variable {H : Type} {enc : TypeId × Value → H} {w : World} {base : Nat} {held : Bool}

theorem trod_struct2 {P : Program} {spare : Nat → Bool} {t : TypeId} {f0 f1 : Field} {fuel : Nat} {cs : List Value} {x : DataW H × List MemPlace} (ht : P.underlying t = some (.struct #[f0, f1])) (h : DataW.trod enc P w base spare held fuel t cs = some x) :
    ∃ y0 y1 n, x = (.agg [y0.1, y1.1], y0.2 ++ y1.2) ∧ cs.length = P.cellsOf t ∧ DataW.trod enc P w base spare held n f0.type ((cs.drop f0.offset).take (P.cellsOf f0.type)) = some y0 ∧
      DataW.trod enc P w base spare held n f1.type ((cs.drop f1.offset).take (P.cellsOf f1.type)) = some y1 := by
  obtain ⟨xs, n, _, rfl, hl, hlen, hf⟩ := DataW.trod_struct ht h
  match xs, hlen with
  | [y0, y1], _ => exact ⟨y0, y1, n, by simp, hl, by simpa using hf 0 f0 rfl, by simpa using hf 1 f1 rfl⟩

set_option maxRecDepth 100000 in
theorem open_sds {fuel : Nat} {cs : List Value} {x : DataW H × List MemPlace} {t : TypeId} (ht : Try.prog.underlying t = some (.slice 25)) (h : DataW.trod enc Try.prog w base (fun _ => true) held fuel t cs = some x) :
    ∃ (A : Option Addr) (n c : Nat) (ls : List Sd), cs = [.slice A n c] ∧ n ≤ c ∧ c ≤ maxLen ∧ SdsIn w w.heap.size A n ls := by
  rcases open_slice ht h with ⟨rfl, _⟩ | ⟨a, len, cap, m, n, D, Pl, rfl, hb, hl, hm, hmm, hx, hi⟩
  · exact ⟨none, 0, 0, [], rfl, Nat.le_refl _, by decide, ⟨Rd.nil, fun x hx => by simp at hx⟩⟩
  · have hc2 : Try.prog.cellsOf 25 = 2 := by kernel_rfl
    have hmc : m = cap := by simpa using hmm
    have key : ∀ i, i < len → ∃ z : Sd, w.cell? (a.add (i * 2)) = some (.slice z.A z.n z.c) ∧ w.cell? ((a.add (i * 2)).add 1) = some (.slice z.D z.m z.d) ∧ SdIn w w.heap.size z := by
      intro i hil
      obtain ⟨cs', hc, ht'⟩ := hi i (by omega)
      rw [hc2] at hc
      obtain ⟨_, hcl, hat⟩ := World.cells?_some hc
      obtain ⟨y0, y1, n', _, _, g0, g1⟩ := trod_struct2 Try.underlying25 ht'
      match cs', hcl with
      | [u0, u1], _ =>
        have c22 : Try.prog.cellsOf 22 = 1 := by kernel_rfl
        have c23 : Try.prog.cellsOf 23 = 1 := by kernel_rfl
        simp [c22, c23] at g0 g1
        obtain ⟨A1, n1, c1, ls, e1, k1, m1, r1, f1⟩ := open_phs Try.underlying22 g0
        obtain ⟨A2, n2, c2, st, e2, k2, m2, r2⟩ := open_sys Try.underlying23 g1
        have a0 := hat 0 (by omega)
        have a1 := hat 1 (by omega)
        simp at e1 e2
        subst e1 e2
        exact ⟨⟨A1, n1, c1, A2, n2, c2, ls, st⟩, by simpa [Addr.add] using a0, by simpa using a1, ⟨r1, r2, f1, k1⟩⟩
    obtain ⟨ls, hls, hq⟩ := cells_list len key
    refine ⟨some a, len, cap, ls, rfl, hl, hm, ⟨⟨by rw [flat_len sdC 2 sdC_len, hls], fun hn => ?_⟩, fun z hz => ?_⟩⟩
    · obtain ⟨z, hz, _⟩ := key 0 hn
      have hs : a.spot = none := World.cell?_spot (by simpa [Addr.add] using hz)
      have hlt := cell_lt hz
      refine ⟨a.block, a.off, ?_, Nat.zero_le _, by rwa [add_none _ _ hs] at hlt, fun j u hu => ?_⟩
      · obtain ⟨b, o, s⟩ := a
        simp at hs
        subst hs
        rfl
      · have hj : j < (ls.flatMap sdC).length := (List.getElem?_eq_some_iff.1 hu).1
        rw [flat_len sdC 2 sdC_len] at hj
        have hk : j / 2 < ls.length := by omega
        have hm3 : j % 2 < 2 := Nat.mod_lt _ (by omega)
        have hp := flat_at sdC 2 sdC_len ls (j / 2) hk (j % 2) hm3
        rw [show j / 2 * 2 + j % 2 = j by omega] at hp
        obtain ⟨q1, q2, _⟩ := hq (j / 2) _ (List.getElem?_eq_getElem hk)
        rw [add_none _ _ hs] at q1 q2
        rw [add_none _ _ rfl] at q2
        rw [hp] at hu
        have ej : a.off + j = a.off + j / 2 * 2 + j % 2 := by omega
        rw [ej]
        have h5 : j % 2 = 0 ∨ j % 2 = 1 := by omega
        rcases h5 with h5 | h5 <;> rw [h5] at hu ⊢ <;> simp [sdC] at hu <;> subst hu
        · exact q1
        · exact q2
    · obtain ⟨i, hi', e⟩ := List.getElem_of_mem hz
      exact (hq i z (by rw [List.getElem?_eq_getElem hi', e])).2.2

set_option maxRecDepth 100000 in
theorem open_saids {r : Reach} {b0 : Nat} {v : Value} {d : DataW H} {ps : List MemPlace} (hval : Value.okWide Try.prog w r b0 102 v) (hd : DataW.Trod enc Try.prog w base (fun _ => true) held 102 v d ps) :
    ∃ (A : Option Addr) (n c : Nat) (xs : List Sd), v = .slice A n c ∧ SdsIn w w.heap.size A n xs ∧ n ≤ maxLen := by
  obtain ⟨a0, len, cap, rfl⟩ := okWide_slice Try.underlying102 hval
  obtain ⟨fuel, hf⟩ := hd
  obtain ⟨A, n, c, ls, e1, k1, m1, r1⟩ := open_sds Try.underlying102 hf
  simp [Value.cells] at e1
  obtain ⟨rfl, rfl, rfl⟩ := e1
  exact ⟨a0, len, cap, ls, rfl, r1, Nat.le_trans k1 m1⟩
end
end Go.Proofs.Ytogofchpocoebaa
