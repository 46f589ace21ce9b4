/- A Said argument, opened. -/
import Derived.Test.YtogofchpocoebaaS1
import Derived.Test.YtogofchpocoebaaY5
namespace Go.Proofs.Ytogofchpocoebaa
open Go.Joins Go.ChangeShapes Go.WideShapes Go.RowKit Go.Deep

section
variable {H : Type} {enc : TypeId × Value → H} {w : World} {base : Nat} {held : Bool}

theorem trod_struct5 {P : Program} {spare : Nat → Bool} {t : TypeId} {f0 f1 f2 f3 f4 : Field} {fuel : Nat} {cs : List Value} {x : DataW H × List MemPlace} (ht : P.underlying t = some (.struct #[f0, f1, f2, f3, f4])) (h : DataW.trod enc P w base spare held fuel t cs = some x) :
    ∃ y0 y1 y2 y3 y4 n, x = (.agg [y0.1, y1.1, y2.1, y3.1, y4.1], y0.2 ++ (y1.2 ++ (y2.2 ++ (y3.2 ++ y4.2)))) ∧ cs.length = P.cellsOf t ∧ DataW.trod enc P w base spare held n f0.type ((cs.drop f0.offset).take (P.cellsOf f0.type)) = some y0 ∧
      DataW.trod enc P w base spare held n f1.type ((cs.drop f1.offset).take (P.cellsOf f1.type)) = some y1 ∧ DataW.trod enc P w base spare held n f2.type ((cs.drop f2.offset).take (P.cellsOf f2.type)) = some y2 ∧
      DataW.trod enc P w base spare held n f3.type ((cs.drop f3.offset).take (P.cellsOf f3.type)) = some y3 ∧ DataW.trod enc P w base spare held n f4.type ((cs.drop f4.offset).take (P.cellsOf f4.type)) = some y4 := by
  obtain ⟨xs, n, _, rfl, hl, hlen, hf⟩ := DataW.trod_struct ht h
  match xs, hlen with
  | [y0, y1, y2, y3, y4], _ => exact ⟨y0, y1, y2, y3, y4, n, by simp, hl, by simpa using hf 0 f0 rfl, by simpa using hf 1 f1 rfl, by simpa using hf 2 f2 rfl, by simpa using hf 3 f3 rfl, by simpa using hf 4 f4 rfl⟩

set_option maxRecDepth 100000 in
theorem open_sys {fuel : Nat} {cs : List Value} {x : DataW H × List MemPlace} {t : TypeId} (ht : Try.prog.underlying t = some (.slice 37)) (h : DataW.trod enc Try.prog w base (fun _ => true) held fuel t cs = some x) :
    ∃ (A : Option Addr) (n c : Nat) (ls : List Sy), cs = [.slice A n c] ∧ n ≤ c ∧ c ≤ maxLen ∧ Rd w 0 w.heap.size 5 A n (sys ls) := by
  rcases open_slice ht h with ⟨rfl, _⟩ | ⟨a, len, cap, m, n, D, Pl, rfl, hb, hl, hm, hmm, hx, hi⟩
  · exact ⟨none, 0, 0, [], rfl, Nat.le_refl _, by decide, Rd.nil⟩
  · have hc2 : Try.prog.cellsOf 37 = 5 := by kernel_rfl
    have hmc : m = cap := by simpa using hmm
    have key : ∀ i, i < len → ∃ z : Sy, w.cell? (a.add (i * 5)) = some (.int .i64 z.fr) ∧ w.cell? ((a.add (i * 5)).add 1) = some (.int .i64 z.nu) ∧ w.cell? ((a.add (i * 5)).add 2) = some (.int .i64 z.to_) ∧ w.cell? ((a.add (i * 5)).add 3) = some (.int .i64 z.st) ∧ w.cell? ((a.add (i * 5)).add 4) = some (.bool z.hv) := by
      intro i hil
      obtain ⟨cs', hc, ht'⟩ := hi i (by omega)
      rw [hc2] at hc
      obtain ⟨_, hcl, hat⟩ := World.cells?_some hc
      obtain ⟨y0, y1, y2, y3, y4, n', _, _, g0, g1, g2, g3, g4⟩ := trod_struct5 Try.underlying37 ht'
      match cs', hcl with
      | [u0, u1, u2, u3, u4], _ =>
        have c1 : Try.prog.cellsOf 3 = 1 := by kernel_rfl
        have c4 : Try.prog.cellsOf 4 = 1 := by kernel_rfl
        simp [c1, c4] at g0 g1 g2 g3 g4
        obtain ⟨z0, e0, _, _⟩ := DataW.trod_int Try.underlying3 g0
        obtain ⟨z1, e1, _, _⟩ := DataW.trod_int Try.underlying3 g1
        obtain ⟨z2, e2, _, _⟩ := DataW.trod_int Try.underlying3 g2
        obtain ⟨z3, e3, _, _⟩ := DataW.trod_int Try.underlying3 g3
        obtain ⟨z4, e4, _⟩ := DataW.trod_bool Try.underlying4 g4
        have a0 := hat 0 (by omega)
        have a1 := hat 1 (by omega)
        have a2 := hat 2 (by omega)
        have a3 := hat 3 (by omega)
        have a4 := hat 4 (by omega)
        simp at e0 e1 e2 e3 e4
        subst e0 e1 e2 e3 e4
        have b0 : w.cell? (a.add (i * 5)) = some (.int .i64 z0) := by simpa [Addr.add] using a0
        have b1 : w.cell? ((a.add (i * 5)).add 1) = some (.int .i64 z1) := by simpa using a1
        have b2 : w.cell? ((a.add (i * 5)).add 2) = some (.int .i64 z2) := by simpa using a2
        have b3 : w.cell? ((a.add (i * 5)).add 3) = some (.int .i64 z3) := by simpa using a3
        have b4 : w.cell? ((a.add (i * 5)).add 4) = some (.bool z4) := by simpa using a4
        exact ⟨(z0, z1, z2, z3, z4), b0, b1, b2, b3, b4⟩
    obtain ⟨ls, hls, hq⟩ := cells_list len key
    refine ⟨some a, len, cap, ls, rfl, hl, hm, ⟨by rw [sys_len, hls], fun hn => ?_⟩⟩
    · obtain ⟨z, hz, _⟩ := key 0 hn
      have hs : a.spot = none := World.cell?_spot (by simpa [Addr.add] using hz)
      have hlt := cell_lt hz
      refine ⟨a.block, a.off, ?_, Nat.zero_le _, by rwa [add_none _ _ hs] at hlt, fun j u hu => ?_⟩
      · obtain ⟨b, o, s⟩ := a
        simp at hs
        subst hs
        rfl
      · have hj : j < (sys ls).length := (List.getElem?_eq_some_iff.1 hu).1
        rw [sys_len] at hj
        have hk : j / 5 < ls.length := by omega
        have hm3 : j % 5 < 5 := Nat.mod_lt _ (by omega)
        have hp := flat_at syC 5 syC_len ls (j / 5) hk (j % 5) hm3
        rw [show j / 5 * 5 + j % 5 = j by omega] at hp
        obtain ⟨q1, q2, q3, q4, q5⟩ := hq (j / 5) _ (List.getElem?_eq_getElem hk)
        rw [add_none _ _ hs] at q1 q2 q3 q4 q5
        rw [add_none _ _ rfl] at q2 q3 q4 q5
        have hp' : (sys ls)[j]? = (syC ls[j / 5])[j % 5]? := hp
        rw [hp'] at hu
        have ej : a.off + j = a.off + j / 5 * 5 + j % 5 := by omega
        rw [ej]
        have h5 : j % 5 = 0 ∨ j % 5 = 1 ∨ j % 5 = 2 ∨ j % 5 = 3 ∨ j % 5 = 4 := by omega
        rcases h5 with h5 | h5 | h5 | h5 | h5 <;> rw [h5] at hu ⊢ <;> simp [syC] at hu <;> subst hu
        · exact q1
        · exact q2
        · exact q3
        · exact q4
        · exact q5


set_option maxRecDepth 100000 in
theorem open_said {r : Reach} {b0 : Nat} {v : Value} {d : DataW H} {ps : List MemPlace} (hval : Value.okWide Try.prog w r b0 25 v) (hd : DataW.Trod enc Try.prog w base (fun _ => true) held 25 v d ps) :
    ∃ x : Sd, v = .agg #[.slice x.A x.n x.c, .slice x.D x.m x.d] ∧ SdIn w w.heap.size x := by
  obtain ⟨v0, v1, y0, y1, n, rfl, _, _, g0, g1⟩ := open_agg2 Try.underlying25 (by kernel_rfl) (by kernel_rfl) hval hd
  obtain ⟨A1, n1, c1, ls, e1, k1, m1, r1, f1⟩ := open_phs Try.underlying22 g0
  obtain ⟨A2, n2, c2, st, e2, k2, m2, r2⟩ := open_sys Try.underlying23 g1
  simp at e1 e2
  subst e1 e2
  exact ⟨⟨A1, n1, c1, A2, n2, c2, ls, st⟩, rfl, ⟨r1, r2, f1, k1⟩⟩
end
end Go.Proofs.Ytogofchpocoebaa
