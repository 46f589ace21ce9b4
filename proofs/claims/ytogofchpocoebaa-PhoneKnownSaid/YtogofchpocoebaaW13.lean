/- A []Syllable argument, a []int argument, opened: what they read as; the bound that memory sets on them. -/
import Derived.Test.YtogofchpocoebaaS1
import Derived.Test.YtogofchpocoebaaY0
namespace Go.Proofs.Ytogofchpocoebaa
open Go.Joins Go.ChangeShapes Go.WideShapes Go.RowKit Go.Deep

section
variable {H : Type} {enc : TypeId × Value → H} {w : World} {base : Nat} {held : Bool}

theorem trodFive {P : Program} {spare : Nat → Bool} {t : TypeId} {f0 f1 f2 f3 f4 : Field} {fuel : Nat} {cs : List Value} {x : DataW H × List MemPlace} (ht : P.underlying t = some (.struct #[f0, f1, f2, f3, f4])) (h : DataW.trod enc P w base spare held fuel t cs = some x) :
    ∃ y0 y1 y2 y3 y4 n, x = (.agg [y0.1, y1.1, y2.1, y3.1, y4.1], y0.2 ++ (y1.2 ++ (y2.2 ++ (y3.2 ++ y4.2)))) ∧ cs.length = P.cellsOf t ∧ DataW.trod enc P w base spare held n f0.type ((cs.drop f0.offset).take (P.cellsOf f0.type)) = some y0 ∧
      DataW.trod enc P w base spare held n f1.type ((cs.drop f1.offset).take (P.cellsOf f1.type)) = some y1 ∧ DataW.trod enc P w base spare held n f2.type ((cs.drop f2.offset).take (P.cellsOf f2.type)) = some y2 ∧
      DataW.trod enc P w base spare held n f3.type ((cs.drop f3.offset).take (P.cellsOf f3.type)) = some y3 ∧ DataW.trod enc P w base spare held n f4.type ((cs.drop f4.offset).take (P.cellsOf f4.type)) = some y4 := by
  obtain ⟨xs, n, _, rfl, hl, hlen, hf⟩ := DataW.trod_struct ht h
  match xs, hlen with
  | [y0, y1, y2, y3, y4], _ => exact ⟨y0, y1, y2, y3, y4, n, by simp, hl, by simpa using hf 0 f0 rfl, by simpa using hf 1 f1 rfl, by simpa using hf 2 f2 rfl, by simpa using hf 3 f3 rfl, by simpa using hf 4 f4 rfl⟩

set_option maxRecDepth 100000 in
theorem open_sysR {fuel : Nat} {cs : List Value} {x : DataW H × List MemPlace} {t : TypeId} (ht : Try.prog.underlying t = some (.slice 37)) (h : DataW.trod enc Try.prog w base (fun _ => true) held fuel t cs = some x) :
    ∃ (A : Option Addr) (n c : Nat) (ls : List Sy), cs = [.slice A n c] ∧ n ≤ c ∧ c ≤ maxLen ∧ Rd w 0 w.heap.size 5 A n (sys ls) := by
  rcases open_slice ht h with ⟨rfl, _⟩ | ⟨a, len, cap, m, n, D, Pl, rfl, hb, hl, hm, hmm, hx, hi⟩
  · exact ⟨none, 0, 0, [], rfl, Nat.le_refl _, by decide, Rd.nil⟩
  · have hc2 : Try.prog.cellsOf 37 = 5 := by kernel_rfl
    have hmc : m = cap := by simpa using hmm
    have key : ∀ i, i < len → ∃ z : Sy, w.cell? (a.add (i * 5)) = some (.int .i64 z.fr) ∧ w.cell? ((a.add (i * 5)).add 1) = some (.int .i64 z.nu) ∧ w.cell? ((a.add (i * 5)).add 2) = some (.int .i64 z.to_) ∧ w.cell? ((a.add (i * 5)).add 3) = some (.int .i64 z.st) ∧ w.cell? ((a.add (i * 5)).add 4) = some (.bool z.hv) := by
      intro i hil
      obtain ⟨cs', hc, ht'⟩ := hi i (by omega)
      rw [hc2] at hc
      obtain ⟨_, hcl, hat⟩ := World.cells?_some hc
      obtain ⟨y0, y1, y2, y3, y4, n', _, _, g0, g1, g2, g3, g4⟩ := trodFive Try.underlying37 ht'
      match cs', hcl with
      | [u0, u1, u2, u3, u4], _ =>
        have c1 : Try.prog.cellsOf 3 = 1 := by kernel_rfl
        have c4 : Try.prog.cellsOf 4 = 1 := by kernel_rfl
        simp [c1, c4] at g0 g1 g2 g3 g4
        obtain ⟨z0, e0, _, _⟩ := DataW.trod_int Try.underlying3 g0
        obtain ⟨z1, e1, _, _⟩ := DataW.trod_int Try.underlying3 g1
        obtain ⟨z2, e2, _, _⟩ := DataW.trod_int Try.underlying3 g2
        obtain ⟨z3, e3, _, _⟩ := DataW.trod_int Try.underlying3 g3
        obtain ⟨z4, e4, _⟩ := DataW.trod_bool Try.underlying4 g4
        have a0 := hat 0 (by omega)
        have a1 := hat 1 (by omega)
        have a2 := hat 2 (by omega)
        have a3 := hat 3 (by omega)
        have a4 := hat 4 (by omega)
        simp at e0 e1 e2 e3 e4
        subst e0 e1 e2 e3 e4
        have b0 : w.cell? (a.add (i * 5)) = some (.int .i64 z0) := by simpa [Addr.add] using a0
        have b1 : w.cell? ((a.add (i * 5)).add 1) = some (.int .i64 z1) := by simpa using a1
        have b2 : w.cell? ((a.add (i * 5)).add 2) = some (.int .i64 z2) := by simpa using a2
        have b3 : w.cell? ((a.add (i * 5)).add 3) = some (.int .i64 z3) := by simpa using a3
        have b4 : w.cell? ((a.add (i * 5)).add 4) = some (.bool z4) := by simpa using a4
        exact ⟨(z0, z1, z2, z3, z4), b0, b1, b2, b3, b4⟩
    obtain ⟨ls, hls, hq⟩ := cells_list len key
    refine ⟨some a, len, cap, ls, rfl, hl, hm, ⟨by rw [sys_len, hls], fun hn => ?_⟩⟩
    · obtain ⟨z, hz, _⟩ := key 0 hn
      have hs : a.spot = none := World.cell?_spot (by simpa [Addr.add] using hz)
      have hlt := cell_lt hz
      refine ⟨a.block, a.off, ?_, Nat.zero_le _, by rwa [add_none _ _ hs] at hlt, fun j u hu => ?_⟩
      · obtain ⟨b, o, s⟩ := a
        simp at hs
        subst hs
        rfl
      · have hj : j < (sys ls).length := (List.getElem?_eq_some_iff.1 hu).1
        rw [sys_len] at hj
        have hk : j / 5 < ls.length := by omega
        have hm3 : j % 5 < 5 := Nat.mod_lt _ (by omega)
        have hp := flat_at syC 5 syC_len ls (j / 5) hk (j % 5) hm3
        rw [show j / 5 * 5 + j % 5 = j by omega] at hp
        obtain ⟨q1, q2, q3, q4, q5⟩ := hq (j / 5) _ (List.getElem?_eq_getElem hk)
        rw [add_none _ _ hs] at q1 q2 q3 q4 q5
        rw [add_none _ _ rfl] at q2 q3 q4 q5
        have hp' : (sys ls)[j]? = (syC ls[j / 5])[j % 5]? := hp
        rw [hp'] at hu
        have ej : a.off + j = a.off + j / 5 * 5 + j % 5 := by omega
        rw [ej]
        have h5 : j % 5 = 0 ∨ j % 5 = 1 ∨ j % 5 = 2 ∨ j % 5 = 3 ∨ j % 5 = 4 := by omega
        rcases h5 with h5 | h5 | h5 | h5 | h5 <;> rw [h5] at hu ⊢ <;> simp [syC] at hu <;> subst hu
        · exact q1
        · exact q2
        · exact q3
        · exact q4
        · exact q5



/-- what is known of a list of syllables from outside -/
structure SylsIn (w : World) (v : Value) (ls : List Sy) : Prop where
  form : ∃ A n c, v = .slice A n c ∧ n ≤ c ∧ c * 40 ≤ 140737488351232 ∧ Rd w 0 w.heap.size 5 A n (sys ls)
set_option maxRecDepth 100000 in
theorem open_syls {r : Reach} {b0 : Nat} {v : Value} {d : DataW H} {ps : List MemPlace} {ts : List TypeId} {ds : List (DataW H)} {j : Nat} (hval : Value.okWide Try.prog w r b0 23 v) (hd : DataW.Trod enc Try.prog w base (fun _ => true) held 23 v d ps)
    (hsz : (DataW.weightsEach Try.prog ts ds).all (· ≤ reachBytes) = true) (ht : ts[j]? = some 23) (hds : ds[j]? = some d) : ∃ ls, SylsIn w v ls := by
  obtain ⟨a0, len, cap, rfl⟩ := okWide_slice Try.underlying23 hval
  obtain ⟨fuel, hf⟩ := hd
  obtain ⟨A, n, c, ls, e1, k1, m1, r1⟩ := open_sysR Try.underlying23 hf
  simp [Value.cells] at e1
  obtain ⟨rfl, rfl, rfl⟩ := e1
  have hs0 : (d.weights Try.prog 23).all (· ≤ reachBytes) = true := by
    rw [List.all_eq_true]
    intro z hz
    have := List.all_eq_true.1 hsz _ (DataW.weights_mem_each ht hds z hz)
    simpa using this
  have z0 := sized_trod Try.underlying23 (x := (d, ps)) (A := a0) (n := len) (c := cap) (by simpa [Value.cells] using hf) hs0
  have b0 : Try.prog.bytesOf 37 = 40 := by kernel_rfl
  rw [b0] at z0
  exact ⟨ls, ⟨a0, len, cap, rfl, k1, by simp only [reachBytes] at z0; omega, r1⟩⟩

set_option maxRecDepth 100000 in
theorem open_intsR {fuel : Nat} {cs : List Value} {x : DataW H × List MemPlace} {t : TypeId} (ht : Try.prog.underlying t = some (.slice 3)) (h : DataW.trod enc Try.prog w base (fun _ => true) held fuel t cs = some x) :
    ∃ (A : Option Addr) (n c : Nat) (ls : List Int), cs = [.slice A n c] ∧ n ≤ c ∧ c ≤ maxLen ∧ Rd w 0 w.heap.size 1 A n (ls.map (Value.int .i64)) := by
  rcases open_slice ht h with ⟨rfl, _⟩ | ⟨a, len, cap, m, n, D, Pl, rfl, hb, hl, hm, hmm, hx, hi⟩
  · exact ⟨none, 0, 0, [], rfl, Nat.le_refl _, by decide, Rd.nil⟩
  · have hc2 : Try.prog.cellsOf 3 = 1 := by kernel_rfl
    have hmc : m = cap := by simpa using hmm
    have key : ∀ i, i < len → ∃ z : Int, w.cell? (a.add (i * 1)) = some (.int .i64 z) := by
      intro i hil
      obtain ⟨cs', hc, ht'⟩ := hi i (by omega)
      rw [hc2] at hc
      obtain ⟨_, hcl, hat⟩ := World.cells?_some hc
      match cs', hcl with
      | [u0], _ =>
        obtain ⟨z0, e0, _, _⟩ := DataW.trod_int Try.underlying3 ht'
        have a0 := hat 0 (by omega)
        simp at e0
        subst e0
        exact ⟨z0, by simpa [Addr.add] using a0⟩
    obtain ⟨ls, hls, hq⟩ := cells_list len key
    refine ⟨some a, len, cap, ls, rfl, hl, hm, ⟨by rw [List.length_map, hls, Nat.mul_one], fun hn => ?_⟩⟩
    obtain ⟨z, hz⟩ := key 0 hn
    have hs : a.spot = none := World.cell?_spot (by simpa [Addr.add] using hz)
    have hlt := cell_lt hz
    refine ⟨a.block, a.off, ?_, Nat.zero_le _, by rwa [add_none _ _ hs] at hlt, fun j u hu => ?_⟩
    · obtain ⟨b, o, s⟩ := a
      simp at hs
      subst hs
      rfl
    · rw [List.getElem?_map] at hu
      obtain ⟨z, hz1, hz2⟩ := Option.map_eq_some_iff.1 hu
      have := hq j z hz1
      rw [add_none _ _ hs] at this
      rw [← hz2]
      simpa using this
/-- what is known of a list of ints from outside -/
structure IntsIn (w : World) (v : Value) (ls : List Int) : Prop where
  form : ∃ A n c, v = .slice A n c ∧ n ≤ c ∧ c * 8 ≤ 140737488351232 ∧ Rd w 0 w.heap.size 1 A n (ls.map (Value.int .i64))
set_option maxRecDepth 100000 in
theorem open_intss {r : Reach} {b0 : Nat} {v : Value} {d : DataW H} {ps : List MemPlace} {ts : List TypeId} {ds : List (DataW H)} {j : Nat} (hval : Value.okWide Try.prog w r b0 71 v) (hd : DataW.Trod enc Try.prog w base (fun _ => true) held 71 v d ps)
    (hsz : (DataW.weightsEach Try.prog ts ds).all (· ≤ reachBytes) = true) (ht : ts[j]? = some 71) (hds : ds[j]? = some d) : ∃ ls, IntsIn w v ls := by
  obtain ⟨a0, len, cap, rfl⟩ := okWide_slice Try.underlying71 hval
  obtain ⟨fuel, hf⟩ := hd
  obtain ⟨A, n, c, ls, e1, k1, m1, r1⟩ := open_intsR Try.underlying71 hf
  simp [Value.cells] at e1
  obtain ⟨rfl, rfl, rfl⟩ := e1
  have hs0 : (d.weights Try.prog 71).all (· ≤ reachBytes) = true := by
    rw [List.all_eq_true]
    intro z hz
    have := List.all_eq_true.1 hsz _ (DataW.weights_mem_each ht hds z hz)
    simpa using this
  have z0 := sized_trod Try.underlying71 (x := (d, ps)) (A := a0) (n := len) (c := cap) (by simpa [Value.cells] using hf) hs0
  have b0 : Try.prog.bytesOf 3 = 8 := by kernel_rfl
  rw [b0] at z0
  exact ⟨ls, ⟨a0, len, cap, rfl, k1, by simp only [reachBytes] at z0; omega, r1⟩⟩
end
end Go.Proofs.Ytogofchpocoebaa
