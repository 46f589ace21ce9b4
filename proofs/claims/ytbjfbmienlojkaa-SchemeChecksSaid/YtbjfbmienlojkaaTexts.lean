/- Lists of strings: a slice value that reads as one; a parameter of type []string, opened. -/
import Derived.Test.YtbjfbmienlojkaaT18
import Derived.Test.YtbjfbmienlojkaaSteps
import Derived.SizedLaws
namespace Go.Proofs.Ytbjfbmienlojkaa
open Go.Joins Go.ChangeShapes Go.WideShapes Go.RowKit Go.Deep

def strs (ks : List ByteArray) : List Value := ks.map Value.string
theorem strs_len (ks : List ByteArray) : (strs ks).length = ks.length := by simp [strs]
theorem strs_one (ks : List ByteArray) : ∀ u ∈ strs ks, u.oneCell' = true := by
  intro u hu
  obtain ⟨x, _, rfl⟩ := List.mem_map.1 hu
  rfl
theorem Rd.slen {w : World} {L B n : Nat} {A : Option Addr} {ks : List ByteArray} (h : Rd w L B 1 A n (strs ks)) : ks.length = n := by
  have := h.1; rw [strs_len] at this; omega
theorem Rd.str {w : World} {L B n : Nat} {A : Option Addr} {l : List ByteArray} (h : Rd w L B 1 A n (strs l)) {k : Nat} (hk : k < n) :
    ∃ b o, ∃ hl : k < l.length, A = some ⟨b, o, none⟩ ∧ L ≤ b ∧ b < B ∧ w.cell? ⟨b, o + k, none⟩ = some (.string l[k]) := by
  have hn := h.slen
  obtain ⟨b, o, e, hl, hb, hc⟩ := h.2 (by omega)
  exact ⟨b, o, by omega, e, hl, hb, hc _ _ (by simp [strs, List.getElem?_eq_getElem (show k < l.length by omega)])⟩

/-- what is known of a []string from outside -/
structure TextsIn (w : World) (v : Value) (ks : List ByteArray) : Prop where
  form : ∃ A n c, v = .slice A n c ∧ n ≤ c ∧ c ≤ maxLen ∧ Rd w 0 w.heap.size 1 A n (strs ks) ∧ c * 16 ≤ 140737488351232
  fits : ∀ k ∈ ks, k.size ≤ maxLen

section
variable {H : Type} {enc : TypeId × Value → H} {w : World} {base : Nat} {held : Bool}
set_option maxRecDepth 100000 in
theorem open_texts {r : Reach} {b0 : Nat} {v : Value} {d : DataW H} {ps : List MemPlace} {ts : List TypeId} {ds : List (DataW H)} {j : Nat} (hval : Value.okWide Try.prog w r b0 53 v) (hd : DataW.Trod enc Try.prog w base (fun _ => true) held 53 v d ps)
    (hsz : (DataW.weightsEach Try.prog ts ds).all (· ≤ reachBytes) = true) (ht : ts[j]? = some 53) (hds : ds[j]? = some d) : ∃ ks, TextsIn w v ks := by
  obtain ⟨a0, len, cap, rfl⟩ := okWide_slice Try.underlying53 hval
  obtain ⟨fuel, hf⟩ := hd
  have hc1 : Try.prog.cellsOf 9 = 1 := by kernel_rfl
  rcases open_slice1 Try.underlying53 hc1 hf with ⟨hcs, hx⟩ | ⟨a, len', cap', m, n, V, D, Pl, hcs, hb, hl, hm, hmm, hx, hi⟩
  · simp [Value.cells] at hcs
    obtain ⟨rfl, rfl, rfl⟩ := hcs
    exact ⟨[], ⟨none, 0, 0, rfl, Nat.le_refl _, by decide, Rd.nil, by omega⟩, by simp⟩
  · simp [Value.cells] at hcs
    obtain ⟨rfl, rfl, rfl⟩ := hcs
    have hmc : m = cap := by simpa using hmm
    subst hmc
    have key : ∀ i, i < len → ∃ z : ByteArray, w.cell? (a.add i) = some (.string z) ∧ z.size ≤ maxLen := by
      intro i hil
      obtain ⟨hc, ht'⟩ := hi i (by omega)
      obtain ⟨s, e, _, hw⟩ := DataW.trod_string Try.underlying9 ht'
      injection e with e
      exact ⟨s, by rw [hc, e], hw⟩
    obtain ⟨ks, hks, hq⟩ := cells_list len key
    refine ⟨ks, ⟨some a, len, m, rfl, hl, hm, ⟨by rw [strs_len]; omega, fun hn => ?_⟩, ?_⟩, ?_⟩
    · obtain ⟨z, hz, _⟩ := key 0 hn
      have hs : a.spot = none := World.cell?_spot (by simpa [Addr.add] using hz)
      have hlt := cell_lt hz
      refine ⟨a.block, a.off, ?_, Nat.zero_le _, by rwa [add_none _ _ hs] at hlt, fun j u hu => ?_⟩
      · obtain ⟨b, o, s⟩ := a
        simp at hs
        subst hs
        rfl
      · unfold strs at hu
        rw [List.getElem?_map] at hu
        cases hj : ks[j]? with
        | none => rw [hj] at hu; cases hu
        | some z =>
          rw [hj] at hu
          cases hu
          have := (hq j z hj).1
          rwa [add_none _ _ hs] at this
    · simp only [Prod.mk.injEq] at hx
      rw [hx.1] at hds
      have := sized_slice hsz ht hds Try.underlying53
      have hb9 : Try.prog.bytesOf 9 = 16 := by kernel_rfl
      rw [hb9] at this
      simp only [List.length_map, List.length_range, reachBytes] at this
      omega
    · intro z hz
      obtain ⟨i, hi', e⟩ := List.getElem_of_mem hz
      exact (hq i z (by rw [List.getElem?_eq_getElem hi', e])).2
end
end Go.Proofs.Ytbjfbmienlojkaa
