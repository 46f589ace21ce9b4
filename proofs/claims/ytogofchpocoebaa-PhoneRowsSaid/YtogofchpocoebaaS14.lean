/- The reference's Costs: words. -/
import Derived.Test.YtogofchpocoebaaS13
import Derived.Test.YtogofchpocoebaaR3
import Derived.Test.YtogofchpocoebaaQ11
import Derived.Test.YtogofchpocoebaaRound2
namespace Go.Proofs.Ytogofchpocoebaa
open Go.RowKit Go.Maps

def rowV (m : Nat) (g : Nat) : Value := .slice (some ⟨g, 0, none⟩) m m
/-- rows of ints, each in a block of its own -/
structure CoSt (w0 : World) (v : Value) (m : Nat) (G : List Nat) (C : Nat → Array Value) (W : World) : Prop where
  own : W.ownsRow w0.heap.size 71 1 v G.length (G.map (rowV m))
  rows : ∀ (i g : Nat), G[i]? = some g → Blk W g 3 (C i) ∧ w0.heap.size ≤ g
  ne : ∀ (i j g : Nat), G[i]? = some g → G[j]? = some g → i = j
  below : Below w0.heap.size w0 W
section
variable {w0 : World} {v : Value} {m : Nat} {G : List Nat} {C : Nat → Array Value} {W W' : World}
theorem CoSt.only {S : Nat → Prop} (h : CoSt w0 v m G C W) (ho : Only S W W') (h0 : ∀ k, S k → w0.heap.size ≤ k) (hv : ∀ k, v.ownBlock = some k → ¬ S k) (hg : ∀ g ∈ G, ¬ S g) : CoSt w0 v m G C W' :=
  ⟨own_only h.own ho (fun k _ _ e => hv k e), fun i g hi => ⟨(h.rows i g hi).1.only ho (hg g (List.mem_of_getElem? hi)), (h.rows i g hi).2⟩, h.ne, h.below.trans (ho.below h.below.size fun k hk hs => by have := h0 k hs; omega)⟩
theorem CoSt.on (h : CoSt w0 v m G C W) (hb : Below W.heap.size W W') : CoSt w0 v m G C W' :=
  ⟨own_stay h.own (Only.of_below hb _), fun i g hi => ⟨(h.rows i g hi).1.below hb (h.rows i g hi).1.lt, (h.rows i g hi).2⟩, h.ne, h.below.trans (hb.mono h.below.size)⟩
theorem CoSt.vne (h : CoSt w0 v m G C W) {i g : Nat} (hi : G[i]? = some g) : v.ownBlock ≠ some g := by
  intro e
  obtain ⟨cs, hcs⟩ : ∃ cs, Blk W g 71 cs := by
    rcases h.own.2 with ⟨rfl, _⟩ | ⟨g', cap, cur, rfl, _, hg, _⟩
    · cases e
    · injection e with e
      subst e
      exact ⟨cur, hg⟩
  have h1 := (h.rows i g hi).1
  unfold Blk at h1 hcs
  rw [h1] at hcs
  injection hcs with e1
  injection e1 with _ e2
  cases e2
theorem CoSt.row {b n c : Nat} (h : CoSt w0 (.slice (some ⟨b, 0, none⟩) n c) m G C W) {i : Nat} (hi : i < G.length) : ∃ g, G[i]? = some g ∧ W.cell? ⟨b, i, none⟩ = some (.slice (some ⟨g, 0, none⟩) m m) ∧ Blk W g 3 (C i) := by
  refine ⟨G[i], List.getElem?_eq_getElem hi, ?_, (h.rows i _ (List.getElem?_eq_getElem hi)).1⟩
  have e : G.length = n := by
    rcases h.own.2 with ⟨e, _⟩ | ⟨g', cap, cur, e, _⟩
    · cases e
    · injection e with _ e2 _; exact e2.symm
  have ho := h.own
  rw [e] at ho
  obtain ⟨b', o', eA, _, _, hc⟩ := (own_rd ho).2 (by omega)
  have hc0 := ho.cells (g := b) rfl i (rowV m G[i]) (by rw [List.getElem?_map, List.getElem?_eq_getElem hi]; rfl)
  have hadd : (⟨b, 0, none⟩ : Addr).add i = ⟨b, i, none⟩ := by unfold Addr.add; split <;> simp_all
  rw [hadd] at hc0
  exact hc0
/-- one row more -/
theorem CoSt.push {v' : Value} {W1 : World} {Z : Array Value} (h : CoSt w0 v m G C W) (hb : Below W.heap.size W W1) (hg : Blk W1 W.heap.size 3 Z) (ho : W'.ownsRow w0.heap.size 71 1 v' (G.length + 1) (G.map (rowV m) ++ [rowV m W.heap.size])) (hgr : W1.grownBy W' v.ownBlock) :
    CoSt w0 v' m (G ++ [W.heap.size]) (fun i => if i = G.length then Z else C i) W' := by
  have h1 := h.on hb
  have hO : Only (fun k => v.ownBlock = some k) W1 W' := (Only.refl _ _).grown hgr (fun _ hg => .inl hg)
  have hgt : ∀ (i g : Nat), G[i]? = some g → g < W.heap.size := fun i g hi => (h.rows i g hi).1.lt
  refine ⟨by rw [List.length_append, List.map_append]; exact ho, fun i g hi => ?_, fun i j g hi hj => ?_, h1.below.trans (hO.below h1.below.size fun k hk hs => by have := (h1.own.lt _ hs).1; omega)⟩
  · rcases Nat.lt_trichotomy i G.length with hlt | rfl | hgt'
    · rw [List.getElem?_append_left hlt] at hi
      rw [if_neg (by omega)]
      exact ⟨(h1.rows i g hi).1.only hO (h1.vne hi), (h1.rows i g hi).2⟩
    · rw [List.getElem?_append_right (Nat.le_refl _), Nat.sub_self] at hi
      injection hi with hi
      subst hi
      rw [if_pos rfl]
      refine ⟨hg.only hO (fun e => ?_), h.below.size⟩
      have h2 := h1.own.lt _ e
      have h3 : v.ownBlock = some W.heap.size := e
      rcases h.own.2 with ⟨rfl, _⟩ | ⟨g', cap, cur, rfl, _, hg', _⟩
      · cases h3
      · injection h3 with h3
        subst h3
        rw [Array.getElem?_eq_none (Nat.le_refl _)] at hg'
        cases hg'
    · rw [List.getElem?_eq_none (by simp; omega)] at hi
      cases hi
  · rw [List.getElem?_append] at hi hj
    split at hi <;> split at hj
    · exact h.ne i j g hi hj
    · rename_i a1 a2
      have h1 := hgt i g hi
      have : g = W.heap.size := by
        have h4 := (List.mem_of_getElem? hj)
        simpa using h4
      omega
    · rename_i a1 a2
      have h1 := hgt j g hj
      have : g = W.heap.size := by
        have h4 := (List.mem_of_getElem? hi)
        simpa using h4
      omega
    · rename_i a1 a2
      have h4 := (List.getElem?_eq_some_iff.1 hi).1
      have h5 := (List.getElem?_eq_some_iff.1 hj).1
      simp at h4 h5
      omega
/-- one number laid -/
theorem CoSt.put {i g k : Nat} (h : CoSt w0 v m G C W) (hi : G[i]? = some g) (u : Value) : CoSt w0 v m G (fun j => if j = i then (C i).setIfInBounds k u else C j) (W.setCell ⟨g, k, none⟩ u) := by
  refine ⟨own_far h.own (h.vne hi) u, fun j g' hj => ?_, h.ne, h.below.setCell (by have := (h.rows i g hi).2; simpa using this) _⟩
  by_cases e : j = i
  · subst e
    rw [hi] at hj
    injection hj with hj
    subst hj
    rw [if_pos rfl]
    exact ⟨(h.rows j g hi).1.set_ k u, (h.rows j g hi).2⟩
  · rw [if_neg e]
    have hne : g' ≠ g := fun e' => e (h.ne j i g (e' ▸ hj) hi)
    exact ⟨(h.rows j g' hj).1.far (by simpa using hne) u, (h.rows j g' hj).2⟩
end
/-- filled from a pair of places on -/
def FiC (a b : List Ph) (la lb : Nat) (C : Nat → Array Value) (i k : Nat) : Prop := (∀ i', i' ≤ la → (C i').size = lb + 1) ∧ ∀ i' k', i' ≤ la → k' ≤ lb → (i < i' ∨ (i' = i ∧ k ≤ k')) → (C i')[k']? = some (.int .i64 (cs a b i' k'))
theorem FiC.row {a b : List Ph} {la lb i : Nat} {C : Nat → Array Value} (h : FiC a b la lb C (i + 1) 0) : FiC a b la lb C i (lb + 1) := ⟨h.1, fun i' k' h1 h2 h3 => h.2 i' k' h1 h2 (by omega)⟩
theorem FiC.step {a b : List Ph} {la lb i k : Nat} {C : Nat → Array Value} (h : FiC a b la lb C i (k + 1)) (hi : i ≤ la) (hk : k ≤ lb) : FiC a b la lb (fun j => if j = i then (C i).setIfInBounds k (.int .i64 (cs a b i k)) else C j) i k := by
  refine ⟨fun i' h1 => ?_, fun i' k' h1 h2 h3 => ?_⟩
  · dsimp only
    split
    · rename_i e; subst e; rw [Array.size_setIfInBounds]; exact h.1 _ h1
    · exact h.1 _ h1
  · dsimp only
    split
    · rename_i e
      subst e
      rw [Array.getElem?_setIfInBounds]
      split
      · rename_i e2
        subst e2
        rw [if_pos (by rw [h.1 _ h1]; omega)]
      · exact h.2 _ _ h1 h2 (by omega)
    · exact h.2 _ _ h1 h2 (by omega)
theorem rd_new_eq {w : World} {t : TypeId} {cs : Array Value} {sz i : Nat} (hi : i = w.heap.size) (h : cs.size = sz) : Rd (w.alloc (.cells cs t)) i (i + 1) sz (some ⟨i, 0, none⟩) 1 cs.toList := by
  subst hi
  exact rd_new _ _ _ _ h
theorem info71 : (Try.prog.info? 71).map (fun i => (i.zero, i.size, i.bytes)) = some (some (.slice none 0 0), 1, 24) := by kernel_rfl
end Go.Proofs.Ytogofchpocoebaa
