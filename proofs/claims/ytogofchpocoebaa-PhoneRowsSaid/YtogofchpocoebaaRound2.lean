/- A region that draws its order, one walk in the text's order, where what it calls may make memory of its own: the class of worlds in which nothing of what was there has turned. -/
import Derived.Test.YtogofchpocoebaaRound
import Derived.Test.YtogofchpocoebaaMem
namespace Go.Proofs.Ytogofchpocoebaa
open Go.RowKit

/-- a world behind W in which nothing has turned that was there -/
def Bel (W : World) : Type := { w' : World // Below W.heap.size W w' }
instance (W : World) : Nonempty (Bel W) := ⟨⟨W, Below.refl _ _⟩⟩
section
variable {n : Nat} {P : Program} {Q : Exit → Act → World → Prop}
theorem Bel.cell {W : World} {b o : Nat} {v : Value} (h : W.cell? ⟨b, o, none⟩ = some v) (x : Bel W) : x.1.cell? ⟨b, o, none⟩ = some v := by
  have hb : b < W.heap.size := by
    rcases Nat.lt_or_ge b W.heap.size with hlt | hge
    · exact hlt
    · simp [World.cell?, Array.getElem?_eq_none hge] at h
  exact (x.2.cell (p := ⟨b, o, none⟩) hb).trans h
theorem Bel.next {W w' : World} (x : Bel W) (h : Below x.1.heap.size x.1 w') : ∃ y : Bel W, w' = y.1 := ⟨⟨w', x.2.trans (h.mono x.2.size)⟩, rfl⟩
theorem Bel.drew (W : World) : ∃ x : Bel W, W.drew = x.1 := ⟨⟨W.drew, ⟨rfl, rfl, rfl, Nat.le_refl _, fun _ _ => rfl⟩⟩, rfl⟩
/-- inside a round -/
theorem wpIn_bel_round {id l0 : Nat} {a : Act} {w : World} {l : List Oper} (hm : P.follows .mixedOrders = true) (hB : Region.lexB .any l.toArray = true) (hd : l.all noDefer = true)
    (h : wpQuietIn Fence.wide n P l.toArray (fun w' => ∃ x : Bel w, w' = x.1) (fun a' => ∀ w', (∃ x : Bel w, w' = x.1) → Q .normal a' w') l a) : (Code.region id l.toArray true).wpIn (Fence.wide.inRound l0) n P Q a w := by
  simp only [Region.lexB, Bool.and_eq_true] at hB
  refine wpIn_region_any hm (anyIn_round l0 ?_ _ _ _ _ (wpAnyIn_of_quiet (C := fun w' => ∃ x : Bel w, w' = x.1) (Q := fun a' => ∀ w', (∃ x : Bel w, w' = x.1) → Q .normal a' w') rfl (fun _ w' hw' h => h w' hw') _ _ _ _ (Bel.drew w) ?_))
  · intro i o ho
    exact List.all_eq_true.1 hd o (by rw [List.getElem?_toArray] at ho; exact List.mem_of_getElem? ho)
  · have := wpAnyQIn_lex (F := Fence.wide) (n := n) (C := fun w' => ∃ x : Bel w, w' = x.1) (md := .any) hB.1 l 0 (Array.replicate l.toArray.size false) a (by simp) (by simpa using hB.2) h
    simpa using this
/-- outside a round -/
theorem wp_bel {id : Nat} {a : Act} {w : World} {l : List Oper} (hm : P.follows .mixedOrders = true) (hB : Region.lexB .any l.toArray = true)
    (h : wpQuietIn Fence.wide 0 P l.toArray (fun w' => ∃ x : Bel w, w' = x.1) (fun a' => ∀ w', (∃ x : Bel w, w' = x.1) → Q .normal a' w') l a) : (Code.region id l.toArray true).wp P Q a w :=
  (wpIn_wide (n := 0)).1 (wpIn_region_quiet (C := fun w' => ∃ x : Bel w, w' = x.1) rfl hm hB (Bel.drew w) (by simpa using h))
theorem wpIn_abs {F : Fence} {c : Code} {a : Act} {W : World} (S : World → Prop) (hF : S W) (h : ∀ w, S w → c.wpIn F n P Q a w) : c.wpIn F n P Q a W := h W hF
end
end Go.Proofs.Ytogofchpocoebaa
