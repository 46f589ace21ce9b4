/- A region that draws its order, inside a round: the walk by a held condition. -/
import Derived.Test.YtialpfmaekagjaaMem
import Derived.OrdersHeld
import Derived.Deep.RegionHeld
namespace Go.Proofs.Ytialpfmaekagjaa
open Go.RowKit

section
variable {P : Program} {ops : Array Oper} {Q : Exit → Act → World → Prop} {md : Region.Mode}
theorem rowsIn_wide {n : Nat} {row : String} {args : Array Value} {w : World} {R : Value → World → Prop} (h : Rows P row args w R) : RowsIn Fence.wide n P row args w R :=
  fun c cs _ => let ⟨v, w', r, s⟩ := h c cs; ⟨v, w', r, stepsIn_wide.2 s⟩
theorem opIn_of_op {o : Oper} {a : Act} {w : World} {K : Act → World → Prop} (h : o.wp P a w K Q) : o.wpIn Fence.wide 0 P a w K Q := by
  refine ⟨fun _ _ => trivial, ?_⟩
  have hs : (o.semAt Fence.wide.round a.eval) = execOp a.eval o := rfl
  rw [hs]
  unfold Oper.wp at h
  cases hr : (execOp a.eval o).run P w with
  | ok x w' =>
    rw [hr] at h
    cases x <;> first | exact h | exact h.elim | exact ⟨(fun h2 => by cases h2), callsIn_wide.2 h⟩ | exact ⟨(fun h2 => by cases h2), rowsIn_wide h⟩
  | halt x w' =>
    rw [hr] at h
    cases x <;> first | exact h | exact h.elim
theorem anyIn_of_any (hL : ¬ LetsOut Q) : ∀ (fuel : Nat) (listed : Array Bool) (a : Act) (w : World), wpAny P md ops Q fuel listed a w → wpAnyIn Fence.wide 0 P md ops Q fuel listed a w := by
  intro fuel
  induction fuel with
  | zero => intro _ _ _ h; exact h
  | succ fuel ih =>
    intro listed a w h
    refine ⟨h.1, fun i hi => ?_⟩
    have h2 := h.2 i hi
    unfold wpOp at h2
    unfold wpOpIn
    cases ho : ops[i]? with
    | none => simp only [ho] at h2 ⊢; exact ih _ _ _ h2
    | some o =>
      simp only [ho] at h2 ⊢
      split
      · rename_i hw
        rw [if_pos hw] at h2
        rcases h2 with h2 | h2
        · exact Oper.wpIn_mono (fun a w h => ih _ a w h) (opIn_of_op h2)
        · exact absurd h2.2 hL
      · rename_i hw
        rw [if_neg hw] at h2
        exact ⟨fun _ _ => trivial, ih _ _ _ h2⟩
theorem wpIn_region_held_round {S : World → Prop} {id l0 : Nat} {a : Act} {w : World} (hm : P.follows .mixedOrders = true) (hd : ops.toList.all noDefer = true) (hL : ¬ LetsOut Q)
    (h : wpAnyH P .any ops Q S ops.size (Array.replicate ops.size false) a w.drew) : (Code.region id ops true).wpIn (Fence.wide.inRound l0) 0 P Q a w := by
  refine wpIn_region_any hm (anyIn_round l0 ?_ _ _ _ _ (anyIn_of_any hL _ _ _ _ (wpAny_of_held _ _ _ _ h)))
  intro i o ho
  refine List.all_eq_true.1 hd o ?_
  obtain ⟨hi, rfl⟩ := Array.getElem?_eq_some_iff.1 ho
  exact Array.getElem_mem_toList hi
theorem only_sub {W W' : World} {S T : Nat → Prop} (h : Only S W W') (hs : ∀ b, S b → T b) : Only T W W' := h.weak (fun b _ hb => hs b hb)
end
end Go.Proofs.Ytialpfmaekagjaa
