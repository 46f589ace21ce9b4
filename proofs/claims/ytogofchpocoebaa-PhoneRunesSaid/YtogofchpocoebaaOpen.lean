/- A phone by value, opened. -/
import Derived.Test.YtogofchpocoebaaR5
import Derived.WalkKit
import Derived.ProofKit
import Derived.OpenShut
import Derived.Carry
import Derived.SizedLaws
import Derived.Lib.SmallJoins
namespace Go.Proofs.Ytogofchpocoebaa
open Go.ChangeShapes Go.WideShapes Go.ChangeAt Go.RowKit Go.Joins

section
variable {H : Type} {enc : TypeId × Value → H} {w : World} {base : Nat} {held : Bool} {spare : Nat → Bool}
set_option maxRecDepth 100000 in
/-- a phone by value, opened -/
theorem open_phone {r : Reach} {b0 : Nat} {v : Value} {d : DataW H} {ps : List MemPlace} (hval : Value.okWide Try.prog w r b0 43 v) (hd : DataW.Trod enc Try.prog w base spare held 43 v d ps) :
    ∃ p : Ph, v = .agg #[.int .i32 p.1, .bool p.2.1, .int .i32 p.2.2] ∧ fit32 p.1 := by
  obtain ⟨v0, v1, v2, y0, y1, y2, n, rfl, _, _, g0, g1, g2⟩ := open_agg3 Try.underlying43 (by kernel_rfl) (by kernel_rfl) hval hd
  obtain ⟨a, e0, _, wa⟩ := DataW.trod_int Try.underlying21 g0
  obtain ⟨b, e1, _⟩ := DataW.trod_bool Try.underlying4 g1
  obtain ⟨c, e2, _, _⟩ := DataW.trod_int Try.underlying21 g2
  simp at e0 e1 e2
  subst e0 e1 e2
  simp only [Lit.wf, Bool.and_eq_true, decide_eq_true_eq] at wa
  exact ⟨(a, b, c), rfl, wa⟩
end
end Go.Proofs.Ytogofchpocoebaa
