/-
  PROVED HERE: 'Rows.TopPlacesSaid': for every input the law 'TopPlaces' of package canticletop returns true, and the arguments read afterwards as they read before.
  No condition is laid on the input beyond the row's own.
-/
import Derived.Test.YtialpfmaekagjaaRows
import Derived.WalkKit
import Derived.ProofKit
import Derived.OpenShut
import Derived.Carry
import Derived.SizedLaws
import Derived.Test.YtialpfmaekagjaaMem
import Derived.ShutString
import Derived.Deep.Slices
import Derived.Deep.Fields
import Derived.Deep.Strs
import Derived.Lib.SmallJoins
import Derived.ChangeSame
import Derived.Test.YtialpfmaekagjaaHead
import Derived.Test.YtialpfmaekagjaaU6
namespace Go.Proofs.Ytialpfmaekagjaa
open Go.ChangeShapes Go.WideShapes Go.ChangeAt Go.RowKit

theorem topPlaces_any' (a0 : ByteArray) (a1 : Int) (w : World) : Calls Try.prog 3 #[.string a0, .int .i64 a1] w fun e w' => e = .returned (.bool true) ∧ Below w.heap.size w w' :=
  topPlaces_any a0 a1 w

theorem topPlaces_own : ownKnob Try.prog.godebug = none := by kernel_rfl

set_option maxRecDepth 100000 in
theorem topPlaces_lifted (os : Os) (started : os.Started) (H : Type) (enc : TypeId × Value → H) :
    ReturnsInHanded {} Try.checked os 3 .any (Rows.topPlacesSpec.pre6 enc Try.prog Try.f3 Rows.topPlacesRow.domain false) (Rows.topPlacesSpec.post enc Try.prog Try.f3 false true false false) := by
  refine returnsInHanded_of_change_sized (C := Try.checked) topPlaces_own started (by kernel_rfl) Try.func3
    (ChangeSpec.witness6 (enc := enc) (C := Try.checked) false ⟨#[], #[.string ByteArray.empty, .int .i64 0], []⟩ 8 (by kernel_rfl) (by kernel_rfl) (by kernel_rfl) (by kernel_rfl)) ?_
  intro W base args ds gs before hval0 hW _ hsz0 _
  have hsz : (DataW.weightsEach Try.prog (Try.f3.params.toList ++ Rows.topPlacesSpec.plain.varTypes Try.prog) (ds ++ gs)).all (· ≤ reachBytes) = true := hsz0
  clear hsz0
  have hval : ∀ (j : Nat) t v, Try.f3.params[j]? = some t → args[j]? = some v → Value.okWide Try.prog W .any base t v := hval0
  have hW' := hW
  obtain ⟨p, q, hA0, hV, rfl, _, _⟩ := hW
  have hA : DataW.TrodAll enc Try.prog W 0 (fun _ => true) true Try.f3.params.toList args.toList ds p := hA0
  rw [Try.params3] at hA hval hsz
  obtain ⟨v0, vs0, d0, ds0, p0, q0, hargs0, rfl, rfl, h0, r0⟩ := trodAll_cons hA
  obtain ⟨v1, vs1, d1, ds1, p1, q1, hargs1, rfl, rfl, h1, r1⟩ := trodAll_cons r0
  obtain ⟨rfl, rfl, rfl⟩ := trodAll_nil r1
  subst hargs1
  obtain rfl : args = #[v0, v1] := by cases args; simp_all
  obtain ⟨rfl, rfl⟩ := trodVars_none hV
  obtain ⟨a0, rfl, rfl, rfl, hS0⟩ := Go.ChangeMaps.open_string Try.underlying9 (hval 0 9 v0 rfl rfl) h0
  obtain ⟨a1, rfl, rfl, rfl, hS1⟩ := Go.ChangeShapes.open_int Try.underlying3 (hval 1 3 v1 rfl rfl) h1
  clear hA0 hval0
  simp only [List.append_nil] at hW'
  refine (topPlaces_any' a0 a1 W).mono fun e W' ⟨he, hg⟩ => ?_
  subst he
  exact ⟨_, rfl, post_of_below (pa := [] ++ ([])) (pv := []) hW' (fun _ _ _ => (trodAll_cons_mk (shut_bool Try.underlying4 _) trodAll_mk0)) (fun sp hsp => trodAll_cons_mk (Go.ChangeMaps.shut_string Try.underlying9 hS0) (trodAll_mk1 (Go.ChangeShapes.shut_int Try.underlying3 hS1))) (fun _ _ => rfl) (by simp)
    hg (ok_one (by kernel_rfl) rfl (okWide_bool_mk Try.underlying4 _))⟩

set_option maxRecDepth 100000 in
theorem topPlaces_facts : joinedFacts Try.prog 3 Try.f3 Rows.topPlacesSpec Rows.topPlacesRow = true := by
  unfold joinedFacts
  rw [may_enter, lifts_final, make_is]
  kernel_rfl
theorem topPlaces_named : Try.prog.funcNamed Rows.topPlacesRow.func = some 3 := by kernel_rfl
theorem topPlaces_inst : Try.f3.isInstance Try.prog Rows.topPlacesRow.origin Rows.topPlacesRow.targs := of_decide_eq_true (by kernel_rfl)
theorem topPlaces_wrap : Try.f3.isWrapper Try.prog Rows.topPlacesRow.wrapper Rows.topPlacesRow.mainSum := by
  unfold Func.isWrapper
  rw [if_neg (by decide +kernel)]
  exact ⟨rfl, rfl⟩
theorem topPlaces_over : Rows.topPlacesRow.holds Try.pinned (OpenSpec.ofChange Rows.topPlacesSpec) :=
  OpenClaim.holds_of_wide 3 Try.f3 rfl rfl rfl rfl rfl rfl rfl ⟨rfl, rfl, rfl, rfl, rfl⟩ rfl rfl rfl rfl rfl topPlaces_named Try.func3 topPlaces_facts
    topPlaces_inst topPlaces_wrap
    (fun os started H enc _ => topPlaces_lifted os started H enc)

theorem topPlaces_holds : Rows.TopPlacesSaid :=
  topPlaces_over
end Go.Proofs.Ytialpfmaekagjaa
