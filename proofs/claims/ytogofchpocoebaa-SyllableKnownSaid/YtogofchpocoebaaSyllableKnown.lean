/-
  PROVED HERE: 'Rows.SyllableKnownSaid': for every input the law 'SyllableKnown' of package canticlelaw11 returns true, and the arguments read afterwards as they read before.
  No condition is laid on the input beyond the row's own.
-/
import Derived.Test.YtogofchpocoebaaRows
import Derived.WalkKit
import Derived.ProofKit
import Derived.OpenShut
import Derived.Carry
import Derived.SizedLaws
import Derived.Test.YtogofchpocoebaaMem
import Derived.ShutString
import Derived.Test.YtogofchpocoebaaS1
import Derived.Test.YtogofchpocoebaaHead
import Derived.Test.YtogofchpocoebaaW29
namespace Go.Proofs.Ytogofchpocoebaa
open Go.ChangeShapes Go.WideShapes Go.ChangeAt Go.RowKit

theorem syllableKnown_any' (w : World) : Calls Try.prog 23 #[] w fun e w' => e = .returned (.bool true) ∧ Below w.heap.size w w' := syllableKnown_any w

theorem syllableKnown_own : ownKnob Try.prog.godebug = none := by kernel_rfl

set_option maxRecDepth 100000 in
theorem syllableKnown_lifted (os : Os) (started : os.Started) (H : Type) (enc : TypeId × Value → H) :
    ReturnsInHanded {} Try.checked os 23 .any (Rows.syllableKnownSpec.pre6 enc Try.prog Try.f23 Rows.syllableKnownRow.domain false) (Rows.syllableKnownSpec.post enc Try.prog Try.f23 false true false false) := by
  refine returnsInHanded_of_change_sized (C := Try.checked) syllableKnown_own started (by kernel_rfl) Try.func23
    (ChangeSpec.witness6 (enc := enc) (C := Try.checked) false ⟨#[], #[], []⟩ 8 (by kernel_rfl) (by kernel_rfl) (by kernel_rfl) (by kernel_rfl)) ?_
  intro W base args ds gs before hval0 hW _ hsz0 _
  have hsz : (DataW.weightsEach Try.prog (Try.f23.params.toList ++ Rows.syllableKnownSpec.plain.varTypes Try.prog) (ds ++ gs)).all (· ≤ reachBytes) = true := hsz0
  clear hsz0
  have hval : ∀ (j : Nat) t v, Try.f23.params[j]? = some t → args[j]? = some v → Value.okWide Try.prog W .any base t v := hval0
  have hW' := hW
  obtain ⟨p, q, hA0, hV, rfl, _, _⟩ := hW
  have hA : DataW.TrodAll enc Try.prog W 0 (fun _ => true) true Try.f23.params.toList args.toList ds p := hA0
  rw [Try.params23] at hA hval hsz
  obtain ⟨hargs, rfl, rfl⟩ := trodAll_nil hA
  obtain rfl : args = #[] := by cases args; simp_all
  obtain ⟨rfl, rfl⟩ := trodVars_none hV
  clear hA0 hval0
  simp only [List.append_nil] at hW'
  refine (syllableKnown_any'  W ).mono fun e W' ⟨he, hg⟩ => ?_
  subst he
  exact ⟨_, rfl, post_of_below (pa := []) (pv := []) hW' (fun _ _ _ => (trodAll_cons_mk (shut_bool Try.underlying4 _) trodAll_mk0)) (fun sp hsp => trodAll_mk0) (fun _ _ => rfl) (by simp)
    hg (ok_one (by kernel_rfl) rfl (okWide_bool_mk Try.underlying4 _))⟩

set_option maxRecDepth 100000 in
theorem syllableKnown_facts : joinedFacts Try.prog 23 Try.f23 Rows.syllableKnownSpec Rows.syllableKnownRow = true := by
  unfold joinedFacts
  rw [may_enter, lifts_final, make_is]
  kernel_rfl
theorem syllableKnown_named : Try.prog.funcNamed Rows.syllableKnownRow.func = some 23 := by kernel_rfl
theorem syllableKnown_inst : Try.f23.isInstance Try.prog Rows.syllableKnownRow.origin Rows.syllableKnownRow.targs := of_decide_eq_true (by kernel_rfl)
theorem syllableKnown_wrap : Try.f23.isWrapper Try.prog Rows.syllableKnownRow.wrapper Rows.syllableKnownRow.mainSum := by
  unfold Func.isWrapper
  rw [if_neg (by decide +kernel)]
  exact ⟨rfl, rfl⟩
theorem syllableKnown_over : Rows.syllableKnownRow.holds Try.pinned (OpenSpec.ofChange Rows.syllableKnownSpec) :=
  OpenClaim.holds_of_wide 23 Try.f23 rfl rfl rfl rfl rfl rfl rfl ⟨rfl, rfl, rfl, rfl, rfl⟩ rfl rfl rfl rfl rfl syllableKnown_named Try.func23 syllableKnown_facts
    syllableKnown_inst syllableKnown_wrap
    (fun os started H enc _ => syllableKnown_lifted os started H enc)

theorem syllableKnown_holds : Rows.SyllableKnownSaid :=
  syllableKnown_over
end Go.Proofs.Ytogofchpocoebaa
