/-
  PROVED HERE: 'Rows.SyllablePartsSaid': for every input the law 'SyllableParts' of package canticlelaw11 returns true, and the arguments read afterwards as they read before.
  No condition is laid on the input beyond the row's own.
-/
import Derived.Test.YtogofchpocoebaaRows
import Derived.WalkKit
import Derived.ProofKit
import Derived.OpenShut
import Derived.Carry
import Derived.SizedLaws
import Derived.Test.YtogofchpocoebaaMem
import Derived.ShutString
import Derived.Test.YtogofchpocoebaaS1
import Derived.Test.YtogofchpocoebaaHead
import Derived.Test.YtogofchpocoebaaW20
namespace Go.Proofs.Ytogofchpocoebaa
open Go.ChangeShapes Go.WideShapes Go.ChangeAt Go.RowKit

theorem syllableParts_any' (v0 : Value) (l0 : List Ph) (w : World) (h0 : PhonesIn w v0 l0) : Calls Try.prog 19 #[v0] w fun e w' => e = .returned (.bool true) ∧ Below w.heap.size w w' := by
  obtain ⟨A, n, c, rfl, k1, k2, r⟩ := h0.form
  exact syllableParts_any A n c l0 w r h0.fits k1

theorem syllableParts_own : ownKnob Try.prog.godebug = none := by kernel_rfl

set_option maxRecDepth 100000 in
theorem syllableParts_lifted (os : Os) (started : os.Started) (H : Type) (enc : TypeId × Value → H) :
    ReturnsInHanded {} Try.checked os 19 .any (Rows.syllablePartsSpec.pre6 enc Try.prog Try.f19 Rows.syllablePartsRow.domain false) (Rows.syllablePartsSpec.post enc Try.prog Try.f19 false true false false) := by
  refine returnsInHanded_of_change_sized (C := Try.checked) syllableParts_own started (by kernel_rfl) Try.func19
    (ChangeSpec.witness6 (enc := enc) (C := Try.checked) false ⟨#[], #[.slice none 0 0], []⟩ 8 (by kernel_rfl) (by kernel_rfl) (by kernel_rfl) (by kernel_rfl)) ?_
  intro W base args ds gs before hval0 hW _ hsz0 _
  have hsz : (DataW.weightsEach Try.prog (Try.f19.params.toList ++ Rows.syllablePartsSpec.plain.varTypes Try.prog) (ds ++ gs)).all (· ≤ reachBytes) = true := hsz0
  clear hsz0
  have hval : ∀ (j : Nat) t v, Try.f19.params[j]? = some t → args[j]? = some v → Value.okWide Try.prog W .any base t v := hval0
  have hW' := hW
  obtain ⟨p, q, hA0, hV, rfl, _, _⟩ := hW
  have hA : DataW.TrodAll enc Try.prog W 0 (fun _ => true) true Try.f19.params.toList args.toList ds p := hA0
  rw [Try.params19] at hA hval hsz
  obtain ⟨v0, vs0, d0, ds0, p0, q0, hargs0, rfl, rfl, h0, r0⟩ := trodAll_cons hA
  obtain ⟨rfl, rfl, rfl⟩ := trodAll_nil r0
  obtain rfl : args = #[v0] := by cases args; simp_all
  obtain ⟨rfl, rfl⟩ := trodVars_none hV
  obtain ⟨l0, hS0⟩ := open_phones (j := 0) (hval 0 22 v0 rfl rfl) h0 hsz rfl rfl
  clear hA0 hval0
  simp only [List.append_nil] at hW'
  refine (syllableParts_any' v0 l0 W hS0).mono fun e W' ⟨he, hg⟩ => ?_
  subst he
  have hst0 : ∀ sp : Nat → Bool, (∀ x ∈ p0, sp x.block = true) → (∀ x ∈ p0, x.block < W.heap.size) → DataW.Trod enc Try.prog W' 0 sp true 22 v0 d0 p0 := fun sp hsp hlt => WideElems.Trod_stays (by kernel_rfl) (by kernel_rfl) (of_decide_eq_true (by kernel_rfl)) h0 (fun x hx => hg.same (hlt x hx)) hsp
  exact ⟨_, rfl, post_of_below (pa := p0) (pv := []) hW' (fun _ _ _ => (trodAll_cons_mk (shut_bool Try.underlying4 _) trodAll_mk0)) (fun sp hsp => trodAll_mk1 (hst0 sp (fun x hx => hsp x (by simp [hx])) (fun x hx => hW'.lt x (by simp [hx])))) (fun _ _ => rfl) (by simp)
    hg (ok_one (by kernel_rfl) rfl (okWide_bool_mk Try.underlying4 _))⟩

set_option maxRecDepth 100000 in
theorem syllableParts_facts : joinedFacts Try.prog 19 Try.f19 Rows.syllablePartsSpec Rows.syllablePartsRow = true := by
  unfold joinedFacts
  rw [may_enter, lifts_final, make_is]
  kernel_rfl
theorem syllableParts_named : Try.prog.funcNamed Rows.syllablePartsRow.func = some 19 := by kernel_rfl
theorem syllableParts_inst : Try.f19.isInstance Try.prog Rows.syllablePartsRow.origin Rows.syllablePartsRow.targs := of_decide_eq_true (by kernel_rfl)
theorem syllableParts_wrap : Try.f19.isWrapper Try.prog Rows.syllablePartsRow.wrapper Rows.syllablePartsRow.mainSum := by
  unfold Func.isWrapper
  rw [if_neg (by decide +kernel)]
  exact ⟨rfl, rfl⟩
theorem syllableParts_over : Rows.syllablePartsRow.holds Try.pinned (OpenSpec.ofChange Rows.syllablePartsSpec) :=
  OpenClaim.holds_of_wide 19 Try.f19 rfl rfl rfl rfl rfl rfl rfl ⟨rfl, rfl, rfl, rfl, rfl⟩ rfl rfl rfl rfl rfl syllableParts_named Try.func19 syllableParts_facts
    syllableParts_inst syllableParts_wrap
    (fun os started H enc _ => syllableParts_lifted os started H enc)

theorem syllableParts_holds : Rows.SyllablePartsSaid :=
  syllableParts_over
end Go.Proofs.Ytogofchpocoebaa
