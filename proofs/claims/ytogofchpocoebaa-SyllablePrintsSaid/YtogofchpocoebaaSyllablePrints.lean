/-
  PROVED HERE: 'Rows.SyllablePrintsSaid': for every input the law 'SyllablePrints' of package canticlelaw11 returns true, and the arguments read afterwards as they read before.
  No condition is laid on the input beyond the row's own.
-/
import Derived.Test.YtogofchpocoebaaRows
import Derived.WalkKit
import Derived.ProofKit
import Derived.OpenShut
import Derived.Carry
import Derived.SizedLaws
import Derived.Test.YtogofchpocoebaaMem
import Derived.ShutString
import Derived.Test.YtogofchpocoebaaS1
import Derived.Test.YtogofchpocoebaaHead
import Derived.Test.YtogofchpocoebaaW19
namespace Go.Proofs.Ytogofchpocoebaa
open Go.ChangeShapes Go.WideShapes Go.ChangeAt Go.RowKit

theorem syllablePrints_any' (v0 : Value) (l0 : List Ph) (v1 : Value) (l1 : List Sy) (w : World) (h0 : PhonesIn w v0 l0) (h1 : SylsIn w v1 l1) : Calls Try.prog 18 #[v0, v1] w fun e w' => e = .returned (.bool true) ∧ Below w.heap.size w w' := by
  obtain ⟨A, n, c, rfl, k1, k2, r⟩ := h0.form
  obtain ⟨D, m, d, rfl, k3, k4, r2⟩ := h1.form
  exact syllablePrints_any A D n c m d l0 l1 w r r2 h0.fits k1

theorem syllablePrints_own : ownKnob Try.prog.godebug = none := by kernel_rfl

set_option maxRecDepth 100000 in
theorem syllablePrints_lifted (os : Os) (started : os.Started) (H : Type) (enc : TypeId × Value → H) :
    ReturnsInHanded {} Try.checked os 18 .any (Rows.syllablePrintsSpec.pre6 enc Try.prog Try.f18 Rows.syllablePrintsRow.domain false) (Rows.syllablePrintsSpec.post enc Try.prog Try.f18 false true false false) := by
  refine returnsInHanded_of_change_sized (C := Try.checked) syllablePrints_own started (by kernel_rfl) Try.func18
    (ChangeSpec.witness6 (enc := enc) (C := Try.checked) false ⟨#[], #[.slice none 0 0, .slice none 0 0], []⟩ 8 (by kernel_rfl) (by kernel_rfl) (by kernel_rfl) (by kernel_rfl)) ?_
  intro W base args ds gs before hval0 hW _ hsz0 _
  have hsz : (DataW.weightsEach Try.prog (Try.f18.params.toList ++ Rows.syllablePrintsSpec.plain.varTypes Try.prog) (ds ++ gs)).all (· ≤ reachBytes) = true := hsz0
  clear hsz0
  have hval : ∀ (j : Nat) t v, Try.f18.params[j]? = some t → args[j]? = some v → Value.okWide Try.prog W .any base t v := hval0
  have hW' := hW
  obtain ⟨p, q, hA0, hV, rfl, _, _⟩ := hW
  have hA : DataW.TrodAll enc Try.prog W 0 (fun _ => true) true Try.f18.params.toList args.toList ds p := hA0
  rw [Try.params18] at hA hval hsz
  obtain ⟨v0, vs0, d0, ds0, p0, q0, hargs0, rfl, rfl, h0, r0⟩ := trodAll_cons hA
  obtain ⟨v1, vs1, d1, ds1, p1, q1, hargs1, rfl, rfl, h1, r1⟩ := trodAll_cons r0
  obtain ⟨rfl, rfl, rfl⟩ := trodAll_nil r1
  subst hargs1
  obtain rfl : args = #[v0, v1] := by cases args; simp_all
  obtain ⟨rfl, rfl⟩ := trodVars_none hV
  obtain ⟨l0, hS0⟩ := open_phones (j := 0) (hval 0 22 v0 rfl rfl) h0 hsz rfl rfl
  obtain ⟨l1, hS1⟩ := open_syls (j := 1) (hval 1 23 v1 rfl rfl) h1 hsz rfl rfl
  clear hA0 hval0
  simp only [List.append_nil] at hW'
  refine (syllablePrints_any' v0 l0 v1 l1 W hS0 hS1).mono fun e W' ⟨he, hg⟩ => ?_
  subst he
  have hst0 : ∀ sp : Nat → Bool, (∀ x ∈ p0, sp x.block = true) → (∀ x ∈ p0, x.block < W.heap.size) → DataW.Trod enc Try.prog W' 0 sp true 22 v0 d0 p0 := fun sp hsp hlt => WideElems.Trod_stays (by kernel_rfl) (by kernel_rfl) (of_decide_eq_true (by kernel_rfl)) h0 (fun x hx => hg.same (hlt x hx)) hsp
  have hst1 : ∀ sp : Nat → Bool, (∀ x ∈ p1, sp x.block = true) → (∀ x ∈ p1, x.block < W.heap.size) → DataW.Trod enc Try.prog W' 0 sp true 23 v1 d1 p1 := fun sp hsp hlt => WideElems.Trod_stays (by kernel_rfl) (by kernel_rfl) (of_decide_eq_true (by kernel_rfl)) h1 (fun x hx => hg.same (hlt x hx)) hsp
  exact ⟨_, rfl, post_of_below (pa := p0 ++ (p1)) (pv := []) hW' (fun _ _ _ => (trodAll_cons_mk (shut_bool Try.underlying4 _) trodAll_mk0)) (fun sp hsp => trodAll_cons_mk (hst0 sp (fun x hx => hsp x (by simp [hx])) (fun x hx => hW'.lt x (by simp [hx]))) (trodAll_mk1 (hst1 sp (fun x hx => hsp x (by simp [hx])) (fun x hx => hW'.lt x (by simp [hx]))))) (fun _ _ => rfl) (by simp)
    hg (ok_one (by kernel_rfl) rfl (okWide_bool_mk Try.underlying4 _))⟩

set_option maxRecDepth 100000 in
theorem syllablePrints_facts : joinedFacts Try.prog 18 Try.f18 Rows.syllablePrintsSpec Rows.syllablePrintsRow = true := by
  unfold joinedFacts
  rw [may_enter, lifts_final, make_is]
  kernel_rfl
theorem syllablePrints_named : Try.prog.funcNamed Rows.syllablePrintsRow.func = some 18 := by kernel_rfl
theorem syllablePrints_inst : Try.f18.isInstance Try.prog Rows.syllablePrintsRow.origin Rows.syllablePrintsRow.targs := of_decide_eq_true (by kernel_rfl)
theorem syllablePrints_wrap : Try.f18.isWrapper Try.prog Rows.syllablePrintsRow.wrapper Rows.syllablePrintsRow.mainSum := by
  unfold Func.isWrapper
  rw [if_neg (by decide +kernel)]
  exact ⟨rfl, rfl⟩
theorem syllablePrints_over : Rows.syllablePrintsRow.holds Try.pinned (OpenSpec.ofChange Rows.syllablePrintsSpec) :=
  OpenClaim.holds_of_wide 18 Try.f18 rfl rfl rfl rfl rfl rfl rfl ⟨rfl, rfl, rfl, rfl, rfl⟩ rfl rfl rfl rfl rfl syllablePrints_named Try.func18 syllablePrints_facts
    syllablePrints_inst syllablePrints_wrap
    (fun os started H enc _ => syllablePrints_lifted os started H enc)

theorem syllablePrints_holds : Rows.SyllablePrintsSaid :=
  syllablePrints_over
end Go.Proofs.Ytogofchpocoebaa
