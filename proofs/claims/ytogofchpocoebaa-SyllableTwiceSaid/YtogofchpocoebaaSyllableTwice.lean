/-
  PROVED HERE: 'Rows.SyllableTwiceSaid': for every input the law 'SyllableTwice' of package canticlelaw11 returns true, and the arguments read afterwards as they read before.
  No condition is laid on the input beyond the row's own.
-/
import Derived.Test.YtogofchpocoebaaRows
import Derived.WalkKit
import Derived.ProofKit
import Derived.OpenShut
import Derived.Carry
import Derived.SizedLaws
import Derived.Test.YtogofchpocoebaaMem
import Derived.ShutString
import Derived.Test.YtogofchpocoebaaS1
import Derived.Test.YtogofchpocoebaaHead
import Derived.Test.YtogofchpocoebaaW14
namespace Go.Proofs.Ytogofchpocoebaa
open Go.ChangeShapes Go.WideShapes Go.ChangeAt Go.RowKit

theorem syllableTwice_any' (v0 : Value) (l0 : List Sy) (a1 : Int) (w : World) (h0 : SylsIn w v0 l0) (_h1 : (Lit.int .i64 a1).wf = true) : Calls Try.prog 25 #[v0, .int .i64 a1] w fun e w' => e = .returned (.bool true) ∧ Below w.heap.size w w' := by
  obtain ⟨A, n, c, rfl, k1, k2, r⟩ := h0.form
  exact syllableTwice_any A n c 0 w.heap.size l0 a1 w r (Nat.le_refl _)


theorem syllableTwice_own : ownKnob Try.prog.godebug = none := by kernel_rfl

set_option maxRecDepth 100000 in
theorem syllableTwice_lifted (os : Os) (started : os.Started) (H : Type) (enc : TypeId × Value → H) :
    ReturnsInHanded {} Try.checked os 25 .any (Rows.syllableTwiceSpec.pre6 enc Try.prog Try.f25 Rows.syllableTwiceRow.domain false) (Rows.syllableTwiceSpec.post enc Try.prog Try.f25 false true false false) := by
  refine returnsInHanded_of_change_sized (C := Try.checked) syllableTwice_own started (by kernel_rfl) Try.func25
    (ChangeSpec.witness6 (enc := enc) (C := Try.checked) false ⟨#[], #[.slice none 0 0, .int .i64 0], []⟩ 8 (by kernel_rfl) (by kernel_rfl) (by kernel_rfl) (by kernel_rfl)) ?_
  intro W base args ds gs before hval0 hW _ hsz0 _
  have hsz : (DataW.weightsEach Try.prog (Try.f25.params.toList ++ Rows.syllableTwiceSpec.plain.varTypes Try.prog) (ds ++ gs)).all (· ≤ reachBytes) = true := hsz0
  clear hsz0
  have hval : ∀ (j : Nat) t v, Try.f25.params[j]? = some t → args[j]? = some v → Value.okWide Try.prog W .any base t v := hval0
  have hW' := hW
  obtain ⟨p, q, hA0, hV, rfl, _, _⟩ := hW
  have hA : DataW.TrodAll enc Try.prog W 0 (fun _ => true) true Try.f25.params.toList args.toList ds p := hA0
  rw [Try.params25] at hA hval hsz
  obtain ⟨v0, vs0, d0, ds0, p0, q0, hargs0, rfl, rfl, h0, r0⟩ := trodAll_cons hA
  obtain ⟨v1, vs1, d1, ds1, p1, q1, hargs1, rfl, rfl, h1, r1⟩ := trodAll_cons r0
  obtain ⟨rfl, rfl, rfl⟩ := trodAll_nil r1
  subst hargs1
  obtain rfl : args = #[v0, v1] := by cases args; simp_all
  obtain ⟨rfl, rfl⟩ := trodVars_none hV
  obtain ⟨l0, hS0⟩ := open_syls (j := 0) (hval 0 23 v0 rfl rfl) h0 hsz rfl rfl
  obtain ⟨a1, rfl, rfl, rfl, hS1⟩ := Go.ChangeShapes.open_int Try.underlying3 (hval 1 3 v1 rfl rfl) h1
  clear hA0 hval0
  simp only [List.append_nil] at hW'
  refine (syllableTwice_any' v0 l0 a1 W hS0 hS1).mono fun e W' ⟨he, hg⟩ => ?_
  subst he
  have hst0 : ∀ sp : Nat → Bool, (∀ x ∈ p0, sp x.block = true) → (∀ x ∈ p0, x.block < W.heap.size) → DataW.Trod enc Try.prog W' 0 sp true 23 v0 d0 p0 := fun sp hsp hlt => WideElems.Trod_stays (by kernel_rfl) (by kernel_rfl) (of_decide_eq_true (by kernel_rfl)) h0 (fun x hx => hg.same (hlt x hx)) hsp
  exact ⟨_, rfl, post_of_below (pa := p0 ++ ([])) (pv := []) hW' (fun _ _ _ => (trodAll_cons_mk (shut_bool Try.underlying4 _) trodAll_mk0)) (fun sp hsp => trodAll_cons_mk (hst0 sp (fun x hx => hsp x (by simp [hx])) (fun x hx => hW'.lt x (by simp [hx]))) (trodAll_mk1 (Go.ChangeShapes.shut_int Try.underlying3 hS1))) (fun _ _ => rfl) (by simp)
    hg (ok_one (by kernel_rfl) rfl (okWide_bool_mk Try.underlying4 _))⟩

set_option maxRecDepth 100000 in
theorem syllableTwice_facts : joinedFacts Try.prog 25 Try.f25 Rows.syllableTwiceSpec Rows.syllableTwiceRow = true := by
  unfold joinedFacts
  rw [may_enter, lifts_final, make_is]
  kernel_rfl
theorem syllableTwice_named : Try.prog.funcNamed Rows.syllableTwiceRow.func = some 25 := by kernel_rfl
theorem syllableTwice_inst : Try.f25.isInstance Try.prog Rows.syllableTwiceRow.origin Rows.syllableTwiceRow.targs := of_decide_eq_true (by kernel_rfl)
theorem syllableTwice_wrap : Try.f25.isWrapper Try.prog Rows.syllableTwiceRow.wrapper Rows.syllableTwiceRow.mainSum := by
  unfold Func.isWrapper
  rw [if_neg (by decide +kernel)]
  exact ⟨rfl, rfl⟩
theorem syllableTwice_over : Rows.syllableTwiceRow.holds Try.pinned (OpenSpec.ofChange Rows.syllableTwiceSpec) :=
  OpenClaim.holds_of_wide 25 Try.f25 rfl rfl rfl rfl rfl rfl rfl ⟨rfl, rfl, rfl, rfl, rfl⟩ rfl rfl rfl rfl rfl syllableTwice_named Try.func25 syllableTwice_facts
    syllableTwice_inst syllableTwice_wrap
    (fun os started H enc _ => syllableTwice_lifted os started H enc)

theorem syllableTwice_holds : Rows.SyllableTwiceSaid :=
  syllableTwice_over
end Go.Proofs.Ytogofchpocoebaa
