/-
  PROVED HERE: 'Rows.SyllableSplitsSaid': for every input the law 'SyllableSplits' of package canticlelaw11 returns true, and the arguments read afterwards as they read before.
  No condition is laid on the input beyond the row's own.
-/
import Derived.Test.YtogofchpocoebaaRows
import Derived.WalkKit
import Derived.ProofKit
import Derived.OpenShut
import Derived.Carry
import Derived.SizedLaws
import Derived.Test.YtogofchpocoebaaMem
import Derived.ShutString
import Derived.Test.YtogofchpocoebaaS1
import Derived.Test.YtogofchpocoebaaHead
import Derived.Test.YtogofchpocoebaaW27
namespace Go.Proofs.Ytogofchpocoebaa
open Go.ChangeShapes Go.WideShapes Go.ChangeAt Go.RowKit

theorem syllableSplits_any' (v0 : Value) (l0 : List Ph) (a1 : Int) (v2 : Value) (l2 : List Int) (a3 : Int) (w : World) (h0 : PhonesIn w v0 l0) (_h1 : (Lit.int .i64 a1).wf = true) (h2 : IntsIn w v2 l2) (_h3 : (Lit.int .i64 a3).wf = true) : Calls Try.prog 24 #[v0, .int .i64 a1, v2, .int .i64 a3] w fun e w' => e = .returned (.bool true) ∧ Below w.heap.size w w' := by
  obtain ⟨A, n, c, rfl, k1, k2, r⟩ := h0.form
  obtain ⟨S, m, d, rfl, k3, k4, r2⟩ := h2.form
  exact syllableSplits_any A S n c m d a1 l0 l2 a3 w r r2 h0.fits k1 (by omega) (by omega)

theorem syllableSplits_own : ownKnob Try.prog.godebug = none := by kernel_rfl

set_option maxRecDepth 100000 in
theorem syllableSplits_lifted (os : Os) (started : os.Started) (H : Type) (enc : TypeId × Value → H) :
    ReturnsInHanded {} Try.checked os 24 .any (Rows.syllableSplitsSpec.pre6 enc Try.prog Try.f24 Rows.syllableSplitsRow.domain false) (Rows.syllableSplitsSpec.post enc Try.prog Try.f24 false true false false) := by
  refine returnsInHanded_of_change_sized (C := Try.checked) syllableSplits_own started (by kernel_rfl) Try.func24
    (ChangeSpec.witness6 (enc := enc) (C := Try.checked) false ⟨#[], #[.slice none 0 0, .int .i64 0, .slice none 0 0, .int .i64 0], []⟩ 8 (by kernel_rfl) (by kernel_rfl) (by kernel_rfl) (by kernel_rfl)) ?_
  intro W base args ds gs before hval0 hW _ hsz0 _
  have hsz : (DataW.weightsEach Try.prog (Try.f24.params.toList ++ Rows.syllableSplitsSpec.plain.varTypes Try.prog) (ds ++ gs)).all (· ≤ reachBytes) = true := hsz0
  clear hsz0
  have hval : ∀ (j : Nat) t v, Try.f24.params[j]? = some t → args[j]? = some v → Value.okWide Try.prog W .any base t v := hval0
  have hW' := hW
  obtain ⟨p, q, hA0, hV, rfl, _, _⟩ := hW
  have hA : DataW.TrodAll enc Try.prog W 0 (fun _ => true) true Try.f24.params.toList args.toList ds p := hA0
  rw [Try.params24] at hA hval hsz
  obtain ⟨v0, vs0, d0, ds0, p0, q0, hargs0, rfl, rfl, h0, r0⟩ := trodAll_cons hA
  obtain ⟨v1, vs1, d1, ds1, p1, q1, hargs1, rfl, rfl, h1, r1⟩ := trodAll_cons r0
  obtain ⟨v2, vs2, d2, ds2, p2, q2, hargs2, rfl, rfl, h2, r2⟩ := trodAll_cons r1
  obtain ⟨v3, vs3, d3, ds3, p3, q3, hargs3, rfl, rfl, h3, r3⟩ := trodAll_cons r2
  obtain ⟨rfl, rfl, rfl⟩ := trodAll_nil r3
  subst hargs3
  subst hargs2
  subst hargs1
  obtain rfl : args = #[v0, v1, v2, v3] := by cases args; simp_all
  obtain ⟨rfl, rfl⟩ := trodVars_none hV
  obtain ⟨l0, hS0⟩ := open_phones (j := 0) (hval 0 22 v0 rfl rfl) h0 hsz rfl rfl
  obtain ⟨a1, rfl, rfl, rfl, hS1⟩ := Go.ChangeShapes.open_int Try.underlying3 (hval 1 3 v1 rfl rfl) h1
  obtain ⟨l2, hS2⟩ := open_intss (j := 2) (hval 2 71 v2 rfl rfl) h2 hsz rfl rfl
  obtain ⟨a3, rfl, rfl, rfl, hS3⟩ := Go.ChangeShapes.open_int Try.underlying3 (hval 3 3 v3 rfl rfl) h3
  clear hA0 hval0
  simp only [List.append_nil] at hW'
  refine (syllableSplits_any' v0 l0 a1 v2 l2 a3 W hS0 hS1 hS2 hS3).mono fun e W' ⟨he, hg⟩ => ?_
  subst he
  have hst0 : ∀ sp : Nat → Bool, (∀ x ∈ p0, sp x.block = true) → (∀ x ∈ p0, x.block < W.heap.size) → DataW.Trod enc Try.prog W' 0 sp true 22 v0 d0 p0 := fun sp hsp hlt => WideElems.Trod_stays (by kernel_rfl) (by kernel_rfl) (of_decide_eq_true (by kernel_rfl)) h0 (fun x hx => hg.same (hlt x hx)) hsp
  have hst2 : ∀ sp : Nat → Bool, (∀ x ∈ p2, sp x.block = true) → (∀ x ∈ p2, x.block < W.heap.size) → DataW.Trod enc Try.prog W' 0 sp true 71 v2 d2 p2 := fun sp hsp hlt => WideElems.Trod_stays (by kernel_rfl) (by kernel_rfl) (of_decide_eq_true (by kernel_rfl)) h2 (fun x hx => hg.same (hlt x hx)) hsp
  exact ⟨_, rfl, post_of_below (pa := p0 ++ ([] ++ (p2 ++ ([])))) (pv := []) hW' (fun _ _ _ => (trodAll_cons_mk (shut_bool Try.underlying4 _) trodAll_mk0)) (fun sp hsp => trodAll_cons_mk (hst0 sp (fun x hx => hsp x (by simp [hx])) (fun x hx => hW'.lt x (by simp [hx]))) (trodAll_cons_mk (Go.ChangeShapes.shut_int Try.underlying3 hS1) (trodAll_cons_mk (hst2 sp (fun x hx => hsp x (by simp [hx])) (fun x hx => hW'.lt x (by simp [hx]))) (trodAll_mk1 (Go.ChangeShapes.shut_int Try.underlying3 hS3))))) (fun _ _ => rfl) (by simp)
    hg (ok_one (by kernel_rfl) rfl (okWide_bool_mk Try.underlying4 _))⟩

set_option maxRecDepth 100000 in
theorem syllableSplits_facts : joinedFacts Try.prog 24 Try.f24 Rows.syllableSplitsSpec Rows.syllableSplitsRow = true := by
  unfold joinedFacts
  rw [may_enter, lifts_final, make_is]
  kernel_rfl
theorem syllableSplits_named : Try.prog.funcNamed Rows.syllableSplitsRow.func = some 24 := by kernel_rfl
theorem syllableSplits_inst : Try.f24.isInstance Try.prog Rows.syllableSplitsRow.origin Rows.syllableSplitsRow.targs := of_decide_eq_true (by kernel_rfl)
theorem syllableSplits_wrap : Try.f24.isWrapper Try.prog Rows.syllableSplitsRow.wrapper Rows.syllableSplitsRow.mainSum := by
  unfold Func.isWrapper
  rw [if_neg (by decide +kernel)]
  exact ⟨rfl, rfl⟩
theorem syllableSplits_over : Rows.syllableSplitsRow.holds Try.pinned (OpenSpec.ofChange Rows.syllableSplitsSpec) :=
  OpenClaim.holds_of_wide 24 Try.f24 rfl rfl rfl rfl rfl rfl rfl ⟨rfl, rfl, rfl, rfl, rfl⟩ rfl rfl rfl rfl rfl syllableSplits_named Try.func24 syllableSplits_facts
    syllableSplits_inst syllableSplits_wrap
    (fun os started H enc _ => syllableSplits_lifted os started H enc)

theorem syllableSplits_holds : Rows.SyllableSplitsSaid :=
  syllableSplits_over
end Go.Proofs.Ytogofchpocoebaa
