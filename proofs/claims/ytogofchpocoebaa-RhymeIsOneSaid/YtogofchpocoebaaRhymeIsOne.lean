/-
  PROVED HERE: 'Rows.RhymeIsOneSaid': for every input the law 'RhymeIsOne' of package canticle/canticlelaw15 returns true, and the arguments read afterwards as they read before.
  No condition is laid on the input beyond the row's own.
-/
import Derived.Test.YtogofchpocoebaaRows
import Derived.WalkKit
import Derived.ProofKit
import Derived.OpenShut
import Derived.Carry
import Derived.SizedLaws
import Derived.Test.YtogofchpocoebaaMem
import Derived.ShutString
import Derived.Test.YtogofchpocoebaaS1
import Derived.Test.YtogofchpocoebaaHead
import Derived.Test.YtogofchpocoebaaV11
import Derived.Test.YtogofchpocoebaaY18
namespace Go.Proofs.Ytogofchpocoebaa
open Go.ChangeShapes Go.WideShapes Go.ChangeAt Go.RowKit

theorem rhymeIsOne_any' (v0 : Value) (x0 : Sd) (v1 : Value) (x1 : Sd) (v2 : Value) (x2 : Sd) (w : World) (e0 : v0 = .agg #[.slice x0.A x0.n x0.c, .slice x0.D x0.m x0.d]) (h0 : SdIn w w.heap.size x0) (e1 : v1 = .agg #[.slice x1.A x1.n x1.c, .slice x1.D x1.m x1.d]) (h1 : SdIn w w.heap.size x1) (e2 : v2 = .agg #[.slice x2.A x2.n x2.c, .slice x2.D x2.m x2.d]) (h2 : SdIn w w.heap.size x2) :
    Calls Try.prog 16 #[v0, v1, v2] w fun e w' => e = .returned (.bool true) ∧ Below w.heap.size w w' := by
  subst e0 e1 e2
  exact rhymeIsOne_any x0 x1 x2 w h0 h1 h2

theorem rhymeIsOne_own : ownKnob Try.prog.godebug = none := by kernel_rfl

set_option maxRecDepth 100000 in
theorem rhymeIsOne_lifted (os : Os) (started : os.Started) (H : Type) (enc : TypeId × Value → H) :
    ReturnsInHanded {} Try.checked os 16 .any (Rows.rhymeIsOneSpec.pre6 enc Try.prog Try.f16 Rows.rhymeIsOneRow.domain false) (Rows.rhymeIsOneSpec.post enc Try.prog Try.f16 false true false false) := by
  refine returnsInHanded_of_change_sized (C := Try.checked) rhymeIsOne_own started (by kernel_rfl) Try.func16
    (ChangeSpec.witness6 (enc := enc) (C := Try.checked) false ⟨#[], #[.agg #[.slice none 0 0, .slice none 0 0], .agg #[.slice none 0 0, .slice none 0 0], .agg #[.slice none 0 0, .slice none 0 0]], []⟩ 8 (by kernel_rfl) (by kernel_rfl) (by kernel_rfl) (by kernel_rfl)) ?_
  intro W base args ds gs before hval0 hW _ hsz0 _
  have hsz : (DataW.weightsEach Try.prog (Try.f16.params.toList ++ Rows.rhymeIsOneSpec.plain.varTypes Try.prog) (ds ++ gs)).all (· ≤ reachBytes) = true := hsz0
  clear hsz0
  have hval : ∀ (j : Nat) t v, Try.f16.params[j]? = some t → args[j]? = some v → Value.okWide Try.prog W .any base t v := hval0
  have hW' := hW
  obtain ⟨p, q, hA0, hV, rfl, _, _⟩ := hW
  have hA : DataW.TrodAll enc Try.prog W 0 (fun _ => true) true Try.f16.params.toList args.toList ds p := hA0
  rw [Try.params16] at hA hval hsz
  obtain ⟨v0, vs0, d0, ds0, p0, q0, hargs0, rfl, rfl, h0, r0⟩ := trodAll_cons hA
  obtain ⟨v1, vs1, d1, ds1, p1, q1, hargs1, rfl, rfl, h1, r1⟩ := trodAll_cons r0
  obtain ⟨v2, vs2, d2, ds2, p2, q2, hargs2, rfl, rfl, h2, r2⟩ := trodAll_cons r1
  obtain ⟨rfl, rfl, rfl⟩ := trodAll_nil r2
  subst hargs2
  subst hargs1
  obtain rfl : args = #[v0, v1, v2] := by cases args; simp_all
  obtain ⟨rfl, rfl⟩ := trodVars_none hV
  obtain ⟨x0, e0, hS0⟩ := open_said (hval 0 25 v0 rfl rfl) h0
  obtain ⟨x1, e1, hS1⟩ := open_said (hval 1 25 v1 rfl rfl) h1
  obtain ⟨x2, e2, hS2⟩ := open_said (hval 2 25 v2 rfl rfl) h2
  clear hA0 hval0
  simp only [List.append_nil] at hW'
  refine (rhymeIsOne_any' v0 x0 v1 x1 v2 x2 W e0 hS0 e1 hS1 e2 hS2).mono fun e W' ⟨he, hg⟩ => ?_
  subst he
  have hst0 : ∀ sp : Nat → Bool, (∀ x ∈ p0, sp x.block = true) → (∀ x ∈ p0, x.block < W.heap.size) → DataW.Trod enc Try.prog W' 0 sp true 25 v0 d0 p0 := fun sp hsp hlt => WideElems.Trod_stays (by kernel_rfl) (by kernel_rfl) (of_decide_eq_true (by kernel_rfl)) h0 (fun x hx => hg.same (hlt x hx)) hsp
  have hst1 : ∀ sp : Nat → Bool, (∀ x ∈ p1, sp x.block = true) → (∀ x ∈ p1, x.block < W.heap.size) → DataW.Trod enc Try.prog W' 0 sp true 25 v1 d1 p1 := fun sp hsp hlt => WideElems.Trod_stays (by kernel_rfl) (by kernel_rfl) (of_decide_eq_true (by kernel_rfl)) h1 (fun x hx => hg.same (hlt x hx)) hsp
  have hst2 : ∀ sp : Nat → Bool, (∀ x ∈ p2, sp x.block = true) → (∀ x ∈ p2, x.block < W.heap.size) → DataW.Trod enc Try.prog W' 0 sp true 25 v2 d2 p2 := fun sp hsp hlt => WideElems.Trod_stays (by kernel_rfl) (by kernel_rfl) (of_decide_eq_true (by kernel_rfl)) h2 (fun x hx => hg.same (hlt x hx)) hsp
  exact ⟨_, rfl, post_of_below (pa := p0 ++ (p1 ++ (p2))) (pv := []) hW' (fun _ _ _ => (trodAll_cons_mk (shut_bool Try.underlying4 _) trodAll_mk0)) (fun sp hsp => trodAll_cons_mk (hst0 sp (fun x hx => hsp x (by simp [hx])) (fun x hx => hW'.lt x (by simp [hx]))) (trodAll_cons_mk (hst1 sp (fun x hx => hsp x (by simp [hx])) (fun x hx => hW'.lt x (by simp [hx]))) (trodAll_mk1 (hst2 sp (fun x hx => hsp x (by simp [hx])) (fun x hx => hW'.lt x (by simp [hx])))))) (fun _ _ => rfl) (by simp)
    hg (ok_one (by kernel_rfl) rfl (okWide_bool_mk Try.underlying4 _))⟩

set_option maxRecDepth 100000 in
theorem rhymeIsOne_facts : joinedFacts Try.prog 16 Try.f16 Rows.rhymeIsOneSpec Rows.rhymeIsOneRow = true := by
  unfold joinedFacts
  rw [may_enter, lifts_final, make_is]
  kernel_rfl
theorem rhymeIsOne_named : Try.prog.funcNamed Rows.rhymeIsOneRow.func = some 16 := by kernel_rfl
theorem rhymeIsOne_inst : Try.f16.isInstance Try.prog Rows.rhymeIsOneRow.origin Rows.rhymeIsOneRow.targs := of_decide_eq_true (by kernel_rfl)
theorem rhymeIsOne_wrap : Try.f16.isWrapper Try.prog Rows.rhymeIsOneRow.wrapper Rows.rhymeIsOneRow.mainSum := by
  unfold Func.isWrapper
  rw [if_neg (by decide +kernel)]
  exact ⟨rfl, rfl⟩
theorem rhymeIsOne_over : Rows.rhymeIsOneRow.holds Try.pinned (OpenSpec.ofChange Rows.rhymeIsOneSpec) :=
  OpenClaim.holds_of_wide 16 Try.f16 rfl rfl rfl rfl rfl rfl rfl ⟨rfl, rfl, rfl, rfl, rfl⟩ rfl rfl rfl rfl rfl rhymeIsOne_named Try.func16 rhymeIsOne_facts
    rhymeIsOne_inst rhymeIsOne_wrap
    (fun os started H enc _ => rhymeIsOne_lifted os started H enc)

theorem rhymeIsOne_holds : Rows.RhymeIsOneSaid :=
  rhymeIsOne_over
end Go.Proofs.Ytogofchpocoebaa
