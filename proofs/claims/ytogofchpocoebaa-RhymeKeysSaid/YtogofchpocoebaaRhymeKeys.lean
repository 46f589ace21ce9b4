/-
  PROVED HERE: 'Rows.RhymeKeysSaid': for every input the law 'RhymeKeys' of package canticle/canticlelaw15 returns true, and the arguments read afterwards as they read before.
  No condition is laid on the input beyond the row's own.
-/
import Derived.Test.YtogofchpocoebaaRows
import Derived.WalkKit
import Derived.ProofKit
import Derived.OpenShut
import Derived.Carry
import Derived.SizedLaws
import Derived.Test.YtogofchpocoebaaMem
import Derived.ShutString
import Derived.Test.YtogofchpocoebaaS1
import Derived.Test.YtogofchpocoebaaHead
import Derived.Test.YtogofchpocoebaaV1
import Derived.Test.YtogofchpocoebaaY18
namespace Go.Proofs.Ytogofchpocoebaa
open Go.ChangeShapes Go.WideShapes Go.ChangeAt Go.RowKit

theorem rhymeKeys_any' (v0 : Value) (x0 : Sd) (w : World) (e : v0 = .agg #[.slice x0.A x0.n x0.c, .slice x0.D x0.m x0.d]) (h : SdIn w w.heap.size x0) : Calls Try.prog 9 #[v0] w fun e w' => e = .returned (.bool true) ∧ Below w.heap.size w w' := by
  subst e
  exact rhymeKeys_any x0 w.heap.size w h (Nat.le_refl _)

theorem rhymeKeys_own : ownKnob Try.prog.godebug = none := by kernel_rfl

set_option maxRecDepth 100000 in
theorem rhymeKeys_lifted (os : Os) (started : os.Started) (H : Type) (enc : TypeId × Value → H) :
    ReturnsInHanded {} Try.checked os 9 .any (Rows.rhymeKeysSpec.pre6 enc Try.prog Try.f9 Rows.rhymeKeysRow.domain false) (Rows.rhymeKeysSpec.post enc Try.prog Try.f9 false true false false) := by
  refine returnsInHanded_of_change_sized (C := Try.checked) rhymeKeys_own started (by kernel_rfl) Try.func9
    (ChangeSpec.witness6 (enc := enc) (C := Try.checked) false ⟨#[], #[.agg #[.slice none 0 0, .slice none 0 0]], []⟩ 8 (by kernel_rfl) (by kernel_rfl) (by kernel_rfl) (by kernel_rfl)) ?_
  intro W base args ds gs before hval0 hW _ hsz0 _
  have hsz : (DataW.weightsEach Try.prog (Try.f9.params.toList ++ Rows.rhymeKeysSpec.plain.varTypes Try.prog) (ds ++ gs)).all (· ≤ reachBytes) = true := hsz0
  clear hsz0
  have hval : ∀ (j : Nat) t v, Try.f9.params[j]? = some t → args[j]? = some v → Value.okWide Try.prog W .any base t v := hval0
  have hW' := hW
  obtain ⟨p, q, hA0, hV, rfl, _, _⟩ := hW
  have hA : DataW.TrodAll enc Try.prog W 0 (fun _ => true) true Try.f9.params.toList args.toList ds p := hA0
  rw [Try.params9] at hA hval hsz
  obtain ⟨v0, vs0, d0, ds0, p0, q0, hargs0, rfl, rfl, h0, r0⟩ := trodAll_cons hA
  obtain ⟨rfl, rfl, rfl⟩ := trodAll_nil r0
  obtain rfl : args = #[v0] := by cases args; simp_all
  obtain ⟨rfl, rfl⟩ := trodVars_none hV
  obtain ⟨x0, e0, hS0⟩ := open_said (hval 0 25 v0 rfl rfl) h0
  clear hA0 hval0
  simp only [List.append_nil] at hW'
  refine (rhymeKeys_any' v0 x0 W e0 hS0).mono fun e W' ⟨he, hg⟩ => ?_
  subst he
  have hst0 : ∀ sp : Nat → Bool, (∀ x ∈ p0, sp x.block = true) → (∀ x ∈ p0, x.block < W.heap.size) → DataW.Trod enc Try.prog W' 0 sp true 25 v0 d0 p0 := fun sp hsp hlt => WideElems.Trod_stays (by kernel_rfl) (by kernel_rfl) (of_decide_eq_true (by kernel_rfl)) h0 (fun x hx => hg.same (hlt x hx)) hsp
  exact ⟨_, rfl, post_of_below (pa := p0) (pv := []) hW' (fun _ _ _ => (trodAll_cons_mk (shut_bool Try.underlying4 _) trodAll_mk0)) (fun sp hsp => trodAll_mk1 (hst0 sp (fun x hx => hsp x (by simp [hx])) (fun x hx => hW'.lt x (by simp [hx])))) (fun _ _ => rfl) (by simp)
    hg (ok_one (by kernel_rfl) rfl (okWide_bool_mk Try.underlying4 _))⟩

set_option maxRecDepth 100000 in
theorem rhymeKeys_facts : joinedFacts Try.prog 9 Try.f9 Rows.rhymeKeysSpec Rows.rhymeKeysRow = true := by
  unfold joinedFacts
  rw [may_enter, lifts_final, make_is]
  kernel_rfl
theorem rhymeKeys_named : Try.prog.funcNamed Rows.rhymeKeysRow.func = some 9 := by kernel_rfl
theorem rhymeKeys_inst : Try.f9.isInstance Try.prog Rows.rhymeKeysRow.origin Rows.rhymeKeysRow.targs := of_decide_eq_true (by kernel_rfl)
theorem rhymeKeys_wrap : Try.f9.isWrapper Try.prog Rows.rhymeKeysRow.wrapper Rows.rhymeKeysRow.mainSum := by
  unfold Func.isWrapper
  rw [if_neg (by decide +kernel)]
  exact ⟨rfl, rfl⟩
theorem rhymeKeys_over : Rows.rhymeKeysRow.holds Try.pinned (OpenSpec.ofChange Rows.rhymeKeysSpec) :=
  OpenClaim.holds_of_wide 9 Try.f9 rfl rfl rfl rfl rfl rfl rfl ⟨rfl, rfl, rfl, rfl, rfl⟩ rfl rfl rfl rfl rfl rhymeKeys_named Try.func9 rhymeKeys_facts
    rhymeKeys_inst rhymeKeys_wrap
    (fun os started H enc _ => rhymeKeys_lifted os started H enc)

theorem rhymeKeys_holds : Rows.RhymeKeysSaid :=
  rhymeKeys_over
end Go.Proofs.Ytogofchpocoebaa
