/-
  PROVED HERE: 'Rows.PhoneRunesSaid': for every input the law 'PhoneRunes' of package canticle/canticlelaw08 returns true, and the arguments read afterwards as they read before.
  No condition is laid on the input beyond the row's own.
-/
import Derived.Test.YtogofchpocoebaaRows
import Derived.WalkKit
import Derived.ProofKit
import Derived.OpenShut
import Derived.Carry
import Derived.SizedLaws
import Derived.Test.YtogofchpocoebaaLast
import Derived.ShutString
import Derived.Test.YtogofchpocoebaaS1
import Derived.Test.YtogofchpocoebaaHead
import Derived.Test.YtogofchpocoebaaS7
import Derived.Test.YtogofchpocoebaaOpen
namespace Go.Proofs.Ytogofchpocoebaa
open Go.ChangeShapes Go.WideShapes Go.ChangeAt Go.RowKit

theorem phoneRunes_any' (a0 : Int) (v1 : Value) (x1 : Ph) (w : World) (h0 : (Lit.int .i32 a0).wf = true) (e1 : v1 = .agg #[.int .i32 x1.1, .bool x1.2.1, .int .i32 x1.2.2]) (h1 : fit32 x1.1) : Calls Try.prog 6 #[.int .i32 a0, v1] w fun e w' => e = .returned (.bool true) ∧ Below w.heap.size w w' := by
  subst e1
  simp only [Lit.wf, Bool.and_eq_true, decide_eq_true_eq] at h0
  exact phoneRunes_any a0 x1 w h0 h1

theorem phoneRunes_own : ownKnob Try.prog.godebug = none := by kernel_rfl

set_option maxRecDepth 100000 in
theorem phoneRunes_lifted (os : Os) (started : os.Started) (H : Type) (enc : TypeId × Value → H) :
    ReturnsInHanded {} Try.checked os 6 .any (Rows.phoneRunesSpec.pre6 enc Try.prog Try.f6 Rows.phoneRunesRow.domain false) (Rows.phoneRunesSpec.post enc Try.prog Try.f6 false true false false) := by
  refine returnsInHanded_of_change_sized (C := Try.checked) phoneRunes_own started (by kernel_rfl) Try.func6
    (ChangeSpec.witness6 (enc := enc) (C := Try.checked) false ⟨#[], #[.int .i32 0, .agg #[.int .i32 0, .bool false, .int .i32 0]], []⟩ 8 (by kernel_rfl) (by kernel_rfl) (by kernel_rfl) (by kernel_rfl)) ?_
  intro W base args ds gs before hval0 hW _ hsz0 _
  have hsz : (DataW.weightsEach Try.prog (Try.f6.params.toList ++ Rows.phoneRunesSpec.plain.varTypes Try.prog) (ds ++ gs)).all (· ≤ reachBytes) = true := hsz0
  clear hsz0
  have hval : ∀ (j : Nat) t v, Try.f6.params[j]? = some t → args[j]? = some v → Value.okWide Try.prog W .any base t v := hval0
  have hW' := hW
  obtain ⟨p, q, hA0, hV, rfl, _, _⟩ := hW
  have hA : DataW.TrodAll enc Try.prog W 0 (fun _ => true) true Try.f6.params.toList args.toList ds p := hA0
  rw [Try.params6] at hA hval hsz
  obtain ⟨v0, vs0, d0, ds0, p0, q0, hargs0, rfl, rfl, h0, r0⟩ := trodAll_cons hA
  obtain ⟨v1, vs1, d1, ds1, p1, q1, hargs1, rfl, rfl, h1, r1⟩ := trodAll_cons r0
  obtain ⟨rfl, rfl, rfl⟩ := trodAll_nil r1
  subst hargs1
  obtain rfl : args = #[v0, v1] := by cases args; simp_all
  obtain ⟨rfl, rfl⟩ := trodVars_none hV
  obtain ⟨a0, rfl, rfl, rfl, hS0⟩ := Go.ChangeShapes.open_int Try.underlying21 (hval 0 21 v0 rfl rfl) h0
  obtain ⟨x1, e1, hS1⟩ := open_phone (hval 1 43 v1 rfl rfl) h1
  clear hA0 hval0
  simp only [List.append_nil] at hW'
  refine (phoneRunes_any' a0 v1 x1 W hS0 e1 hS1).mono fun e W' ⟨he, hg⟩ => ?_
  subst he
  have hst1 : ∀ sp : Nat → Bool, (∀ x ∈ p1, sp x.block = true) → (∀ x ∈ p1, x.block < W.heap.size) → DataW.Trod enc Try.prog W' 0 sp true 43 v1 d1 p1 := fun sp hsp hlt => WideElems.Trod_stays (by kernel_rfl) (by kernel_rfl) (of_decide_eq_true (by kernel_rfl)) h1 (fun x hx => hg.same (hlt x hx)) hsp
  exact ⟨_, rfl, post_of_below (pa := [] ++ (p1)) (pv := []) hW' (fun _ _ _ => (trodAll_cons_mk (shut_bool Try.underlying4 _) trodAll_mk0)) (fun sp hsp => trodAll_cons_mk (Go.ChangeShapes.shut_int Try.underlying21 hS0) (trodAll_mk1 (hst1 sp (fun x hx => hsp x (by simp [hx])) (fun x hx => hW'.lt x (by simp [hx]))))) (fun _ _ => rfl) (by simp)
    hg (ok_one (by kernel_rfl) rfl (okWide_bool_mk Try.underlying4 _))⟩

set_option maxRecDepth 100000 in
theorem phoneRunes_facts : joinedFacts Try.prog 6 Try.f6 Rows.phoneRunesSpec Rows.phoneRunesRow = true := by
  unfold joinedFacts
  rw [may_enter, lifts_final, make_is]
  kernel_rfl
theorem phoneRunes_named : Try.prog.funcNamed Rows.phoneRunesRow.func = some 6 := by kernel_rfl
theorem phoneRunes_inst : Try.f6.isInstance Try.prog Rows.phoneRunesRow.origin Rows.phoneRunesRow.targs := of_decide_eq_true (by kernel_rfl)
theorem phoneRunes_wrap : Try.f6.isWrapper Try.prog Rows.phoneRunesRow.wrapper Rows.phoneRunesRow.mainSum := by
  unfold Func.isWrapper
  rw [if_neg (by decide +kernel)]
  exact ⟨rfl, rfl⟩
theorem phoneRunes_over : Rows.phoneRunesRow.holds Try.pinned (OpenSpec.ofChange Rows.phoneRunesSpec) :=
  OpenClaim.holds_of_wide 6 Try.f6 rfl rfl rfl rfl rfl rfl rfl ⟨rfl, rfl, rfl, rfl, rfl⟩ rfl rfl rfl rfl rfl phoneRunes_named Try.func6 phoneRunes_facts
    phoneRunes_inst phoneRunes_wrap
    (fun os started H enc _ => phoneRunes_lifted os started H enc)

theorem phoneRunes_holds : Rows.PhoneRunesSaid :=
  phoneRunes_over
end Go.Proofs.Ytogofchpocoebaa
