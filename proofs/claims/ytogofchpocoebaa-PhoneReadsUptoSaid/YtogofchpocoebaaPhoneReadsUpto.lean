/-
  PROVED HERE: 'Rows.PhoneReadsUptoSaid': where the arguments hold together at most 1048576 values and letters, the law 'PhoneReads' of package canticle/canticlelaw08 returns true, and the arguments read afterwards as they read before.
  No condition is laid on the input beyond the row's own.
-/
import Derived.Test.YtogofchpocoebaaRows
import Derived.WalkKit
import Derived.ProofKit
import Derived.OpenShut
import Derived.Carry
import Derived.JoinedCond
import Derived.Test.YtogofchpocoebaaLast
import Derived.ShutString
import Derived.Test.YtogofchpocoebaaHead
import Derived.Test.YtogofchpocoebaaS11
namespace Go.Proofs.Ytogofchpocoebaa
open Go.ChangeShapes Go.WideShapes Go.ChangeAt Go.RowKit

theorem phoneReads_any' (a0 : ByteArray) (a1 : Int) (w : World) (h : a0.size ≤ 1048576) : Calls Try.prog 7 #[.string a0, .int .i64 a1] w fun e w' => e = .returned (.bool true) ∧ Below w.heap.size w w' :=
  phoneReads_any a0 a1 w (by omega)

theorem phoneReadsU_own : ownKnob Try.prog.godebug = none := by kernel_rfl

theorem phoneReadsU_small {H : Type} {a0 : ByteArray} {a1 : Int} (hk : Rows.uptoSmall H [DataW.lit (H := H) (.string a0.data.toList), DataW.lit (H := H) (.int .i64 a1)] = true) : a0.size ≤ 1048576 := by
  have h : Rows.uptoBulkAll [DataW.lit (H := H) (.string a0.data.toList), DataW.lit (H := H) (.int .i64 a1)] ≤ 1048576 := of_decide_eq_true hk
  simp only [Rows.uptoBulkAll, Rows.uptoBulk] at h
  have e0 : a0.data.toList.length = a0.size := by rw [Array.length_toList]; rfl
  omega

set_option maxRecDepth 100000 in
theorem phoneReadsU_lifted (os : Os) (started : os.Started) (H : Type) (enc : TypeId × Value → H) (F : Stop.Interp) :
    ReturnsInHanded {} Try.checked os 7 .any ((Rows.OpenSpec.upto Rows.phoneReadsSpec).pre6 enc Try.prog Try.f7 Rows.phoneReadsUptoRow.domain false) (((Rows.OpenSpec.upto Rows.phoneReadsSpec).at F).post enc Try.prog Try.f7 false true false false) := by
  refine returnsInHanded_of_cond (C := Try.checked) (s := Rows.OpenSpec.upto Rows.phoneReadsSpec) (k := Rows.uptoSmall) rfl phoneReadsU_own started (by kernel_rfl) Try.func7
    (OpenSpec.witness (enc := enc) (C := Try.checked) (s := Rows.OpenSpec.upto Rows.phoneReadsSpec) (k := Rows.uptoSmall) rfl false ⟨#[], #[.string .empty, .int .i64 0], []⟩ 8 (by kernel_rfl) (by kernel_rfl) (by kernel_rfl)
      (x := ([.lit (.string []), .lit (.int .i64 0)], [], [])) (by kernel_rfl) rfl (by kernel_rfl)) ?_
  intro W base args ds gs before hval0 hW0 _ hk _
  have hval : ∀ (j : Nat) t v, Try.f7.params[j]? = some t → args[j]? = some v → Value.okWide Try.prog W .any base t v := hval0
  have hW : DataW.Whole enc Try.prog Try.f7.params.toList Rows.phoneReadsSpec.vars false W args.toList ds gs before := hW0
  have hW' := hW
  obtain ⟨p, q, hA0, hV, rfl, _, _⟩ := hW
  have hA : DataW.TrodAll enc Try.prog W 0 (fun _ => true) true Try.f7.params.toList args.toList ds p := hA0
  rw [Try.params7] at hA hval
  obtain ⟨v0, vs0, d0, ds0, p0, q0, hargs0, rfl, rfl, h0, r0⟩ := trodAll_cons hA
  obtain ⟨v1, vs1, d1, ds1, p1, q1, hargs1, rfl, rfl, h1, r1⟩ := trodAll_cons r0
  obtain ⟨rfl, rfl, rfl⟩ := trodAll_nil r1
  subst hargs1
  obtain rfl : args = #[v0, v1] := by cases args; simp_all
  obtain ⟨rfl, rfl⟩ := trodVars_none hV
  obtain ⟨a0, rfl, rfl, rfl, hS0⟩ := Go.ChangeMaps.open_string Try.underlying9 (hval 0 9 v0 rfl rfl) h0
  obtain ⟨a1, rfl, rfl, rfl, hS1⟩ := Go.ChangeShapes.open_int Try.underlying3 (hval 1 3 v1 rfl rfl) h1
  clear hA0 hval0 hW0
  simp only [List.append_nil] at hW' hk
  obtain hB0 := phoneReadsU_small hk
  refine (phoneReads_any' a0 a1 W hB0).mono fun e W' ⟨he, hg⟩ => ?_
  subst he
  exact ⟨_, rfl, post_of_below (pa := [] ++ ([])) (pv := []) hW' (fun _ _ _ => (trodAll_cons_mk (shut_bool Try.underlying4 _) trodAll_mk0)) (fun sp hsp => trodAll_cons_mk (Go.ChangeMaps.shut_string Try.underlying9 hS0) (trodAll_mk1 (Go.ChangeShapes.shut_int Try.underlying3 hS1))) (fun _ _ => rfl) (by simp)
    hg (ok_one (by kernel_rfl) rfl (okWide_bool_mk Try.underlying4 _))⟩

set_option maxRecDepth 100000 in
theorem phoneReadsU_facts : joinedFacts Try.prog 7 Try.f7 (Rows.OpenSpec.upto Rows.phoneReadsSpec).bare Rows.phoneReadsUptoRow = true := by
  unfold joinedFacts
  rw [may_enter, lifts_final, make_is]
  kernel_rfl
theorem phoneReadsU_named : Try.prog.funcNamed Rows.phoneReadsUptoRow.func = some 7 := by kernel_rfl
theorem phoneReadsU_inst : Try.f7.isInstance Try.prog Rows.phoneReadsUptoRow.origin Rows.phoneReadsUptoRow.targs := of_decide_eq_true (by kernel_rfl)
theorem phoneReadsU_wrap : Try.f7.isWrapper Try.prog Rows.phoneReadsUptoRow.wrapper Rows.phoneReadsUptoRow.mainSum := by
  unfold Func.isWrapper
  rw [if_neg (by decide +kernel)]
  exact ⟨rfl, rfl⟩
theorem phoneReadsU_over : Rows.phoneReadsUptoRow.holds Try.pinned (Rows.OpenSpec.upto Rows.phoneReadsSpec) :=
  OpenClaim.holds_of_cond 7 Try.f7 rfl rfl rfl rfl rfl rfl rfl ⟨rfl, rfl, rfl, rfl, rfl⟩ rfl rfl rfl rfl rfl phoneReadsU_named Try.func7 phoneReadsU_facts
    phoneReadsU_inst phoneReadsU_wrap
    (fun os started H enc _ F => phoneReadsU_lifted os started H enc F)

theorem phoneReadsUpto_holds : Rows.PhoneReadsUptoSaid :=
  phoneReadsU_over
end Go.Proofs.Ytogofchpocoebaa
