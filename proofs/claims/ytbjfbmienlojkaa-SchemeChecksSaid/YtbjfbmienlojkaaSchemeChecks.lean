/-
  PROVED HERE: 'Rows.SchemeChecksSaid': for every input the law 'SchemeChecks' of package canticle/canticlelaw16 returns true, and the arguments read afterwards as they read before.
  No condition is laid on the input beyond the row's own.
-/
import Derived.Test.YtbjfbmienlojkaaRows
import Derived.WalkKit
import Derived.ProofKit
import Derived.OpenShut
import Derived.Carry
import Derived.SizedLaws
import Derived.Test.YtbjfbmienlojkaaLast
import Derived.Test.YtbjfbmienlojkaaT18
import Derived.Test.YtbjfbmienlojkaaT60
namespace Go.Proofs.Ytbjfbmienlojkaa
open Go.ChangeShapes Go.WideShapes Go.ChangeAt Go.RowKit

theorem schemeChecks_any (v0 : Value) (l0 : List (Int × Int)) (s0 : List Int) (w : World) (h : SchemeIn w v0 l0 s0) : Calls Try.prog 12 #[v0] w fun e w' => e = .returned (.bool true) ∧ Below w.heap.size w w' := by
  obtain ⟨A1, n1, c1, A2, n2, c2, rfl, g1, m1, g2, m2, r1, r2⟩ := h.form
  exact schemeChecks_w A1 A2 n1 c1 n2 c2 0 0 l0 s0 w r1 r2 (by omega) (by omega) g1 m1

theorem schemeChecks_own : ownKnob Try.prog.godebug = none := by kernel_rfl

set_option maxRecDepth 100000 in
theorem schemeChecks_lifted (os : Os) (started : os.Started) (H : Type) (enc : TypeId × Value → H) :
    ReturnsInHanded {} Try.checked os 12 .any (Rows.schemeChecksSpec.pre6 enc Try.prog Try.f12 Rows.schemeChecksRow.domain false) (Rows.schemeChecksSpec.post enc Try.prog Try.f12 false true false false) := by
  refine returnsInHanded_of_change_sized (C := Try.checked) schemeChecks_own started (by kernel_rfl) Try.func12
    (ChangeSpec.witness6 (enc := enc) (C := Try.checked) false ⟨#[], #[.agg #[.slice none 0 0, .slice none 0 0]], []⟩ 8 (by kernel_rfl) (by kernel_rfl) (by kernel_rfl) (by kernel_rfl)) ?_
  intro W base args ds gs before hval0 hW _ hsz0 _
  have hsz : (DataW.weightsEach Try.prog (Try.f12.params.toList ++ Rows.schemeChecksSpec.plain.varTypes Try.prog) (ds ++ gs)).all (· ≤ reachBytes) = true := hsz0
  clear hsz0
  have hval : ∀ (j : Nat) t v, Try.f12.params[j]? = some t → args[j]? = some v → Value.okWide Try.prog W .any base t v := hval0
  have hW' := hW
  obtain ⟨p, q, hA0, hV, rfl, _, _⟩ := hW
  have hA : DataW.TrodAll enc Try.prog W 0 (fun _ => true) true Try.f12.params.toList args.toList ds p := hA0
  rw [Try.params12] at hA hval hsz
  obtain ⟨v0, vs0, d0, ds0, p0, q0, hargs0, rfl, rfl, h0, r0⟩ := trodAll_cons hA
  obtain ⟨rfl, rfl, rfl⟩ := trodAll_nil r0
  obtain rfl : args = #[v0] := by cases args; simp_all
  obtain ⟨rfl, rfl⟩ := trodVars_none hV
  obtain ⟨l0, s0, hS0⟩ := open_scheme (hval 0 26 v0 rfl rfl) h0
  clear hA0 hval0
  simp only [List.append_nil] at hW'
  refine (schemeChecks_any v0 l0 s0 W hS0).mono fun e W' ⟨he, hg⟩ => ?_
  subst he
  have hst0 : ∀ sp : Nat → Bool, (∀ x ∈ p0, sp x.block = true) → (∀ x ∈ p0, x.block < W.heap.size) → DataW.Trod enc Try.prog W' 0 sp true 26 v0 d0 p0 := fun sp hsp hlt => WideElems.Trod_stays (by kernel_rfl) (by kernel_rfl) (of_decide_eq_true (by kernel_rfl)) h0 (fun x hx => hg.same (hlt x hx)) hsp
  exact ⟨_, rfl, post_of_below (pa := p0) (pv := []) hW' (fun _ _ _ => (trodAll_cons_mk (shut_bool Try.underlying4 _) trodAll_mk0)) (fun sp hsp => trodAll_mk1 (hst0 sp (fun x hx => hsp x (by simp [hx])) (fun x hx => hW'.lt x (by simp [hx])))) (fun _ _ => rfl) (List.append_nil _).symm
    hg (ok_one (by kernel_rfl) rfl (okWide_bool_mk Try.underlying4 _))⟩

theorem schemeChecks_over : Rows.schemeChecksRow.holds Try.pinned (OpenSpec.ofChange Rows.schemeChecksSpec) :=
  OpenClaim.holds_of_wide 12 Try.f12 rfl rfl rfl rfl rfl rfl rfl ⟨rfl, rfl, rfl, rfl, rfl⟩ rfl rfl rfl rfl rfl (by kernel_rfl) Try.func12 (by kernel_rfl)
    (of_decide_eq_true (by kernel_rfl)) (by unfold Func.isWrapper; first | (rw [if_pos (by decide +kernel)]; kernel_rfl) | (rw [if_neg (by decide +kernel)]; exact ⟨rfl, rfl⟩))
    (fun os started H enc _ => schemeChecks_lifted os started H enc)

theorem schemeChecks_holds : Rows.SchemeChecksSaid :=
  schemeChecks_over
end Go.Proofs.Ytbjfbmienlojkaa
