/-
  PROVED HERE: 'Rows.SchemeCountsSaid': for every input the law 'SchemeCounts' of package canticle/canticlelaw16 returns true, and the arguments read afterwards as they read before.
  No condition is laid on the input beyond the row's own.
-/
import Derived.Test.YtbjfbmienlojkaaRows
import Derived.WalkKit
import Derived.ProofKit
import Derived.OpenShut
import Derived.Carry
import Derived.SizedLaws
import Derived.Test.YtbjfbmienlojkaaLast
import Derived.Test.YtbjfbmienlojkaaT18
import Derived.Test.YtbjfbmienlojkaaT18
import Derived.Test.YtbjfbmienlojkaaT83
namespace Go.Proofs.Ytbjfbmienlojkaa
open Go.ChangeShapes Go.WideShapes Go.ChangeAt Go.RowKit

theorem schemeCounts_any (v0 : Value) (l0 : List (Int × Int)) (s0 : List Int) (a1 a2 : Int) (w : World) (h : SchemeBig w v0 l0 s0) (_h1 : (Lit.int .i64 a1).wf = true) (_h2 : (Lit.int .i64 a2).wf = true) : Calls Try.prog 9 #[v0, .int .i64 a1, .int .i64 a2] w fun e w' => e = .returned (.bool true) ∧ Below w.heap.size w w' := by
  obtain ⟨A1, n1, c1, A2, n2, c2, rfl, k1, m1, k2, m2, r1, r2⟩ := h.form
  exact schemeCounts_w A1 A2 n1 c1 n2 c2 l0 s0 a1 a2 w r1 r2 (by unfold maxLen; omega) (by unfold maxLen; omega)


theorem schemeCounts_own : ownKnob Try.prog.godebug = none := by kernel_rfl

set_option maxRecDepth 100000 in
theorem schemeCounts_lifted (os : Os) (started : os.Started) (H : Type) (enc : TypeId × Value → H) :
    ReturnsInHanded {} Try.checked os 9 .any (Rows.schemeCountsSpec.pre6 enc Try.prog Try.f9 Rows.schemeCountsRow.domain false) (Rows.schemeCountsSpec.post enc Try.prog Try.f9 false true false false) := by
  refine returnsInHanded_of_change_sized (C := Try.checked) schemeCounts_own started (by kernel_rfl) Try.func9
    (ChangeSpec.witness6 (enc := enc) (C := Try.checked) false ⟨#[], #[.agg #[.slice none 0 0, .slice none 0 0], .int .i64 0, .int .i64 0], []⟩ 8 (by kernel_rfl) (by kernel_rfl) (by kernel_rfl) (by kernel_rfl)) ?_
  intro W base args ds gs before hval0 hW _ hsz0 _
  have hsz : (DataW.weightsEach Try.prog (Try.f9.params.toList ++ Rows.schemeCountsSpec.plain.varTypes Try.prog) (ds ++ gs)).all (· ≤ reachBytes) = true := hsz0
  clear hsz0
  have hval : ∀ (j : Nat) t v, Try.f9.params[j]? = some t → args[j]? = some v → Value.okWide Try.prog W .any base t v := hval0
  have hW' := hW
  obtain ⟨p, q, hA0, hV, rfl, _, _⟩ := hW
  have hA : DataW.TrodAll enc Try.prog W 0 (fun _ => true) true Try.f9.params.toList args.toList ds p := hA0
  rw [Try.params9] at hA hval hsz
  obtain ⟨v0, vs0, d0, ds0, p0, q0, hargs0, rfl, rfl, h0, r0⟩ := trodAll_cons hA
  obtain ⟨v1, vs1, d1, ds1, p1, q1, hargs1, rfl, rfl, h1, r1⟩ := trodAll_cons r0
  obtain ⟨v2, vs2, d2, ds2, p2, q2, hargs2, rfl, rfl, h2, r2⟩ := trodAll_cons r1
  obtain ⟨rfl, rfl, rfl⟩ := trodAll_nil r2
  subst hargs2
  subst hargs1
  obtain rfl : args = #[v0, v1, v2] := by cases args; simp_all
  obtain ⟨rfl, rfl⟩ := trodVars_none hV
  obtain ⟨l0, s0, hS0⟩ := open_scheme_big (j := 0) (hval 0 26 v0 rfl rfl) h0 hsz rfl rfl
  obtain ⟨a1, rfl, rfl, rfl, hS1⟩ := Go.ChangeShapes.open_int Try.underlying3 (hval 1 3 v1 rfl rfl) h1
  obtain ⟨a2, rfl, rfl, rfl, hS2⟩ := Go.ChangeShapes.open_int Try.underlying3 (hval 2 3 v2 rfl rfl) h2
  clear hA0 hval0
  simp only [List.append_nil] at hW'
  refine (schemeCounts_any v0 l0 s0 a1 a2 W hS0 hS1 hS2).mono fun e W' ⟨he, hg⟩ => ?_
  subst he
  have hst0 : ∀ sp : Nat → Bool, (∀ x ∈ p0, sp x.block = true) → (∀ x ∈ p0, x.block < W.heap.size) → DataW.Trod enc Try.prog W' 0 sp true 26 v0 d0 p0 := fun sp hsp hlt => WideElems.Trod_stays (by kernel_rfl) (by kernel_rfl) (of_decide_eq_true (by kernel_rfl)) h0 (fun x hx => hg.same (hlt x hx)) hsp
  exact ⟨_, rfl, post_of_below (pa := p0 ++ ([] ++ ([]))) (pv := []) hW' (fun _ _ _ => (trodAll_cons_mk (shut_bool Try.underlying4 _) trodAll_mk0)) (fun sp hsp => trodAll_cons_mk (hst0 sp (fun x hx => hsp x (by simp [hx])) (fun x hx => hW'.lt x (by simp [hx]))) (trodAll_cons_mk (Go.ChangeShapes.shut_int Try.underlying3 hS1) (trodAll_mk1 (Go.ChangeShapes.shut_int Try.underlying3 hS2)))) (fun _ _ => rfl) (by simp)
    hg (ok_one (by kernel_rfl) rfl (okWide_bool_mk Try.underlying4 _))⟩

theorem schemeCounts_over : Rows.schemeCountsRow.holds Try.pinned (OpenSpec.ofChange Rows.schemeCountsSpec) :=
  OpenClaim.holds_of_wide 9 Try.f9 rfl rfl rfl rfl rfl rfl rfl ⟨rfl, rfl, rfl, rfl, rfl⟩ rfl rfl rfl rfl rfl (by kernel_rfl) Try.func9 (by kernel_rfl)
    (of_decide_eq_true (by kernel_rfl)) (by unfold Func.isWrapper; first | (rw [if_pos (by decide +kernel)]; kernel_rfl) | (rw [if_neg (by decide +kernel)]; exact ⟨rfl, rfl⟩))
    (fun os started H enc _ => schemeCounts_lifted os started H enc)

theorem schemeCounts_holds : Rows.SchemeCountsSaid :=
  schemeCounts_over
end Go.Proofs.Ytbjfbmienlojkaa
