/-
  PROVED HERE: 'Rows.SchemeMeetsSaid': for every input the law 'SchemeMeets' of package canticle/canticlelaw16 returns true, and the arguments read afterwards as they read before.
  No condition is laid on the input beyond the row's own.
-/
import Derived.Test.YtbjfbmienlojkaaRows
import Derived.WalkKit
import Derived.ProofKit
import Derived.OpenShut
import Derived.Carry
import Derived.SizedLaws
import Derived.Test.YtbjfbmienlojkaaLast
import Derived.Test.YtbjfbmienlojkaaT18
import Derived.Test.YtbjfbmienlojkaaT74
namespace Go.Proofs.Ytbjfbmienlojkaa
open Go.ChangeShapes Go.WideShapes Go.ChangeAt Go.RowKit

theorem schemeMeets_any (v0 : Value) (l0 : List (Int × Int)) (s0 : List Int) (v1 : Value) (l1 : List (Int × Int)) (s1 : List Int) (w : World) (h : SchemeBig w v0 l0 s0) (k : SchemeBig w v1 l1 s1) : Calls Try.prog 10 #[v0, v1] w fun e w' => e = .returned (.bool true) ∧ Below w.heap.size w w' := by
  obtain ⟨A1, n1, c1, A2, n2, c2, rfl, k1, m1, k2, m2, r1, r2⟩ := h.form
  obtain ⟨B1, n3, c3, B2, n4, c4, rfl, k3, m3, k4, m4, r3, r4⟩ := k.form
  exact schemeMeets_w A1 A2 B1 B2 n1 c1 n2 c2 n3 c3 n4 c4 l0 l1 s0 s1 w r1 r2 r3 r4 k1 m1 (by omega) k3 m3 (by omega)


theorem schemeMeets_own : ownKnob Try.prog.godebug = none := by kernel_rfl

set_option maxRecDepth 100000 in
theorem schemeMeets_lifted (os : Os) (started : os.Started) (H : Type) (enc : TypeId × Value → H) :
    ReturnsInHanded {} Try.checked os 10 .any (Rows.schemeMeetsSpec.pre6 enc Try.prog Try.f10 Rows.schemeMeetsRow.domain false) (Rows.schemeMeetsSpec.post enc Try.prog Try.f10 false true false false) := by
  refine returnsInHanded_of_change_sized (C := Try.checked) schemeMeets_own started (by kernel_rfl) Try.func10
    (ChangeSpec.witness6 (enc := enc) (C := Try.checked) false ⟨#[], #[.agg #[.slice none 0 0, .slice none 0 0], .agg #[.slice none 0 0, .slice none 0 0]], []⟩ 8 (by kernel_rfl) (by kernel_rfl) (by kernel_rfl) (by kernel_rfl)) ?_
  intro W base args ds gs before hval0 hW _ hsz0 _
  have hsz : (DataW.weightsEach Try.prog (Try.f10.params.toList ++ Rows.schemeMeetsSpec.plain.varTypes Try.prog) (ds ++ gs)).all (· ≤ reachBytes) = true := hsz0
  clear hsz0
  have hval : ∀ (j : Nat) t v, Try.f10.params[j]? = some t → args[j]? = some v → Value.okWide Try.prog W .any base t v := hval0
  have hW' := hW
  obtain ⟨p, q, hA0, hV, rfl, _, _⟩ := hW
  have hA : DataW.TrodAll enc Try.prog W 0 (fun _ => true) true Try.f10.params.toList args.toList ds p := hA0
  rw [Try.params10] at hA hval hsz
  obtain ⟨v0, vs0, d0, ds0, p0, q0, hargs0, rfl, rfl, h0, r0⟩ := trodAll_cons hA
  obtain ⟨v1, vs1, d1, ds1, p1, q1, hargs1, rfl, rfl, h1, r1⟩ := trodAll_cons r0
  obtain ⟨rfl, rfl, rfl⟩ := trodAll_nil r1
  subst hargs1
  obtain rfl : args = #[v0, v1] := by cases args; simp_all
  obtain ⟨rfl, rfl⟩ := trodVars_none hV
  obtain ⟨l0, s0, hS0⟩ := open_scheme_big (j := 0) (hval 0 26 v0 rfl rfl) h0 hsz rfl rfl
  obtain ⟨l1, s1, hS1⟩ := open_scheme_big (j := 1) (hval 1 26 v1 rfl rfl) h1 hsz rfl rfl
  clear hA0 hval0
  simp only [List.append_nil] at hW'
  refine (schemeMeets_any v0 l0 s0 v1 l1 s1 W hS0 hS1).mono fun e W' ⟨he, hg⟩ => ?_
  subst he
  have hst0 : ∀ sp : Nat → Bool, (∀ x ∈ p0, sp x.block = true) → (∀ x ∈ p0, x.block < W.heap.size) → DataW.Trod enc Try.prog W' 0 sp true 26 v0 d0 p0 := fun sp hsp hlt => WideElems.Trod_stays (by kernel_rfl) (by kernel_rfl) (of_decide_eq_true (by kernel_rfl)) h0 (fun x hx => hg.same (hlt x hx)) hsp
  have hst1 : ∀ sp : Nat → Bool, (∀ x ∈ p1, sp x.block = true) → (∀ x ∈ p1, x.block < W.heap.size) → DataW.Trod enc Try.prog W' 0 sp true 26 v1 d1 p1 := fun sp hsp hlt => WideElems.Trod_stays (by kernel_rfl) (by kernel_rfl) (of_decide_eq_true (by kernel_rfl)) h1 (fun x hx => hg.same (hlt x hx)) hsp
  exact ⟨_, rfl, post_of_below (pa := p0 ++ (p1)) (pv := []) hW' (fun _ _ _ => (trodAll_cons_mk (shut_bool Try.underlying4 _) trodAll_mk0)) (fun sp hsp => trodAll_cons_mk (hst0 sp (fun x hx => hsp x (by simp [hx])) (fun x hx => hW'.lt x (by simp [hx]))) (trodAll_mk1 (hst1 sp (fun x hx => hsp x (by simp [hx])) (fun x hx => hW'.lt x (by simp [hx]))))) (fun _ _ => rfl) (List.append_nil _).symm
    hg (ok_one (by kernel_rfl) rfl (okWide_bool_mk Try.underlying4 _))⟩

theorem schemeMeets_over : Rows.schemeMeetsRow.holds Try.pinned (OpenSpec.ofChange Rows.schemeMeetsSpec) :=
  OpenClaim.holds_of_wide 10 Try.f10 rfl rfl rfl rfl rfl rfl rfl ⟨rfl, rfl, rfl, rfl, rfl⟩ rfl rfl rfl rfl rfl (by kernel_rfl) Try.func10 (by kernel_rfl)
    (of_decide_eq_true (by kernel_rfl)) (by unfold Func.isWrapper; first | (rw [if_pos (by decide +kernel)]; kernel_rfl) | (rw [if_neg (by decide +kernel)]; exact ⟨rfl, rfl⟩))
    (fun os started H enc _ => schemeMeets_lifted os started H enc)

theorem schemeMeets_holds : Rows.SchemeMeetsSaid :=
  schemeMeets_over
end Go.Proofs.Ytbjfbmienlojkaa
