/-
  PROVED HERE: 'Rows.SchemeFoundSaid': for every input the law 'SchemeFound' of package canticle/canticlelaw16 returns true, and the arguments read afterwards as they read before.
  No condition is laid on the input beyond the row's own.
-/
import Derived.Test.YtbjfbmienlojkaaRows
import Derived.WalkKit
import Derived.ProofKit
import Derived.OpenShut
import Derived.Carry
import Derived.SizedLaws
import Derived.Test.YtbjfbmienlojkaaLast
import Derived.Test.YtbjfbmienlojkaaT18
import Derived.Test.YtbjfbmienlojkaaT54
import Derived.Test.YtbjfbmienlojkaaTexts
namespace Go.Proofs.Ytbjfbmienlojkaa
open Go.ChangeShapes Go.WideShapes Go.ChangeAt Go.RowKit

theorem schemeFound_any (v0 : Value) (l0 : List (Int × Int)) (s0 : List Int) (v1 : Value) (k1 : List ByteArray) (w : World) (h : SchemeIn w v0 l0 s0) (k : TextsIn w v1 k1) : Calls Try.prog 8 #[v0, v1] w fun e w' => e = .returned (.bool true) ∧ Below w.heap.size w w' := by
  obtain ⟨A1, n1, c1, A2, n2, c2, rfl, g1, m1, g2, m2, r1, r2⟩ := h.form
  obtain ⟨A, n, c, rfl, g3, m3, r3, z3⟩ := k.form
  exact schemeFound_w A1 A2 A n1 c1 n2 c2 n c 0 0 0 l0 s0 k1 w r1 r2 r3 k.fits (by omega) (by omega) g3 z3

theorem schemeFound_own : ownKnob Try.prog.godebug = none := by kernel_rfl

set_option maxRecDepth 100000 in
theorem schemeFound_lifted (os : Os) (started : os.Started) (H : Type) (enc : TypeId × Value → H) :
    ReturnsInHanded {} Try.checked os 8 .any (Rows.schemeFoundSpec.pre6 enc Try.prog Try.f8 Rows.schemeFoundRow.domain false) (Rows.schemeFoundSpec.post enc Try.prog Try.f8 false true false false) := by
  refine returnsInHanded_of_change_sized (C := Try.checked) schemeFound_own started (by kernel_rfl) Try.func8
    (ChangeSpec.witness6 (enc := enc) (C := Try.checked) false ⟨#[], #[.agg #[.slice none 0 0, .slice none 0 0], .slice none 0 0], []⟩ 8 (by kernel_rfl) (by kernel_rfl) (by kernel_rfl) (by kernel_rfl)) ?_
  intro W base args ds gs before hval0 hW _ hsz0 _
  have hsz : (DataW.weightsEach Try.prog (Try.f8.params.toList ++ Rows.schemeFoundSpec.plain.varTypes Try.prog) (ds ++ gs)).all (· ≤ reachBytes) = true := hsz0
  clear hsz0
  have hval : ∀ (j : Nat) t v, Try.f8.params[j]? = some t → args[j]? = some v → Value.okWide Try.prog W .any base t v := hval0
  have hW' := hW
  obtain ⟨p, q, hA0, hV, rfl, _, _⟩ := hW
  have hA : DataW.TrodAll enc Try.prog W 0 (fun _ => true) true Try.f8.params.toList args.toList ds p := hA0
  rw [Try.params8] at hA hval hsz
  obtain ⟨v0, vs0, d0, ds0, p0, q0, hargs0, rfl, rfl, h0, r0⟩ := trodAll_cons hA
  obtain ⟨v1, vs1, d1, ds1, p1, q1, hargs1, rfl, rfl, h1, r1⟩ := trodAll_cons r0
  obtain ⟨rfl, rfl, rfl⟩ := trodAll_nil r1
  subst hargs1
  obtain rfl : args = #[v0, v1] := by cases args; simp_all
  obtain ⟨rfl, rfl⟩ := trodVars_none hV
  obtain ⟨l0, s0, hS0⟩ := open_scheme (hval 0 26 v0 rfl rfl) h0
  obtain ⟨k1, hS1⟩ := open_texts (j := 1) (hval 1 53 v1 rfl rfl) h1 hsz rfl rfl
  clear hA0 hval0
  simp only [List.append_nil] at hW'
  refine (schemeFound_any v0 l0 s0 v1 k1 W hS0 hS1).mono fun e W' ⟨he, hg⟩ => ?_
  subst he
  have hst0 : ∀ sp : Nat → Bool, (∀ x ∈ p0, sp x.block = true) → (∀ x ∈ p0, x.block < W.heap.size) → DataW.Trod enc Try.prog W' 0 sp true 26 v0 d0 p0 := fun sp hsp hlt => WideElems.Trod_stays (by kernel_rfl) (by kernel_rfl) (of_decide_eq_true (by kernel_rfl)) h0 (fun x hx => hg.same (hlt x hx)) hsp
  have hst1 : ∀ sp : Nat → Bool, (∀ x ∈ p1, sp x.block = true) → (∀ x ∈ p1, x.block < W.heap.size) → DataW.Trod enc Try.prog W' 0 sp true 53 v1 d1 p1 := fun sp hsp hlt => WideElems.Trod_stays (by kernel_rfl) (by kernel_rfl) (of_decide_eq_true (by kernel_rfl)) h1 (fun x hx => hg.same (hlt x hx)) hsp
  exact ⟨_, rfl, post_of_below (pa := p0 ++ (p1)) (pv := []) hW' (fun _ _ _ => (trodAll_cons_mk (shut_bool Try.underlying4 _) trodAll_mk0)) (fun sp hsp => trodAll_cons_mk (hst0 sp (fun x hx => hsp x (by simp [hx])) (fun x hx => hW'.lt x (by simp [hx]))) (trodAll_mk1 (hst1 sp (fun x hx => hsp x (by simp [hx])) (fun x hx => hW'.lt x (by simp [hx]))))) (fun _ _ => rfl) (List.append_nil _).symm
    hg (ok_one (by kernel_rfl) rfl (okWide_bool_mk Try.underlying4 _))⟩

theorem schemeFound_over : Rows.schemeFoundRow.holds Try.pinned (OpenSpec.ofChange Rows.schemeFoundSpec) :=
  OpenClaim.holds_of_wide 8 Try.f8 rfl rfl rfl rfl rfl rfl rfl ⟨rfl, rfl, rfl, rfl, rfl⟩ rfl rfl rfl rfl rfl (by kernel_rfl) Try.func8 (by kernel_rfl)
    (of_decide_eq_true (by kernel_rfl)) (by unfold Func.isWrapper; first | (rw [if_pos (by decide +kernel)]; kernel_rfl) | (rw [if_neg (by decide +kernel)]; exact ⟨rfl, rfl⟩))
    (fun os started H enc _ => schemeFound_lifted os started H enc)

theorem schemeFound_holds : Rows.SchemeFoundSaid :=
  schemeFound_over
end Go.Proofs.Ytbjfbmienlojkaa
