/-
  PROVED HERE: 'Rows.SchemeLatticeSaid': for every input the law 'SchemeLattice' of package canticle/canticlelaw16 returns true, and the arguments read afterwards as they read before.
  No condition is laid on the input beyond the row's own.
-/
import Derived.Test.YtbjfbmienlojkaaRows
import Derived.WalkKit
import Derived.ProofKit
import Derived.OpenShut
import Derived.Carry
import Derived.SizedLaws
import Derived.Test.YtbjfbmienlojkaaLast
import Derived.Test.YtbjfbmienlojkaaT18
import Derived.Test.YtbjfbmienlojkaaT75
namespace Go.Proofs.Ytbjfbmienlojkaa
open Go.ChangeShapes Go.WideShapes Go.ChangeAt Go.RowKit

theorem schemeLattice_any (v0 : Value) (l0 : List (Int × Int)) (s0 : List Int) (v1 : Value) (l1 : List (Int × Int)) (s1 : List Int) (v2 : Value) (l2 : List (Int × Int)) (s2 : List Int) (w : World) (h : SchemeBig w v0 l0 s0) (k : SchemeBig w v1 l1 s1) (g : SchemeBig w v2 l2 s2) : Calls Try.prog 11 #[v0, v1, v2] w fun e w' => e = .returned (.bool true) ∧ Below w.heap.size w w' := by
  obtain ⟨A1, n1, c1, A2, n2, c2, rfl, k1, m1, k2, m2, r1, r2⟩ := h.form
  obtain ⟨B1, n3, c3, B2, n4, c4, rfl, k3, m3, k4, m4, r3, r4⟩ := k.form
  obtain ⟨C1, n5, c5, C2, n6, c6, rfl, k5, m5, k6, m6, r5, r6⟩ := g.form
  rcases bool_or (mayTwo l0 l1 s0 s1) with hm | hm
  · exact schemeLattice_bad A1 A2 B1 B2 C1 C2 n1 c1 n2 c2 n3 c3 n4 c4 n5 c5 n6 c6 l0 l1 s0 s1 w r1 r2 r3 r4 (by unfold maxLen; omega) (by unfold maxLen; omega) (by unfold maxLen; omega) (by unfold maxLen; omega) hm
  · obtain ⟨_, _, h3⟩ := mayTwo_parts hm
    have e1 : l0.length = n1 := by have := r1.1; rw [prs_len] at this; omega
    have e2 : l1.length = n3 := by have := r3.1; rw [prs_len] at this; omega
    obtain rfl : n1 = n3 := by omega
    exact schemeLattice_ok A1 A2 B1 B2 C1 C2 n1 c1 n2 c2 c3 n4 c4 n5 c5 n6 c6 l0 l1 l2 s0 s1 s2 w r1 r2 r3 r4 r5 r6 (by unfold maxLen; omega) (by unfold maxLen; omega) (by unfold maxLen; omega) (by unfold maxLen; omega) (by unfold maxLen; omega) hm


theorem schemeLattice_own : ownKnob Try.prog.godebug = none := by kernel_rfl

set_option maxRecDepth 100000 in
theorem schemeLattice_lifted (os : Os) (started : os.Started) (H : Type) (enc : TypeId × Value → H) :
    ReturnsInHanded {} Try.checked os 11 .any (Rows.schemeLatticeSpec.pre6 enc Try.prog Try.f11 Rows.schemeLatticeRow.domain false) (Rows.schemeLatticeSpec.post enc Try.prog Try.f11 false true false false) := by
  refine returnsInHanded_of_change_sized (C := Try.checked) schemeLattice_own started (by kernel_rfl) Try.func11
    (ChangeSpec.witness6 (enc := enc) (C := Try.checked) false ⟨#[], #[.agg #[.slice none 0 0, .slice none 0 0], .agg #[.slice none 0 0, .slice none 0 0], .agg #[.slice none 0 0, .slice none 0 0]], []⟩ 8 (by kernel_rfl) (by kernel_rfl) (by kernel_rfl) (by kernel_rfl)) ?_
  intro W base args ds gs before hval0 hW _ hsz0 _
  have hsz : (DataW.weightsEach Try.prog (Try.f11.params.toList ++ Rows.schemeLatticeSpec.plain.varTypes Try.prog) (ds ++ gs)).all (· ≤ reachBytes) = true := hsz0
  clear hsz0
  have hval : ∀ (j : Nat) t v, Try.f11.params[j]? = some t → args[j]? = some v → Value.okWide Try.prog W .any base t v := hval0
  have hW' := hW
  obtain ⟨p, q, hA0, hV, rfl, _, _⟩ := hW
  have hA : DataW.TrodAll enc Try.prog W 0 (fun _ => true) true Try.f11.params.toList args.toList ds p := hA0
  rw [Try.params11] at hA hval hsz
  obtain ⟨v0, vs0, d0, ds0, p0, q0, hargs0, rfl, rfl, h0, r0⟩ := trodAll_cons hA
  obtain ⟨v1, vs1, d1, ds1, p1, q1, hargs1, rfl, rfl, h1, r1⟩ := trodAll_cons r0
  obtain ⟨v2, vs2, d2, ds2, p2, q2, hargs2, rfl, rfl, h2, r2⟩ := trodAll_cons r1
  obtain ⟨rfl, rfl, rfl⟩ := trodAll_nil r2
  subst hargs2
  subst hargs1
  obtain rfl : args = #[v0, v1, v2] := by cases args; simp_all
  obtain ⟨rfl, rfl⟩ := trodVars_none hV
  obtain ⟨l0, s0, hS0⟩ := open_scheme_big (j := 0) (hval 0 26 v0 rfl rfl) h0 hsz rfl rfl
  obtain ⟨l1, s1, hS1⟩ := open_scheme_big (j := 1) (hval 1 26 v1 rfl rfl) h1 hsz rfl rfl
  obtain ⟨l2, s2, hS2⟩ := open_scheme_big (j := 2) (hval 2 26 v2 rfl rfl) h2 hsz rfl rfl
  clear hA0 hval0
  simp only [List.append_nil] at hW'
  refine (schemeLattice_any v0 l0 s0 v1 l1 s1 v2 l2 s2 W hS0 hS1 hS2).mono fun e W' ⟨he, hg⟩ => ?_
  subst he
  have hst0 : ∀ sp : Nat → Bool, (∀ x ∈ p0, sp x.block = true) → (∀ x ∈ p0, x.block < W.heap.size) → DataW.Trod enc Try.prog W' 0 sp true 26 v0 d0 p0 := fun sp hsp hlt => WideElems.Trod_stays (by kernel_rfl) (by kernel_rfl) (of_decide_eq_true (by kernel_rfl)) h0 (fun x hx => hg.same (hlt x hx)) hsp
  have hst1 : ∀ sp : Nat → Bool, (∀ x ∈ p1, sp x.block = true) → (∀ x ∈ p1, x.block < W.heap.size) → DataW.Trod enc Try.prog W' 0 sp true 26 v1 d1 p1 := fun sp hsp hlt => WideElems.Trod_stays (by kernel_rfl) (by kernel_rfl) (of_decide_eq_true (by kernel_rfl)) h1 (fun x hx => hg.same (hlt x hx)) hsp
  have hst2 : ∀ sp : Nat → Bool, (∀ x ∈ p2, sp x.block = true) → (∀ x ∈ p2, x.block < W.heap.size) → DataW.Trod enc Try.prog W' 0 sp true 26 v2 d2 p2 := fun sp hsp hlt => WideElems.Trod_stays (by kernel_rfl) (by kernel_rfl) (of_decide_eq_true (by kernel_rfl)) h2 (fun x hx => hg.same (hlt x hx)) hsp
  exact ⟨_, rfl, post_of_below (pa := p0 ++ (p1 ++ (p2))) (pv := []) hW' (fun _ _ _ => (trodAll_cons_mk (shut_bool Try.underlying4 _) trodAll_mk0)) (fun sp hsp => trodAll_cons_mk (hst0 sp (fun x hx => hsp x (by simp [hx])) (fun x hx => hW'.lt x (by simp [hx]))) (trodAll_cons_mk (hst1 sp (fun x hx => hsp x (by simp [hx])) (fun x hx => hW'.lt x (by simp [hx]))) (trodAll_mk1 (hst2 sp (fun x hx => hsp x (by simp [hx])) (fun x hx => hW'.lt x (by simp [hx])))))) (fun _ _ => rfl) (List.append_nil _).symm
    hg (ok_one (by kernel_rfl) rfl (okWide_bool_mk Try.underlying4 _))⟩

theorem schemeLattice_over : Rows.schemeLatticeRow.holds Try.pinned (OpenSpec.ofChange Rows.schemeLatticeSpec) :=
  OpenClaim.holds_of_wide 11 Try.f11 rfl rfl rfl rfl rfl rfl rfl ⟨rfl, rfl, rfl, rfl, rfl⟩ rfl rfl rfl rfl rfl (by kernel_rfl) Try.func11 (by kernel_rfl)
    (of_decide_eq_true (by kernel_rfl)) (by unfold Func.isWrapper; first | (rw [if_pos (by decide +kernel)]; kernel_rfl) | (rw [if_neg (by decide +kernel)]; exact ⟨rfl, rfl⟩))
    (fun os started H enc _ => schemeLattice_lifted os started H enc)

theorem schemeLattice_holds : Rows.SchemeLatticeSaid :=
  schemeLattice_over
end Go.Proofs.Ytbjfbmienlojkaa
