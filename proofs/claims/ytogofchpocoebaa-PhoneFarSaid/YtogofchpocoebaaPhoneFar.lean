/-
  PROVED HERE: 'Rows.PhoneFarSaid': for every input the law 'PhoneFar' of package canticle/canticlelaw08 returns true, and the arguments read afterwards as they read before.
  No condition is laid on the input beyond the row's own.
-/
import Derived.Test.YtogofchpocoebaaRows
import Derived.WalkKit
import Derived.ProofKit
import Derived.OpenShut
import Derived.Carry
import Derived.SizedLaws
import Derived.Test.YtogofchpocoebaaLast
import Derived.ShutString
import Derived.Test.YtogofchpocoebaaS1
import Derived.Test.YtogofchpocoebaaHead
import Derived.Test.YtogofchpocoebaaS5
namespace Go.Proofs.Ytogofchpocoebaa
open Go.ChangeShapes Go.WideShapes Go.ChangeAt Go.RowKit

theorem phoneFar_any' (v0 : Value) (l0 : List Ph) (v1 : Value) (l1 : List Ph) (v2 : Value) (l2 : List Ph) (v3 : Value) (l3 : List Ph) (w : World) (h0 : PhonesIn w v0 l0) (h1 : PhonesIn w v1 l1) (h2 : PhonesIn w v2 l2) (h3 : PhonesIn w v3 l3) : Calls Try.prog 10 #[v0, v1, v2, v3] w fun e w' => e = .returned (.bool true) ∧ Below w.heap.size w w' := by
  obtain ⟨A, n, c, rfl, k1, k2, r⟩ := h0.form
  obtain ⟨A', n', c', rfl, k1', k2', r'⟩ := h1.form
  obtain ⟨A2, n2, c2, rfl, k12, k22, r2⟩ := h2.form
  obtain ⟨A3, n3, c3, rfl, k13, k23, r3⟩ := h3.form
  exact phoneFar_any A A' A2 A3 n c n' c' n2 c2 n3 c3 l0 l1 l2 l3 w r r' r2 r3 h0.fits h1.fits h2.fits h3.fits (by omega) (by omega) (by omega) (by omega)

theorem phoneFar_own : ownKnob Try.prog.godebug = none := by kernel_rfl

set_option maxRecDepth 100000 in
theorem phoneFar_lifted (os : Os) (started : os.Started) (H : Type) (enc : TypeId × Value → H) :
    ReturnsInHanded {} Try.checked os 10 .any (Rows.phoneFarSpec.pre6 enc Try.prog Try.f10 Rows.phoneFarRow.domain false) (Rows.phoneFarSpec.post enc Try.prog Try.f10 false true false false) := by
  refine returnsInHanded_of_change_sized (C := Try.checked) phoneFar_own started (by kernel_rfl) Try.func10
    (ChangeSpec.witness6 (enc := enc) (C := Try.checked) false ⟨#[], #[.slice none 0 0, .slice none 0 0, .slice none 0 0, .slice none 0 0], []⟩ 8 (by kernel_rfl) (by kernel_rfl) (by kernel_rfl) (by kernel_rfl)) ?_
  intro W base args ds gs before hval0 hW _ hsz0 _
  have hsz : (DataW.weightsEach Try.prog (Try.f10.params.toList ++ Rows.phoneFarSpec.plain.varTypes Try.prog) (ds ++ gs)).all (· ≤ reachBytes) = true := hsz0
  clear hsz0
  have hval : ∀ (j : Nat) t v, Try.f10.params[j]? = some t → args[j]? = some v → Value.okWide Try.prog W .any base t v := hval0
  have hW' := hW
  obtain ⟨p, q, hA0, hV, rfl, _, _⟩ := hW
  have hA : DataW.TrodAll enc Try.prog W 0 (fun _ => true) true Try.f10.params.toList args.toList ds p := hA0
  rw [Try.params10] at hA hval hsz
  obtain ⟨v0, vs0, d0, ds0, p0, q0, hargs0, rfl, rfl, h0, r0⟩ := trodAll_cons hA
  obtain ⟨v1, vs1, d1, ds1, p1, q1, hargs1, rfl, rfl, h1, r1⟩ := trodAll_cons r0
  obtain ⟨v2, vs2, d2, ds2, p2, q2, hargs2, rfl, rfl, h2, r2⟩ := trodAll_cons r1
  obtain ⟨v3, vs3, d3, ds3, p3, q3, hargs3, rfl, rfl, h3, r3⟩ := trodAll_cons r2
  obtain ⟨rfl, rfl, rfl⟩ := trodAll_nil r3
  subst hargs3
  subst hargs2
  subst hargs1
  obtain rfl : args = #[v0, v1, v2, v3] := by cases args; simp_all
  obtain ⟨rfl, rfl⟩ := trodVars_none hV
  obtain ⟨l0, hS0⟩ := open_phones (j := 0) (hval 0 22 v0 rfl rfl) h0 hsz rfl rfl
  obtain ⟨l1, hS1⟩ := open_phones (j := 1) (hval 1 22 v1 rfl rfl) h1 hsz rfl rfl
  obtain ⟨l2, hS2⟩ := open_phones (j := 2) (hval 2 22 v2 rfl rfl) h2 hsz rfl rfl
  obtain ⟨l3, hS3⟩ := open_phones (j := 3) (hval 3 22 v3 rfl rfl) h3 hsz rfl rfl
  clear hA0 hval0
  simp only [List.append_nil] at hW'
  refine (phoneFar_any' v0 l0 v1 l1 v2 l2 v3 l3 W hS0 hS1 hS2 hS3).mono fun e W' ⟨he, hg⟩ => ?_
  subst he
  have hst0 : ∀ sp : Nat → Bool, (∀ x ∈ p0, sp x.block = true) → (∀ x ∈ p0, x.block < W.heap.size) → DataW.Trod enc Try.prog W' 0 sp true 22 v0 d0 p0 := fun sp hsp hlt => WideElems.Trod_stays (by kernel_rfl) (by kernel_rfl) (of_decide_eq_true (by kernel_rfl)) h0 (fun x hx => hg.same (hlt x hx)) hsp
  have hst1 : ∀ sp : Nat → Bool, (∀ x ∈ p1, sp x.block = true) → (∀ x ∈ p1, x.block < W.heap.size) → DataW.Trod enc Try.prog W' 0 sp true 22 v1 d1 p1 := fun sp hsp hlt => WideElems.Trod_stays (by kernel_rfl) (by kernel_rfl) (of_decide_eq_true (by kernel_rfl)) h1 (fun x hx => hg.same (hlt x hx)) hsp
  have hst2 : ∀ sp : Nat → Bool, (∀ x ∈ p2, sp x.block = true) → (∀ x ∈ p2, x.block < W.heap.size) → DataW.Trod enc Try.prog W' 0 sp true 22 v2 d2 p2 := fun sp hsp hlt => WideElems.Trod_stays (by kernel_rfl) (by kernel_rfl) (of_decide_eq_true (by kernel_rfl)) h2 (fun x hx => hg.same (hlt x hx)) hsp
  have hst3 : ∀ sp : Nat → Bool, (∀ x ∈ p3, sp x.block = true) → (∀ x ∈ p3, x.block < W.heap.size) → DataW.Trod enc Try.prog W' 0 sp true 22 v3 d3 p3 := fun sp hsp hlt => WideElems.Trod_stays (by kernel_rfl) (by kernel_rfl) (of_decide_eq_true (by kernel_rfl)) h3 (fun x hx => hg.same (hlt x hx)) hsp
  exact ⟨_, rfl, post_of_below (pa := p0 ++ (p1 ++ (p2 ++ (p3)))) (pv := []) hW' (fun _ _ _ => (trodAll_cons_mk (shut_bool Try.underlying4 _) trodAll_mk0)) (fun sp hsp => trodAll_cons_mk (hst0 sp (fun x hx => hsp x (by simp [hx])) (fun x hx => hW'.lt x (by simp [hx]))) (trodAll_cons_mk (hst1 sp (fun x hx => hsp x (by simp [hx])) (fun x hx => hW'.lt x (by simp [hx]))) (trodAll_cons_mk (hst2 sp (fun x hx => hsp x (by simp [hx])) (fun x hx => hW'.lt x (by simp [hx]))) (trodAll_mk1 (hst3 sp (fun x hx => hsp x (by simp [hx])) (fun x hx => hW'.lt x (by simp [hx]))))))) (fun _ _ => rfl) (by simp)
    hg (ok_one (by kernel_rfl) rfl (okWide_bool_mk Try.underlying4 _))⟩

set_option maxRecDepth 100000 in
theorem phoneFar_facts : joinedFacts Try.prog 10 Try.f10 Rows.phoneFarSpec Rows.phoneFarRow = true := by
  unfold joinedFacts
  rw [may_enter, lifts_final, make_is]
  kernel_rfl
theorem phoneFar_named : Try.prog.funcNamed Rows.phoneFarRow.func = some 10 := by kernel_rfl
theorem phoneFar_inst : Try.f10.isInstance Try.prog Rows.phoneFarRow.origin Rows.phoneFarRow.targs := of_decide_eq_true (by kernel_rfl)
theorem phoneFar_wrap : Try.f10.isWrapper Try.prog Rows.phoneFarRow.wrapper Rows.phoneFarRow.mainSum := by
  unfold Func.isWrapper
  rw [if_neg (by decide +kernel)]
  exact ⟨rfl, rfl⟩
theorem phoneFar_over : Rows.phoneFarRow.holds Try.pinned (OpenSpec.ofChange Rows.phoneFarSpec) :=
  OpenClaim.holds_of_wide 10 Try.f10 rfl rfl rfl rfl rfl rfl rfl ⟨rfl, rfl, rfl, rfl, rfl⟩ rfl rfl rfl rfl rfl phoneFar_named Try.func10 phoneFar_facts
    phoneFar_inst phoneFar_wrap
    (fun os started H enc _ => phoneFar_lifted os started H enc)

theorem phoneFar_holds : Rows.PhoneFarSaid :=
  phoneFar_over
end Go.Proofs.Ytogofchpocoebaa
