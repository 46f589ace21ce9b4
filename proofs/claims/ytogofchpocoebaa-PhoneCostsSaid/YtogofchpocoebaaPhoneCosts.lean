/-
  PROVED HERE: 'Rows.PhoneCostsSaid': for every input the law 'PhoneCosts' of package canticle/canticlelaw08 returns true, and each argument reads afterwards as it read before.
  No condition is laid on the input beyond the row's own. The walk is in YtogofchpocoebaaR5.
-/
import Derived.Test.YtogofchpocoebaaRows
import Derived.WalkKit
import Derived.ProofKit
import Derived.OpenShut
import Derived.ShutString
import Derived.Carry
import Derived.SizedLaws
import Derived.Lib.SmallJoins
import Derived.Test.YtogofchpocoebaaLast
import Derived.Test.YtogofchpocoebaaR5
import Derived.Test.YtogofchpocoebaaHead
namespace Go.Proofs.Ytogofchpocoebaa
open Go.ChangeShapes Go.WideShapes Go.ChangeAt Go.RowKit Go.Joins

theorem phoneCosts_own : ownKnob Try.prog.godebug = none := by kernel_rfl

section
variable {H : Type} {enc : TypeId × Value → H} {w : World} {base : Nat} {held : Bool} {spare : Nat → Bool}
set_option maxRecDepth 100000 in
/-- a phone by value, opened -/
theorem open_phone {r : Reach} {b0 : Nat} {v : Value} {d : DataW H} {ps : List MemPlace} (hval : Value.okWide Try.prog w r b0 43 v) (hd : DataW.Trod enc Try.prog w base spare held 43 v d ps) :
    ∃ p : Ph, v = .agg #[.int .i32 p.1, .bool p.2.1, .int .i32 p.2.2] ∧ fit32 p.1 := by
  obtain ⟨v0, v1, v2, y0, y1, y2, n, rfl, _, _, g0, g1, g2⟩ := open_agg3 Try.underlying43 (by kernel_rfl) (by kernel_rfl) hval hd
  obtain ⟨a, e0, _, wa⟩ := DataW.trod_int Try.underlying21 g0
  obtain ⟨b, e1, _⟩ := DataW.trod_bool Try.underlying4 g1
  obtain ⟨c, e2, _, _⟩ := DataW.trod_int Try.underlying21 g2
  simp at e0 e1 e2
  subst e0 e1 e2
  simp only [Lit.wf, Bool.and_eq_true, decide_eq_true_eq] at wa
  exact ⟨(a, b, c), rfl, wa⟩
end

set_option maxRecDepth 100000 in
theorem phoneCosts_lifted (os : Os) (started : os.Started) (H : Type) (enc : TypeId × Value → H) :
    ReturnsInHanded {} Try.checked os 4 .any (Rows.phoneCostsSpec.pre6 enc Try.prog Try.f4 Rows.phoneCostsRow.domain false) (Rows.phoneCostsSpec.post enc Try.prog Try.f4 false true false false) := by
  refine returnsInHanded_of_change (C := Try.checked) phoneCosts_own started (by kernel_rfl) Try.func4
    (ChangeSpec.witness6 (enc := enc) (C := Try.checked) false ⟨#[], #[.agg #[.int .i32 0, .bool false, .int .i32 0], .agg #[.int .i32 0, .bool false, .int .i32 0]], []⟩ 8 (by kernel_rfl) (by kernel_rfl) (by kernel_rfl) (by kernel_rfl)) ?_
  intro W base args ds gs before hval0 hW hcnd _
  have hval : ∀ (j : Nat) t v, Try.f4.params[j]? = some t → args[j]? = some v → Value.okWide Try.prog W .any base t v := hval0
  have hW' := hW
  obtain ⟨p, q, hA0, hV, rfl, hfz, hnd⟩ := hW
  have hA : DataW.TrodAll enc Try.prog W 0 (fun _ => true) true Try.f4.params.toList args.toList ds p := hA0
  rw [Try.params4] at hA hval
  obtain ⟨v0, vs0, d0, ds0, p0, q0, hargs0, rfl, rfl, h0, r0⟩ := trodAll_cons hA
  obtain ⟨v1, vs1, d1, ds1, p1, q1, hargs1, rfl, rfl, h1, r1⟩ := trodAll_cons r0
  obtain ⟨rfl, rfl, rfl⟩ := trodAll_nil r1
  subst hargs1
  obtain rfl : args = #[v0, v1] := by cases args; simp_all
  obtain ⟨rfl, rfl⟩ := trodVars_none hV
  obtain ⟨x0, e0, f0⟩ := open_phone (hval 0 43 v0 rfl rfl) h0
  obtain ⟨x1, e1, f1⟩ := open_phone (hval 1 43 v1 rfl rfl) h1
  clear hA0 hval0
  simp only [List.append_nil] at hW'
  have hc := phoneCosts_any x0 x1 W f0 f1
  rw [← e0, ← e1] at hc
  refine hc.mono fun e W' ⟨he, hg⟩ => ?_
  subst he
  have hst0 : ∀ sp : Nat → Bool, (∀ x ∈ p0, sp x.block = true) → (∀ x ∈ p0, x.block < W.heap.size) → DataW.Trod enc Try.prog W' 0 sp true 43 v0 d0 p0 := fun sp hsp hlt => WideElems.Trod_stays (by kernel_rfl) (by kernel_rfl) (of_decide_eq_true (by kernel_rfl)) h0 (fun x hx => hg.same (hlt x hx)) hsp
  have hst1 : ∀ sp : Nat → Bool, (∀ x ∈ p1, sp x.block = true) → (∀ x ∈ p1, x.block < W.heap.size) → DataW.Trod enc Try.prog W' 0 sp true 43 v1 d1 p1 := fun sp hsp hlt => WideElems.Trod_stays (by kernel_rfl) (by kernel_rfl) (of_decide_eq_true (by kernel_rfl)) h1 (fun x hx => hg.same (hlt x hx)) hsp
  exact ⟨_, rfl, post_of_below (pa := p0 ++ p1) (pv := []) hW' (fun _ _ _ => (trodAll_cons_mk (shut_bool Try.underlying4 _) trodAll_mk0)) (fun sp hsp => trodAll_cons_mk (hst0 sp (fun x hx => hsp x (by simp [hx])) (fun x hx => hW'.lt x (by simp [hx]))) (trodAll_mk1 (hst1 sp (fun x hx => hsp x (by simp [hx])) (fun x hx => hW'.lt x (by simp [hx]))))) (fun _ _ => rfl) (by simp)
    hg (ok_one (by kernel_rfl) rfl (okWide_bool_mk Try.underlying4 _))⟩

set_option maxRecDepth 100000 in
theorem phoneCosts_facts : joinedFacts Try.prog 4 Try.f4 Rows.phoneCostsSpec Rows.phoneCostsRow = true := by
  unfold joinedFacts
  rw [may_enter, lifts_final, make_is]
  kernel_rfl
theorem phoneCosts_named : Try.prog.funcNamed Rows.phoneCostsRow.func = some 4 := by kernel_rfl
theorem phoneCosts_inst : Try.f4.isInstance Try.prog Rows.phoneCostsRow.origin Rows.phoneCostsRow.targs := of_decide_eq_true (by kernel_rfl)
theorem phoneCosts_wrap : Try.f4.isWrapper Try.prog Rows.phoneCostsRow.wrapper Rows.phoneCostsRow.mainSum := by
  unfold Func.isWrapper
  rw [if_neg (by decide +kernel)]
  exact ⟨rfl, rfl⟩
theorem phoneCosts_over : Rows.phoneCostsRow.holds Try.pinned (OpenSpec.ofChange Rows.phoneCostsSpec) :=
  OpenClaim.holds_of_wide 4 Try.f4 rfl rfl rfl rfl rfl rfl rfl ⟨rfl, rfl, rfl, rfl, rfl⟩ rfl rfl rfl rfl rfl phoneCosts_named Try.func4 phoneCosts_facts
    phoneCosts_inst phoneCosts_wrap
    (fun os started H enc _ => phoneCosts_lifted os started H enc)

theorem phoneCosts_holds : Rows.PhoneCostsSaid :=
  phoneCosts_over
end Go.Proofs.Ytogofchpocoebaa
