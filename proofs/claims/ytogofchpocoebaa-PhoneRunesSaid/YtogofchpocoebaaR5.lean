/- The law PhoneCosts, walked. -/
import Derived.Test.YtogofchpocoebaaR4
namespace Go.Proofs.Ytogofchpocoebaa
open Go.RowKit Go.Maps

/-- memory while the law runs -/
structure PcSt (w0 : World) (pb qb : Nat) (p q : Ph) (W : World) : Prop where
  below : Below w0.heap.size w0 W
  bp : Blk W pb 43 #[.int .i32 p.1, .bool p.2.1, .int .i32 p.2.2]
  bq : Blk W qb 43 #[.int .i32 q.1, .bool q.2.1, .int .i32 q.2.2]
theorem PcSt.on {w0 : World} {pb qb : Nat} {p q : Ph} {W W' : World} (h : PcSt w0 pb qb p q W) (hb : Below W.heap.size W W') : PcSt w0 pb qb p q W' :=
  ⟨h.below.trans (hb.mono h.below.size), h.bp.below hb h.bp.lt, h.bq.below hb h.bq.lt⟩
theorem PcSt.cells {w0 : World} {pb qb : Nat} {p q : Ph} {W : World} (h : PcSt w0 pb qb p q W) : (W.cell? ⟨pb, 0, none⟩ = some (.int .i32 p.1) ∧ W.cell? ⟨pb, 1, none⟩ = some (.bool p.2.1) ∧ W.cell? ⟨pb, 2, none⟩ = some (.int .i32 p.2.2)) ∧ W.cell? ⟨qb, 0, none⟩ = some (.int .i32 q.1) ∧ W.cell? ⟨qb, 1, none⟩ = some (.bool q.2.1) ∧ W.cell? ⟨qb, 2, none⟩ = some (.int .i32 q.2.2) :=
  ⟨⟨h.bp.cell 0, h.bp.cell 1, h.bp.cell 2⟩, h.bq.cell 0, h.bq.cell 1, h.bq.cell 2⟩

set_option maxHeartbeats 2000000 in
set_option maxRecDepth 100000 in
theorem phoneCosts_any (p q : Ph) (w : World) (hp : fit32 p.1) (hq : fit32 q.1) : Calls Try.prog 4 #[.agg #[.int .i32 p.1, .bool p.2.1, .int .i32 p.2.2], .agg #[.int .i32 q.1, .bool q.2.1, .int .i32 q.2.2]] w fun e w' => e = .returned (.bool true) ∧ Below w.heap.size w w' := by
  have HF := Lib.hid (And.intro hp hq)
  clear hp hq
  go_enter Try.func4, Try.ntmps4
  go_upto_region 1 with (fail)
  refine wp_abs (PcSt w w.heap.size (w.heap.size + 1) p q) ⟨((Below.refl _ _).alloc (Nat.le_refl _) _).alloc (by simp) _, (Blk.new _ _ _).alloc _, blk_new_eq (by simp)⟩ ?_
  generalize hpb : w.heap.size = pb
  generalize hqb : pb + 1 = qb
  clear hpb hqb
  rintro w1 hs
  have H1 := Lib.hid hs
  clear hs
  go_wp2_with fail
  refine (works_any _).mono ?_
  rintro e w2 ⟨rfl, hb⟩
  have H2 := Lib.hid (H1.out.on hb)
  clear H1 hb
  obtain ⟨⟨a0, a1, a2⟩, b0, b1, b2⟩ := H2.out.cells
  go_wp2_with fail
  refine (Apart_any p q _ HF.out.1 HF.out.2).mono ?_
  rintro e w3 ⟨rfl, hb⟩
  have H3 := Lib.hid (H2.out.on hb)
  clear H2 hb a0 a1 a2 b0 b1 b2
  obtain ⟨⟨a0, a1, a2⟩, b0, b1, b2⟩ := H3.out.cells
  go_wp2_with fail
  refine (Lone_any p _ HF.out.1).mono ?_
  rintro e wx ⟨rfl, hb⟩
  have HX := Lib.hid (H3.out.on hb)
  clear H3 hb a0 a1 a2 b0 b1 b2
  have hK : ∀ W', Below wx.heap.size wx W' → (W'.cell? ⟨pb, 0, none⟩ = some (.int .i32 p.1) ∧ W'.cell? ⟨pb, 1, none⟩ = some (.bool p.2.1) ∧ W'.cell? ⟨pb, 2, none⟩ = some (.int .i32 p.2.2)) ∧ W'.cell? ⟨qb, 0, none⟩ = some (.int .i32 q.1) ∧ W'.cell? ⟨qb, 1, none⟩ = some (.bool q.2.1) ∧ W'.cell? ⟨qb, 2, none⟩ = some (.int .i32 q.2.2) := fun W' hb => (HX.out.on hb).cells
  have HK := Lib.hid hK
  clear hK
  obtain ⟨⟨a0, a1, a2⟩, b0, b1, b2⟩ := HX.out.cells
  have HV := Lib.hid (And.intro (show apV p q = if isF p && isF q then apartF p q else 0 from rfl) (show apE p q = if isF p && isF q then 0 else 2 from rfl))
  have HW := Lib.hid (And.intro (show loneV p = if isF p then loneF p else 0 from rfl) (show loneE p = if isF p then 0 else 2 from rfl))
  generalize apV p q = av at *
  generalize apE p q = ae at *
  generalize loneV p = lv at *
  generalize loneE p = le at *
  go_upto_region 5 with (fail)
  go_region_held3 (fun W' => (W'.cell? ⟨pb, 0, none⟩ = some (.int .i32 p.1) ∧ W'.cell? ⟨pb, 1, none⟩ = some (.bool p.2.1) ∧ W'.cell? ⟨pb, 2, none⟩ = some (.int .i32 p.2.2)) ∧ W'.cell? ⟨qb, 0, none⟩ = some (.int .i32 q.1) ∧ W'.cell? ⟨qb, 1, none⟩ = some (.bool q.2.1) ∧ W'.cell? ⟨qb, 2, none⟩ = some (.int .i32 q.2.2))
    ((refine HK.out _ ?_; first | exact HZ.out | exact ⟨rfl, rfl, rfl, Nat.le_refl _, fun _ _ => rfl⟩))
    (first
      | (go_at_call 43
         refine (refIs_any _ _).mono ?_
         rintro e wz ⟨rfl, hb⟩
         have HZ : Hid (Below wx.heap.size wx wz) := Lib.hid (by first | exact HZ.out.trans (hb.mono HZ.out.size) | exact ⟨hb.os, hb.tape, hb.output, hb.size, hb.block⟩)
         clear hb))
  all_goals
    have HS := Lib.hid (HX.out.on HZ.out)
    clear HX HK a0 a1 a2 b0 b1 b2
    obtain ⟨⟨a0, a1, a2⟩, b0, b1, b2⟩ := HS.out.cells
    cases hF : isF p with
    | false =>
      obtain ⟨e1, e2⟩ := HV.out
      obtain ⟨e3, e4⟩ := HW.out
      simp only [hF, Bool.false_and, Bool.false_eq_true, if_false] at e1 e2 e3 e4
      subst e1 e2 e3 e4
      clear HV HW
      go_wp2_with fail
      refine (works_any _).mono ?_
      rintro e w9 ⟨rfl, hb⟩
      have H9 := Lib.hid (HS.out.below.trans (hb.mono HS.out.below.size))
      clear hb
      go_wp2
      go_ret
      exact ⟨rfl, H9.out⟩
    | true =>
      cases hG : isF q with
      | false =>
        obtain ⟨e1, e2⟩ := HV.out
        obtain ⟨e3, e4⟩ := HW.out
        simp only [hF, hG, Bool.and_false, Bool.false_eq_true, if_false, if_true] at e1 e2 e3 e4
        subst e1 e2 e3 e4
        clear HV HW
        go_wp2_with fail
        refine (refLone_any p _).mono ?_
        rintro e w7 ⟨rfl, hb⟩
        have H7 := Lib.hid (HS.out.on hb)
        clear hb
        go_wp2_with fail
        refine (works_any _).mono ?_
        rintro e w9 ⟨rfl, hb⟩
        have H9 := Lib.hid (H7.out.below.trans (hb.mono H7.out.below.size))
        clear hb
        go_wp2
        go_ret
        exact ⟨rfl, H9.out⟩
      | true =>
        obtain ⟨e1, e2⟩ := HV.out
        obtain ⟨e3, e4⟩ := HW.out
        simp only [hF, hG, Bool.and_true, if_true] at e1 e2 e3 e4
        subst e1 e2 e3 e4
        clear HV HW
        go_wp2_with fail
        refine (refApart_any p q _).mono ?_
        rintro e w6 ⟨rfl, hb⟩
        have H6 := Lib.hid (HS.out.on hb)
        clear hb a0 a1 a2 b0 b1 b2
        obtain ⟨⟨a0, a1, a2⟩, b0, b1, b2⟩ := H6.out.cells
        go_wp2_with fail
        refine (refLone_any p _).mono ?_
        rintro e w7 ⟨rfl, hb⟩
        have H7 := Lib.hid (H6.out.on hb)
        clear hb
        go_wp2_with fail
        refine (works_any _).mono ?_
        rintro e w9 ⟨rfl, hb⟩
        have H9 := Lib.hid (H7.out.below.trans (hb.mono H7.out.below.size))
        clear hb
        go_wp2
        go_ret
        exact ⟨rfl, H9.out⟩
end Go.Proofs.Ytogofchpocoebaa
