/- The reference's Lone, Apart. -/
import Derived.Test.YtogofchpocoebaaR2
import Derived.BigQuiet
namespace Go.Proofs.Ytogofchpocoebaa
open Go.RowKit Go.Maps

theorem traits_vow {r : Int} (h : (traits r).vow = true) : (traits r).plc = 0 ∧ (traits r).mnr = 0 ∧ (traits r).vcd = false := by
  have h1 := traits_ok r
  simp only [trOk, Bool.and_eq_true, decide_eq_true_eq] at h1
  have h2 := h1.2
  rw [if_pos h] at h2
  simp only [Bool.and_eq_true, decide_eq_true_eq, Bool.not_eq_true'] at h2
  exact ⟨h2.1.1, h2.1.2, h2.2⟩
theorem traits_con {r : Int} (h : (traits r).vow = false) : (traits r).hgt = 0 ∧ (traits r).bck = 0 ∧ (traits r).rnd = false := by
  have h1 := traits_ok r
  simp only [trOk, Bool.and_eq_true, decide_eq_true_eq] at h1
  have h2 := h1.2
  rw [if_neg (by rw [h]; decide)] at h2
  simp only [Bool.and_eq_true, decide_eq_true_eq, Bool.not_eq_true'] at h2
  exact ⟨h2.1.1, h2.1.2, h2.2⟩
theorem far_zero : farF 0 0 = 0 := by decide
/-- by all traits at once -/
theorem apart_all (p q : Ph) : apartF p q = if (traits p.1).vow != (traits q.1).vow then 40 else
    3 * farF (traits p.1).hgt (traits q.1).hgt + 2 * farF (traits p.1).bck (traits q.1).bck + 2 * farF (traits p.1).plc (traits q.1).plc + 3 * farF (traits p.1).mnr (traits q.1).mnr
      + bit ((traits p.1).rnd != (traits q.1).rnd || (traits p.1).vcd != (traits q.1).vcd) 1 + bit (p.2.1 != q.2.1) 2 + bit (p.2.2 != q.2.2) 3 := by
  unfold apartF
  cases hp : (traits p.1).vow <;> cases hq : (traits q.1).vow
  · obtain ⟨a1, a2, a3⟩ := traits_con hp
    obtain ⟨b1, b2, b3⟩ := traits_con hq
    rw [a1, a2, a3, b1, b2, b3, far_zero]
    simp
  · rfl
  · rfl
  · obtain ⟨a1, a2, a3⟩ := traits_vow hp
    obtain ⟨b1, b2, b3⟩ := traits_vow hq
    rw [a1, a2, a3, b1, b2, b3, far_zero]
    simp

set_option maxHeartbeats 1000000 in
set_option maxRecDepth 100000 in
theorem refLone_any (p : Ph) (w : World) : Calls Try.prog 45 #[.agg #[.int .i32 p.1, .bool p.2.1, .int .i32 p.2.2]] w fun e w' => e = .returned (.int .i64 (loneF p)) ∧ Below w.heap.size w w' := by
  have hI : loneF p = (if (traits p.1).vow then 14 else 10) + bit p.2.1 2 + bit (p.2.2 != 0) 3 := rfl
  have HI := Lib.hid hI
  clear hI
  go_enter Try.func45, Try.ntmps45
  go_upto_region 1 with (fail)
  refine wp_abs (fun wx => Below w.heap.size w wx ∧ Blk wx w.heap.size 43 #[.int .i32 p.1, .bool p.2.1, .int .i32 p.2.2]) ⟨(Below.refl _ _).alloc (Nat.le_refl _) _, Blk.new _ _ _⟩ ?_
  generalize hpb : w.heap.size = pb
  rintro wx ⟨hb, hx⟩
  rw [← hpb] at hb
  have c0 : wx.cell? ⟨pb, 0, none⟩ = some (.int .i32 p.1) := hx.cell 0
  have HX := Lib.hid (And.intro hb hx)
  clear hb hx hpb
  go_wp2_with fail
  refine (refOf_any p.1 _).mono ?_
  rintro e w1 ⟨rfl, hb⟩
  have H1 := Lib.hid (And.intro (HX.out.1.trans (hb.mono HX.out.1.size)) (HX.out.2.below hb HX.out.2.lt))
  clear hb HX c0
  go_upto_region 2 with (fail)
  refine wp_abs (fun wy => Below w.heap.size w wy ∧ Blk wy pb 43 #[.int .i32 p.1, .bool p.2.1, .int .i32 p.2.2] ∧ wy.cell? ⟨w1.heap.size, 0, none⟩ = some (.bool (traits p.1).vow)) ⟨H1.out.1.trans (((Below.refl _ _).alloc (Nat.le_refl _) _).mono H1.out.1.size), H1.out.2.alloc _, (Blk.new _ _ _).cell 0⟩ ?_
  generalize w1.heap.size = tb
  clear H1
  rintro w2 ⟨hb, hx, d0⟩
  have g1 : w2.cell? ⟨pb, 1, none⟩ = some (.bool p.2.1) := hx.cell 1
  have g2 : w2.cell? ⟨pb, 2, none⟩ = some (.int .i32 p.2.2) := hx.cell 2
  have HX := Lib.hid hb
  clear hb hx
  generalize (tabF p.1).isSome = ok
  cases hv : (traits p.1).vow <;> cases hl : p.2.1 <;> cases hg : (p.2.2 == 0)
  all_goals
    rw [hv] at d0
    rw [hl] at g1
    go_wp2
    go_ret
    exact ⟨ret_int (by rw [HI.out]; unfold bne; rw [hv, hl, hg]; rfl), HX.out⟩

set_option maxHeartbeats 4000000 in
set_option maxRecDepth 100000 in
theorem refApart_any (p q : Ph) (w : World) : Calls Try.prog 44 #[.agg #[.int .i32 p.1, .bool p.2.1, .int .i32 p.2.2], .agg #[.int .i32 q.1, .bool q.2.1, .int .i32 q.2.2]] w fun e w' => e = .returned (.int .i64 (apartF p q)) ∧ Below w.heap.size w w' := by
  have h1 := traits_ok' p.1
  have h2 := traits_ok' q.1
  have HV := Lib.hid (apart_all p q)
  go_enter Try.func44, Try.ntmps44
  go_upto_region 1 with (fail)
  refine wp_abs (fun wx => Below w.heap.size w wx ∧ Blk wx w.heap.size 43 #[.int .i32 p.1, .bool p.2.1, .int .i32 p.2.2] ∧ Blk wx (w.heap.size + 1) 43 #[.int .i32 q.1, .bool q.2.1, .int .i32 q.2.2]) ⟨((Below.refl _ _).alloc (Nat.le_refl _) _).alloc (by simp) _, (Blk.new _ _ _).alloc _, blk_new_eq (by simp)⟩ ?_
  generalize hpb : w.heap.size = pb
  generalize hqb : pb + 1 = qb
  rintro wx ⟨hb, hx, hy⟩
  rw [← hpb] at hb
  have c0 : wx.cell? ⟨pb, 0, none⟩ = some (.int .i32 p.1) := hx.cell 0
  have HX := Lib.hid (And.intro hb (And.intro hx hy))
  clear hb hx hy hpb hqb
  go_wp2_with fail
  refine (refOf_any p.1 _).mono ?_
  rintro e w1 ⟨rfl, hb⟩
  have H1 := Lib.hid (And.intro (HX.out.1.trans (hb.mono HX.out.1.size)) (And.intro (HX.out.2.1.below hb HX.out.2.1.lt) (HX.out.2.2.below hb HX.out.2.2.lt)))
  clear hb HX c0
  go_upto_region 2 with (fail)
  refine wp_abs (fun wy => Below w.heap.size w wy ∧ (Blk wy pb 43 #[.int .i32 p.1, .bool p.2.1, .int .i32 p.2.2] ∧ Blk wy qb 43 #[.int .i32 q.1, .bool q.2.1, .int .i32 q.2.2]) ∧ Blk wy w1.heap.size 56 #[.bool (traits p.1).vow, .int .i64 (traits p.1).hgt, .int .i64 (traits p.1).bck, .bool (traits p.1).rnd, .int .i64 (traits p.1).plc, .int .i64 (traits p.1).mnr, .bool (traits p.1).vcd]) ⟨H1.out.1.trans (((Below.refl _ _).alloc (Nat.le_refl _) _).mono H1.out.1.size), ⟨H1.out.2.1.alloc _, H1.out.2.2.alloc _⟩, (Blk.new _ _ _)⟩ ?_
  generalize w1.heap.size = xb
  clear H1
  rintro w2 ⟨hb, ⟨hx, hy⟩, hs⟩
  have c0 : w2.cell? ⟨qb, 0, none⟩ = some (.int .i32 q.1) := hy.cell 0
  have HX := Lib.hid (And.intro hb (And.intro (And.intro hx hy) hs))
  clear hb hx hy hs
  go_wp2_with fail
  refine (refOf_any q.1 _).mono ?_
  rintro e w3 ⟨rfl, hb⟩
  have H1 := Lib.hid (And.intro (HX.out.1.trans (hb.mono HX.out.1.size)) (And.intro (And.intro (HX.out.2.1.1.below hb HX.out.2.1.1.lt) (HX.out.2.1.2.below hb HX.out.2.1.2.lt)) (HX.out.2.2.below hb HX.out.2.2.lt)))
  clear hb HX c0
  go_upto_region 3 with (fail)
  refine wp_abs (fun wy => Below w.heap.size w wy ∧ (Blk wy pb 43 #[.int .i32 p.1, .bool p.2.1, .int .i32 p.2.2] ∧ Blk wy qb 43 #[.int .i32 q.1, .bool q.2.1, .int .i32 q.2.2]) ∧ Blk wy xb 56 #[.bool (traits p.1).vow, .int .i64 (traits p.1).hgt, .int .i64 (traits p.1).bck, .bool (traits p.1).rnd, .int .i64 (traits p.1).plc, .int .i64 (traits p.1).mnr, .bool (traits p.1).vcd] ∧ Blk wy w3.heap.size 56 #[.bool (traits q.1).vow, .int .i64 (traits q.1).hgt, .int .i64 (traits q.1).bck, .bool (traits q.1).rnd, .int .i64 (traits q.1).plc, .int .i64 (traits q.1).mnr, .bool (traits q.1).vcd]) ⟨H1.out.1.trans (((Below.refl _ _).alloc (Nat.le_refl _) _).mono H1.out.1.size), ⟨H1.out.2.1.1.alloc _, H1.out.2.1.2.alloc _⟩, H1.out.2.2.alloc _, (Blk.new _ _ _)⟩ ?_
  generalize w3.heap.size = yb
  clear H1
  generalize (tabF p.1).isSome = ok1
  generalize (tabF q.1).isSome = ok2
  generalize traits p.1 = s at *
  generalize traits q.1 = t at *
  rintro wc HC'
  have HC := Lib.hid HC'
  clear HC'
  have x0 : wc.cell? ⟨xb, 0, none⟩ = some (.bool s.vow) := HC.out.2.2.1.cell 0
  have y0 : wc.cell? ⟨yb, 0, none⟩ = some (.bool t.vow) := HC.out.2.2.2.cell 0
  have x1 : wc.cell? ⟨xb, 1, none⟩ = some (.int .i64 s.hgt) := HC.out.2.2.1.cell 1
  have y1 : wc.cell? ⟨yb, 1, none⟩ = some (.int .i64 t.hgt) := HC.out.2.2.2.cell 1
  have x2 : wc.cell? ⟨xb, 2, none⟩ = some (.int .i64 s.bck) := HC.out.2.2.1.cell 2
  have y2 : wc.cell? ⟨yb, 2, none⟩ = some (.int .i64 t.bck) := HC.out.2.2.2.cell 2
  have x3 : wc.cell? ⟨xb, 3, none⟩ = some (.bool s.rnd) := HC.out.2.2.1.cell 3
  have y3 : wc.cell? ⟨yb, 3, none⟩ = some (.bool t.rnd) := HC.out.2.2.2.cell 3
  have x4 : wc.cell? ⟨xb, 4, none⟩ = some (.int .i64 s.plc) := HC.out.2.2.1.cell 4
  have y4 : wc.cell? ⟨yb, 4, none⟩ = some (.int .i64 t.plc) := HC.out.2.2.2.cell 4
  have x5 : wc.cell? ⟨xb, 5, none⟩ = some (.int .i64 s.mnr) := HC.out.2.2.1.cell 5
  have y5 : wc.cell? ⟨yb, 5, none⟩ = some (.int .i64 t.mnr) := HC.out.2.2.2.cell 5
  have x6 : wc.cell? ⟨xb, 6, none⟩ = some (.bool s.vcd) := HC.out.2.2.1.cell 6
  have y6 : wc.cell? ⟨yb, 6, none⟩ = some (.bool t.vcd) := HC.out.2.2.2.cell 6
  have p1 : wc.cell? ⟨pb, 1, none⟩ = some (.bool p.2.1) := HC.out.2.1.1.cell 1
  have q1 : wc.cell? ⟨qb, 1, none⟩ = some (.bool q.2.1) := HC.out.2.1.2.cell 1
  have p2 : wc.cell? ⟨pb, 2, none⟩ = some (.int .i32 p.2.2) := HC.out.2.1.1.cell 2
  have q2 : wc.cell? ⟨qb, 2, none⟩ = some (.int .i32 q.2.2) := HC.out.2.1.2.cell 2
  obtain ⟨⟨i1, i2⟩, ⟨i3, i4⟩, ⟨i5, i6⟩, i7, i8⟩ := h1
  obtain ⟨⟨j1, j2⟩, ⟨j3, j4⟩, ⟨j5, j6⟩, j7, j8⟩ := h2
  obtain ⟨g11, g12⟩ : 0 ≤ farF s.hgt t.hgt ∧ farF s.hgt t.hgt ≤ 6 := by unfold farF; omega
  obtain ⟨g21, g22⟩ : 0 ≤ farF s.bck t.bck ∧ farF s.bck t.bck ≤ 2 := by unfold farF; omega
  obtain ⟨g31, g32⟩ : 0 ≤ farF s.plc t.plc ∧ farF s.plc t.plc ≤ 6 := by unfold farF; omega
  obtain ⟨g41, g42⟩ : 0 ≤ farF s.mnr t.mnr ∧ farF s.mnr t.mnr ≤ 5 := by unfold farF; omega
  cases hvv : (s.vow == t.vow) with
  | false =>
    go_wp2
    go_ret
    exact ⟨ret_int (by rw [HV.out]; unfold bne; rw [hvv]; rfl), HC.out.1⟩
  | true =>
    go_upto_region 5 with (fail)
    go_region_held3 (fun W' => (W'.cell? ⟨xb, 1, none⟩ = some (.int .i64 s.hgt) ∧ W'.cell? ⟨yb, 1, none⟩ = some (.int .i64 t.hgt)) ∧ (W'.cell? ⟨xb, 2, none⟩ = some (.int .i64 s.bck) ∧ W'.cell? ⟨yb, 2, none⟩ = some (.int .i64 t.bck)) ∧ (W'.cell? ⟨xb, 4, none⟩ = some (.int .i64 s.plc) ∧ W'.cell? ⟨yb, 4, none⟩ = some (.int .i64 t.plc)) ∧ W'.cell? ⟨xb, 5, none⟩ = some (.int .i64 s.mnr) ∧ W'.cell? ⟨yb, 5, none⟩ = some (.int .i64 t.mnr))
      ((exact ⟨⟨HC.out.2.2.1.cell 1, HC.out.2.2.2.cell 1⟩, ⟨HC.out.2.2.1.cell 2, HC.out.2.2.2.cell 2⟩, ⟨HC.out.2.2.1.cell 4, HC.out.2.2.2.cell 4⟩, HC.out.2.2.1.cell 5, HC.out.2.2.2.cell 5⟩))
      (first
        | (go_at_call 117
           refine (refFar_any _ _ _ (by omega) (by omega)).mono ?_
           rintro e w' ⟨rfl, rfl⟩))
    all_goals
      have e1 : IntKind.i64.wrap (3 * farF s.hgt t.hgt) = 3 * farF s.hgt t.hgt := IntWalk.i64_in _ (by omega)
      have e2 : IntKind.i64.wrap (2 * farF s.bck t.bck) = 2 * farF s.bck t.bck := IntWalk.i64_in _ (by omega)
      have e3 : IntKind.i64.wrap (3 * farF s.hgt t.hgt + 2 * farF s.bck t.bck) = 3 * farF s.hgt t.hgt + 2 * farF s.bck t.bck := IntWalk.i64_in _ (by omega)
      have e4 : IntKind.i64.wrap (2 * farF s.plc t.plc) = 2 * farF s.plc t.plc := IntWalk.i64_in _ (by omega)
      have e5 : IntKind.i64.wrap (3 * farF s.hgt t.hgt + 2 * farF s.bck t.bck + 2 * farF s.plc t.plc) = 3 * farF s.hgt t.hgt + 2 * farF s.bck t.bck + 2 * farF s.plc t.plc := IntWalk.i64_in _ (by omega)
      have e6 : IntKind.i64.wrap (3 * farF s.mnr t.mnr) = 3 * farF s.mnr t.mnr := IntWalk.i64_in _ (by omega)
      have e7 : IntKind.i64.wrap (3 * farF s.hgt t.hgt + 2 * farF s.bck t.bck + 2 * farF s.plc t.plc + 3 * farF s.mnr t.mnr) = 3 * farF s.hgt t.hgt + 2 * farF s.bck t.bck + 2 * farF s.plc t.plc + 3 * farF s.mnr t.mnr := IntWalk.i64_in _ (by omega)
      simp only [e1, e2, e3, e4, e5, e6, e7]
      clear e1 e2 e3 e4 e5 e6 e7
      have hA := HV.out
      unfold bne at hA
      rw [hvv] at hA
      obtain ⟨nS, hS, hn0, hn1⟩ : ∃ n : Int, 3 * farF s.hgt t.hgt + 2 * farF s.bck t.bck + 2 * farF s.plc t.plc + 3 * farF s.mnr t.mnr = n ∧ 0 ≤ n ∧ n ≤ 60 := ⟨_, rfl, by omega, by omega⟩
      simp only [hS] at hA ⊢
      have HA := Lib.hid hA
      clear hA hS g11 g12 g21 g22 g31 g32 g41 g42 HV
      cases hr : (s.rnd == t.rnd) <;> cases hc : (s.vcd == t.vcd) <;> cases hl : (p.2.1 == q.2.1) <;> cases hg : (p.2.2 == q.2.2)
    all_goals
      go_wp2
      go_ret
      exact ⟨ret_int (by rw [HA.out, hr, hc, hl, hg]; simp [bit]), (by first | exact HC.out.1.drewNB _ | exact Below.drewB HC.out.1 | exact HC.out.1)⟩
end Go.Proofs.Ytogofchpocoebaa
