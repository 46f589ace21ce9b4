/- phone.Is, Sonority, Of, lone, far, apart, Lone, Apart. -/
import Derived.Test.YtogofchpocoebaaQ4
import Derived.Test.YtogofchpocoebaaP2
namespace Go.Proofs.Ytogofchpocoebaa
open Go.RowKit Go.Maps

theorem traits_ok' (r : Int) : (0 ≤ (traits r).hgt ∧ (traits r).hgt ≤ 6) ∧ (0 ≤ (traits r).bck ∧ (traits r).bck ≤ 2) ∧ (0 ≤ (traits r).plc ∧ (traits r).plc ≤ 6) ∧ 0 ≤ (traits r).mnr ∧ (traits r).mnr ≤ 5 := by
  have h := traits_ok r
  simp only [trOk, Bool.and_eq_true, decide_eq_true_eq] at h
  exact ⟨⟨h.1.1.1.1.1.1.1.1, h.1.1.1.1.1.1.1.2⟩, ⟨h.1.1.1.1.1.1.2, h.1.1.1.1.1.2⟩, ⟨h.1.1.1.1.2, h.1.1.1.2⟩, h.1.1.2, h.1.2⟩
theorem Below.drewNB {B : Nat} {w w' : World} (h : Below B w w') (n : Nat) : Below B w (w'.drewN n) := ⟨h.os, h.tape, h.output, h.size, h.block⟩
theorem far_any (x y : Int) (w : World) (hx : -1000 ≤ x ∧ x ≤ 1000) (hy : -1000 ≤ y ∧ y ≤ 1000) : Calls Try.prog 154 #[.int .i64 x, .int .i64 y] w fun e w' => e = .returned (.int .i64 (farF x y)) ∧ w' = w := by
  go_enter Try.func154, Try.ntmps154
  go_wp2
  all_goals
    go_ret
    exact ⟨ret_int (by unfold farF; omega), rfl⟩

theorem run_fld0 (a d g : Bool) (b c e f : Int) (w : World) : (Instr.field 56 (.agg #[.bool a, .int .i64 b, .int .i64 c, .bool d, .int .i64 e, .int .i64 f, .bool g]) 0).run Try.prog w = .ok (.bool a) w := by kernel_rfl
theorem run_fld5 (a d g : Bool) (b c e f : Int) (w : World) : (Instr.field 56 (.agg #[.bool a, .int .i64 b, .int .i64 c, .bool d, .int .i64 e, .int .i64 f, .bool g]) 5).run Try.prog w = .ok (.int .i64 f) w := by kernel_rfl

set_option maxHeartbeats 1000000 in
set_option maxRecDepth 100000 in
theorem lone_any (b : Nat) (p : Ph) (w : World) (h : TabIs w b) (hr : fit32 p.1) : Calls Try.prog 116 #[.map (some b), .agg #[.int .i32 p.1, .bool p.2.1, .int .i32 p.2.2]] w fun e w' => e = .returned (.int .i64 (loneF p)) ∧ Below w.heap.size w w' := by
  obtain ⟨r, lg, g⟩ := p
  show Calls Try.prog 116 #[.map (some b), .agg #[.int .i32 r, .bool lg, .int .i32 g]] w _
  have hl := (tab_look (h.on ((Below.refl _ w).alloc (Nat.le_refl _) (.cells #[.int .i32 r, .bool lg, .int .i32 g] 43))) hr).2
  have ht : trV (traits r) = .agg #[.bool (traits r).vow, .int .i64 (traits r).hgt, .int .i64 (traits r).bck, .bool (traits r).rnd, .int .i64 (traits r).plc, .int .i64 (traits r).mnr, .bool (traits r).vcd] := rfl
  rw [ht] at hl
  have hv : loneF (r, lg, g) = (if (traits r).vow then 14 else 10) + bit lg 2 + bit (g != 0) 3 := rfl
  have HV := Lib.hid hv
  clear hv ht
  generalize traits r = t at *
  have hf := run_fld0
  go_enter Try.func116, Try.ntmps116
  go_wp2
  all_goals
    go_ret
    refine ⟨ret_int ?_, (Below.refl _ _).alloc (Nat.le_refl _) _⟩
    subst_vars
    rw [HV.out]
    simp [*, bit]

/-- a phone in a box -/
theorem phBlk (w : World) (p : Ph) : Blk (w.alloc (.cells #[.int .i32 p.1, .bool p.2.1, .int .i32 p.2.2] 43)) w.heap.size 43 #[.int .i32 p.1, .bool p.2.1, .int .i32 p.2.2] := Blk.new _ _ _

set_option maxHeartbeats 1000000 in
set_option maxRecDepth 100000 in
theorem Is_any (p : Ph) (w : World) (hr : fit32 p.1) : Calls Try.prog 52 #[.agg #[.int .i32 p.1, .bool p.2.1, .int .i32 p.2.2]] w fun e w' => e = .returned (.bool (isF p)) ∧ Below w.heap.size w w' := by
  show Calls Try.prog 52 #[.agg #[.int .i32 p.1, .bool p.2.1, .int .i32 p.2.2]] w _
  go_enter Try.func52, Try.ntmps52
  go_upto_region 1 with (fail)
  refine wp_abs (fun wx => Blk wx w.heap.size 43 #[.int .i32 p.1, .bool p.2.1, .int .i32 p.2.2] ∧ Below w.heap.size w wx) ⟨phBlk w p, (Below.refl _ _).alloc (Nat.le_refl _) _⟩ ?_
  rintro w1 ⟨hB, hb⟩
  have H := Lib.hid (And.intro hB hb)
  have c0 : w1.cell? ⟨w.heap.size, 0, none⟩ = some (.int .i32 p.1) := hB.cell 0
  have c1 : w1.cell? ⟨w.heap.size, 1, none⟩ = some (.bool p.2.1) := hB.cell 1
  have c2 : w1.cell? ⟨w.heap.size, 2, none⟩ = some (.int .i32 p.2.2) := hB.cell 2
  have hK : ∀ W', Below w1.heap.size w1 W' → W'.cell? ⟨w.heap.size, 0, none⟩ = some (.int .i32 p.1) ∧ W'.cell? ⟨w.heap.size, 1, none⟩ = some (.bool p.2.1) ∧ W'.cell? ⟨w.heap.size, 2, none⟩ = some (.int .i32 p.2.2) := fun W' hb' => ⟨(hB.below hb' hB.lt).cell 0, (hB.below hb' hB.lt).cell 1, (hB.below hb' hB.lt).cell 2⟩
  have HK := Lib.hid hK
  clear hB hb hK
  go_region_held3 (fun W' => W'.cell? ⟨w.heap.size, 0, none⟩ = some (.int .i32 p.1) ∧ W'.cell? ⟨w.heap.size, 1, none⟩ = some (.bool p.2.1) ∧ W'.cell? ⟨w.heap.size, 2, none⟩ = some (.int .i32 p.2.2))
    ((refine HK.out _ ?_; first | exact HB2.out | exact HA.out.2 | exact ⟨rfl, rfl, rfl, Nat.le_refl _, fun _ _ => rfl⟩))
    (first
      | (go_at_call 113
         refine (table_any _).mono ?_
         rintro e wa ⟨mb, rfl, hlo, ht, hb⟩
         have hbx : Below w1.heap.size w1 wa := ⟨hb.os, hb.tape, hb.output, hb.size, hb.block⟩
         have HA := Lib.hid (And.intro ht hbx)
         clear hlo ht hb hbx)
      | (go_at_call 114
         (with_reducible refine (is_any mb p _ HA.out.1 hr).mono ?_)
         rintro e wb ⟨rfl, hb⟩
         have HB2 := Lib.hid (HA.out.2.trans ((show Below wa.heap.size wa wb from ⟨hb.os, hb.tape, hb.output, hb.size, hb.block⟩).mono HA.out.2.size))
         clear hb))
  all_goals
    go_wp2
    go_ret
    exact ⟨rfl, H.out.2.trans (HB2.out.mono H.out.2.size)⟩

set_option maxHeartbeats 1000000 in
set_option maxRecDepth 100000 in
theorem son_any (p : Ph) (w : World) (hr : fit32 p.1) : Calls Try.prog 53 #[.agg #[.int .i32 p.1, .bool p.2.1, .int .i32 p.2.2]] w fun e w' => e = .returned (.int .i64 (sonF p)) ∧ Below w.heap.size w w' := by
  go_enter Try.func53, Try.ntmps53
  go_upto_region 1 with (fail)
  refine wp_abs (fun wx => Blk wx w.heap.size 43 #[.int .i32 p.1, .bool p.2.1, .int .i32 p.2.2] ∧ Below w.heap.size w wx) ⟨phBlk w p, (Below.refl _ _).alloc (Nat.le_refl _) _⟩ ?_
  rintro w1 ⟨hB, hb⟩
  have H := Lib.hid (And.intro hB hb)
  clear hB hb
  go_wp2_with fail
  refine (table_any w1).mono ?_
  rintro e w2 ⟨mb, rfl, hlo, ht, hb⟩
  have hB := H.out.1.below hb H.out.1.lt
  have c0 : w2.cell? ⟨w.heap.size, 0, none⟩ = some (.int .i32 p.1) := hB.cell 0
  have c1 : w2.cell? ⟨w.heap.size, 1, none⟩ = some (.bool p.2.1) := hB.cell 1
  have c2 : w2.cell? ⟨w.heap.size, 2, none⟩ = some (.int .i32 p.2.2) := hB.cell 2
  have H2 := Lib.hid (And.intro hB (And.intro ht (H.out.2.trans (hb.mono H.out.2.size))))
  clear hB hb ht hlo H
  go_wp2_with fail
  refine (is_any mb p w2 H2.out.2.1 hr).mono ?_
  rintro e w3 ⟨rfl, hb⟩
  have hB := H2.out.1.below hb H2.out.1.lt
  have d0 : w3.cell? ⟨w.heap.size, 0, none⟩ = some (.int .i32 p.1) := hB.cell 0
  have hl := (tab_look (H2.out.2.1.on hb) hr).2
  have H3 := Lib.hid (H2.out.2.2.trans (hb.mono H2.out.2.2.size))
  have hm := traits_ok' p.1
  have hv : sonF p = if isF p then if (traits p.1).vow then 7 else (traits p.1).mnr + 1 else 0 := rfl
  have HV := Lib.hid hv
  have ht : trV (traits p.1) = .agg #[.bool (traits p.1).vow, .int .i64 (traits p.1).hgt, .int .i64 (traits p.1).bck, .bool (traits p.1).rnd, .int .i64 (traits p.1).plc, .int .i64 (traits p.1).mnr, .bool (traits p.1).vcd] := rfl
  rw [ht] at hl
  clear hB hb c0 c1 c2 ht hv H2
  generalize traits p.1 = t at *
  have hf := run_fld0
  have hf5 := run_fld5
  generalize isF p = ok at *
  obtain ⟨_, _, _, hm1, hm2⟩ := hm
  go_wp2
  all_goals
    go_ret
    refine ⟨ret_int ?_, H3.out⟩
    rw [HV.out]
    clear hl hf hf5 d0 H3 HV
    cases ok <;> simp_all

set_option maxHeartbeats 1000000 in
set_option maxRecDepth 100000 in
theorem Of_any (r : Int) (w : World) (hr : fit32 r) : Calls Try.prog 50 #[.int .i32 r] w fun e w' => e = .returned (.tuple #[trV (traits r), .bool (tabF r).isSome]) ∧ Below w.heap.size w w' := by
  go_enter Try.func50, Try.ntmps50
  go_upto_region 1 with (fail)
  refine wp_abs (fun wx => Blk wx w.heap.size 56 (trC tr0).toArray ∧ Below w.heap.size w wx) ⟨Blk.new _ _ _, (Below.refl _ _).alloc (Nat.le_refl _) _⟩ ?_
  rintro w1 ⟨hB, hb⟩
  have H := Lib.hid (And.intro hB hb)
  clear hB hb
  go_wp2_with fail
  refine (table_any w1).mono ?_
  rintro e w2 ⟨mb, rfl, hlo, ht, hb⟩
  have hB := H.out.1.below hb H.out.1.lt
  have hl := (tab_look ht hr).1
  have e0 : w2.cell? ⟨w.heap.size, 0, none⟩ = some (.bool false) := hB.cell 0
  have e1 : w2.cell? ⟨w.heap.size, 1, none⟩ = some (.int .i64 0) := hB.cell 1
  have e2 : w2.cell? ⟨w.heap.size, 2, none⟩ = some (.int .i64 0) := hB.cell 2
  have e3 : w2.cell? ⟨w.heap.size, 3, none⟩ = some (.bool false) := hB.cell 3
  have e4 : w2.cell? ⟨w.heap.size, 4, none⟩ = some (.int .i64 0) := hB.cell 4
  have e5 : w2.cell? ⟨w.heap.size, 5, none⟩ = some (.int .i64 0) := hB.cell 5
  have e6 : w2.cell? ⟨w.heap.size, 6, none⟩ = some (.bool false) := hB.cell 6
  have f0 := hB.frozen
  have ht' : trV (traits r) = .agg #[.bool (traits r).vow, .int .i64 (traits r).hgt, .int .i64 (traits r).bck, .bool (traits r).rnd, .int .i64 (traits r).plc, .int .i64 (traits r).mnr, .bool (traits r).vcd] := rfl
  rw [ht'] at hl
  have lb := hB.lt
  have H2 := Lib.hid (And.intro hB (H.out.2.trans (hb.mono H.out.2.size)))
  clear hB hb ht hlo H ht'
  generalize hT : traits r = t at *
  generalize hO : (tabF r).isSome = ok at *
  have HT := Lib.hid (And.intro hT hO)
  clear hT hO
  go_wp2
  have HF := ((((((((H2.out.1.set_ 0 (.bool t.vow)).set_ 1 (.int .i64 t.hgt)).set_ 2 (.int .i64 t.bck)).set_ 3 (.bool t.rnd)).set_ 4 (.int .i64 t.plc)).set_ 5 (.int .i64 t.mnr)).set_ 6 (.bool t.vcd)).alloc (.cells #[.bool t.vow, .int .i64 t.hgt, .int .i64 t.bck, .bool t.rnd, .int .i64 t.plc, .int .i64 t.mnr, .bool t.vcd] 56))
  have g0 := HF.cell 0
  have g1 := HF.cell 1
  have g2 := HF.cell 2
  have g3 := HF.cell 3
  have g4 := HF.cell 4
  have g5 := HF.cell 5
  have g6 := HF.cell 6
  simp [trC] at g0 g1 g2 g3 g4 g5 g6
  refine bodyPost_ret (v := .tuple #[.agg #[.bool t.vow, .int .i64 t.hgt, .int .i64 t.bck, .bool t.rnd, .int .i64 t.plc, .int .i64 t.mnr, .bool t.vcd], .bool ok]) (by simp [results, Try.results50, go_sem, g0, g1, g2, g3, g4, g5, g6]) rfl ?_
  refine ⟨?_, ((((((((H2.out.2.setCell (by simp) _).setCell (by simp) _).setCell (by simp) _).setCell (by simp) _).setCell (by simp) _).setCell (by simp) _).setCell (by simp) _).alloc (by simp; omega) _)⟩
  rw [HT.out.1, HT.out.2]
  rfl


set_option maxHeartbeats 2000000 in
set_option maxRecDepth 100000 in
theorem apart_any (b : Nat) (p q : Ph) (w : World) (h : TabIs w b) (hp : fit32 p.1) (hq : fit32 q.1) : Calls Try.prog 115 #[.map (some b), .agg #[.int .i32 p.1, .bool p.2.1, .int .i32 p.2.2], .agg #[.int .i32 q.1, .bool q.2.1, .int .i32 q.2.2]] w fun e w' => e = .returned (.int .i64 (apartF p q)) ∧ Below w.heap.size w w' := by
  have h1 := traits_ok' p.1
  have h2 := traits_ok' q.1
  have HV := Lib.hid (show apartF p q = if (traits p.1).vow != (traits q.1).vow then 40
    else (if (traits p.1).vow then 3 * farF (traits p.1).hgt (traits q.1).hgt + 2 * farF (traits p.1).bck (traits q.1).bck + bit ((traits p.1).rnd != (traits q.1).rnd) 1
      else 2 * farF (traits p.1).plc (traits q.1).plc + 3 * farF (traits p.1).mnr (traits q.1).mnr + bit ((traits p.1).vcd != (traits q.1).vcd) 1)
      + bit (p.2.1 != q.2.1) 2 + bit (p.2.2 != q.2.2) 3 from rfl)
  go_enter Try.func115, Try.ntmps115
  go_upto_region 1 with (fail)
  refine wp_abs (fun wx => (Blk wx w.heap.size 43 #[.int .i32 p.1, .bool p.2.1, .int .i32 p.2.2] ∧ Blk wx (w.heap.size + 1) 43 #[.int .i32 q.1, .bool q.2.1, .int .i32 q.2.2]) ∧ TabIs wx b ∧ Below w.heap.size w wx) ⟨⟨(phBlk w p).alloc _, blk_new_eq (by simp)⟩, h.on (((Below.refl _ _).alloc (Nat.le_refl _) _).alloc (by simp) _), ((Below.refl _ _).alloc (Nat.le_refl _) _).alloc (by simp) _⟩ ?_
  rintro w1 ⟨⟨hB1, hB2⟩, ht, hb⟩
  have a0 : w1.cell? ⟨w.heap.size, 0, none⟩ = some (.int .i32 p.1) := hB1.cell 0
  have b0 : w1.cell? ⟨w.heap.size + 1, 0, none⟩ = some (.int .i32 q.1) := hB2.cell 0
  have hK : ∀ W', Below w1.heap.size w1 W' → (W'.cell? ⟨w.heap.size, 0, none⟩ = some (.int .i32 p.1) ∧ W'.cell? ⟨w.heap.size + 1, 0, none⟩ = some (.int .i32 q.1)) ∧
      (Instr.lookup 164 (.map (some b)) (.int .i32 p.1) false).run Try.prog W' = .ok (.agg #[.bool (traits p.1).vow, .int .i64 (traits p.1).hgt, .int .i64 (traits p.1).bck, .bool (traits p.1).rnd, .int .i64 (traits p.1).plc, .int .i64 (traits p.1).mnr, .bool (traits p.1).vcd]) W' ∧
      (Instr.lookup 164 (.map (some b)) (.int .i32 q.1) false).run Try.prog W' = .ok (.agg #[.bool (traits q.1).vow, .int .i64 (traits q.1).hgt, .int .i64 (traits q.1).bck, .bool (traits q.1).rnd, .int .i64 (traits q.1).plc, .int .i64 (traits q.1).mnr, .bool (traits q.1).vcd]) W' :=
    fun W' hb' => ⟨⟨(hB1.below hb' hB1.lt).cell 0, (hB2.below hb' hB2.lt).cell 0⟩, (tab_look (ht.on hb') hp).2, (tab_look (ht.on hb') hq).2⟩
  have HK := Lib.hid hK
  have H := Lib.hid (And.intro (And.intro hB1 hB2) hb)
  clear hK hB1 hB2 ht hb h
  generalize hs : traits p.1 = s at *
  generalize hu : traits q.1 = t at *
  clear hs hu
  have z : w.heap.size + 1 < w1.heap.size := H.out.1.2.lt
  go_cut [7, 8] (fun v7 v8 wx => ∃ x y : Nat, v7 = .pointer (some ⟨x, 0, none⟩) ∧ v8 = .pointer (some ⟨y, 0, none⟩) ∧ Hid ((Blk wx x 56 #[.bool s.vow, .int .i64 s.hgt, .int .i64 s.bck, .bool s.rnd, .int .i64 s.plc, .int .i64 s.mnr, .bool s.vcd] ∧ Blk wx y 56 #[.bool t.vow, .int .i64 t.hgt, .int .i64 t.bck, .bool t.rnd, .int .i64 t.plc, .int .i64 t.mnr, .bool t.vcd]) ∧ (Blk wx w.heap.size 43 #[.int .i32 p.1, .bool p.2.1, .int .i32 p.2.2] ∧ Blk wx (w.heap.size + 1) 43 #[.int .i32 q.1, .bool q.2.1, .int .i32 q.2.2]) ∧ Below w.heap.size w wx))
  case first =>
    go_region_held3 (fun W' => (W'.cell? ⟨w.heap.size, 0, none⟩ = some (.int .i32 p.1) ∧ W'.cell? ⟨w.heap.size + 1, 0, none⟩ = some (.int .i32 q.1)) ∧
        (Instr.lookup 164 (.map (some b)) (.int .i32 p.1) false).run Try.prog W' = .ok (.agg #[.bool s.vow, .int .i64 s.hgt, .int .i64 s.bck, .bool s.rnd, .int .i64 s.plc, .int .i64 s.mnr, .bool s.vcd]) W' ∧
        (Instr.lookup 164 (.map (some b)) (.int .i32 q.1) false).run Try.prog W' = .ok (.agg #[.bool t.vow, .int .i64 t.hgt, .int .i64 t.bck, .bool t.rnd, .int .i64 t.plc, .int .i64 t.mnr, .bool t.vcd]) W')
      ((refine HK.out _ ?_; (repeat (first | (with_reducible exact Below.refl _ _) | (with_reducible refine Below.drewB ?_) | (with_reducible refine Below.allocB ?_ (Nat.le_refl _) _) | (with_reducible refine Below.setCell ?_ ?_ _))); (first | done | (simp; done) | (simp; omega)))) (fail)
    all_goals
      go_wp2_with fail
      go_meet
      exact ⟨_, _, rfl, rfl, Lib.hid ⟨⟨(by (repeat (first | ((with_reducible refine blk_new_eq ?_); (first | (with_reducible rfl) | (simp; done))) | (with_reducible refine Blk.drew ?_) | (with_reducible refine Blk.alloc ?_ _) | exact H.out.1.1 | exact H.out.1.2))), (by (repeat (first | ((with_reducible refine blk_new_eq ?_); (first | (with_reducible rfl) | (simp; done))) | (with_reducible refine Blk.drew ?_) | (with_reducible refine Blk.alloc ?_ _) | exact H.out.1.1 | exact H.out.1.2)))⟩, ⟨(by (repeat (first | ((with_reducible refine blk_new_eq ?_); (first | (with_reducible rfl) | (simp; done))) | (with_reducible refine Blk.drew ?_) | (with_reducible refine Blk.alloc ?_ _) | exact H.out.1.1 | exact H.out.1.2))), (by (repeat (first | ((with_reducible refine blk_new_eq ?_); (first | (with_reducible rfl) | (simp; done))) | (with_reducible refine Blk.drew ?_) | (with_reducible refine Blk.alloc ?_ _) | exact H.out.1.1 | exact H.out.1.2)))⟩, H.out.2.trans ((by (repeat (first | (with_reducible exact Below.refl _ _) | (with_reducible refine Below.drewB ?_) | (with_reducible refine Below.allocB ?_ (Nat.le_refl _) _))) : Below w1.heap.size w1 _).mono H.out.2.size)⟩⟩
  case rest =>
    obtain ⟨x, y, rfl, rfl, HC⟩ := hcut
    have x0 : wc.cell? ⟨x, 0, none⟩ = some (.bool s.vow) := HC.out.1.1.cell 0
    have y0 : wc.cell? ⟨y, 0, none⟩ = some (.bool t.vow) := HC.out.1.2.cell 0
    have x1 : wc.cell? ⟨x, 1, none⟩ = some (.int .i64 s.hgt) := HC.out.1.1.cell 1
    have y1 : wc.cell? ⟨y, 1, none⟩ = some (.int .i64 t.hgt) := HC.out.1.2.cell 1
    have x2 : wc.cell? ⟨x, 2, none⟩ = some (.int .i64 s.bck) := HC.out.1.1.cell 2
    have y2 : wc.cell? ⟨y, 2, none⟩ = some (.int .i64 t.bck) := HC.out.1.2.cell 2
    have x3 : wc.cell? ⟨x, 3, none⟩ = some (.bool s.rnd) := HC.out.1.1.cell 3
    have y3 : wc.cell? ⟨y, 3, none⟩ = some (.bool t.rnd) := HC.out.1.2.cell 3
    have x4 : wc.cell? ⟨x, 4, none⟩ = some (.int .i64 s.plc) := HC.out.1.1.cell 4
    have y4 : wc.cell? ⟨y, 4, none⟩ = some (.int .i64 t.plc) := HC.out.1.2.cell 4
    have x5 : wc.cell? ⟨x, 5, none⟩ = some (.int .i64 s.mnr) := HC.out.1.1.cell 5
    have y5 : wc.cell? ⟨y, 5, none⟩ = some (.int .i64 t.mnr) := HC.out.1.2.cell 5
    have x6 : wc.cell? ⟨x, 6, none⟩ = some (.bool s.vcd) := HC.out.1.1.cell 6
    have y6 : wc.cell? ⟨y, 6, none⟩ = some (.bool t.vcd) := HC.out.1.2.cell 6
    have p1 : wc.cell? ⟨w.heap.size, 1, none⟩ = some (.bool p.2.1) := HC.out.2.1.1.cell 1
    have q1 : wc.cell? ⟨w.heap.size + 1, 1, none⟩ = some (.bool q.2.1) := HC.out.2.1.2.cell 1
    have p2 : wc.cell? ⟨w.heap.size, 2, none⟩ = some (.int .i32 p.2.2) := HC.out.2.1.1.cell 2
    have q2 : wc.cell? ⟨w.heap.size + 1, 2, none⟩ = some (.int .i32 q.2.2) := HC.out.2.1.2.cell 2
    obtain ⟨⟨i1, i2⟩, ⟨i3, i4⟩, ⟨i5, i6⟩, i7, i8⟩ := h1
    obtain ⟨⟨j1, j2⟩, ⟨j3, j4⟩, ⟨j5, j6⟩, j7, j8⟩ := h2
    have g1 : 0 ≤ farF s.hgt t.hgt ∧ farF s.hgt t.hgt ≤ 6 := by unfold farF; omega
    have g2 : 0 ≤ farF s.bck t.bck ∧ farF s.bck t.bck ≤ 2 := by unfold farF; omega
    have g3 : 0 ≤ farF s.plc t.plc ∧ farF s.plc t.plc ≤ 6 := by unfold farF; omega
    have g4 : 0 ≤ farF s.mnr t.mnr ∧ farF s.mnr t.mnr ≤ 5 := by unfold farF; omega
    obtain ⟨g11, g12⟩ := g1
    obtain ⟨g21, g22⟩ := g2
    obtain ⟨g31, g32⟩ := g3
    obtain ⟨g41, g42⟩ := g4
    have e1 : IntKind.i64.wrap (3 * farF s.hgt t.hgt) = 3 * farF s.hgt t.hgt := IntWalk.i64_in _ (by omega)
    have e2 : IntKind.i64.wrap (2 * farF s.bck t.bck) = 2 * farF s.bck t.bck := IntWalk.i64_in _ (by omega)
    have e3 : IntKind.i64.wrap (3 * farF s.hgt t.hgt + 2 * farF s.bck t.bck) = 3 * farF s.hgt t.hgt + 2 * farF s.bck t.bck := IntWalk.i64_in _ (by omega)
    have e4 : IntKind.i64.wrap (2 * farF s.plc t.plc) = 2 * farF s.plc t.plc := IntWalk.i64_in _ (by omega)
    have e5 : IntKind.i64.wrap (3 * farF s.mnr t.mnr) = 3 * farF s.mnr t.mnr := IntWalk.i64_in _ (by omega)
    have e6 : IntKind.i64.wrap (2 * farF s.plc t.plc + 3 * farF s.mnr t.mnr) = 2 * farF s.plc t.plc + 3 * farF s.mnr t.mnr := IntWalk.i64_in _ (by omega)
    rcases bool_or' s.vow with hs | hs <;> rcases bool_or' t.vow with ht | ht
    rotate_left 1
    · go_wp2
      go_ret
      exact ⟨ret_int (by rw [HV.out]; unfold bne; rw [hs, ht]; rfl), HC.out.2.2⟩
    · go_wp2
      go_ret
      exact ⟨ret_int (by rw [HV.out]; unfold bne; rw [hs, ht]; rfl), HC.out.2.2⟩
    · skip
      go_upto_region 9 with (fail)
      go_region_held3 (fun W' => (W'.cell? ⟨x, 1, none⟩ = some (.int .i64 s.hgt) ∧ W'.cell? ⟨y, 1, none⟩ = some (.int .i64 t.hgt)) ∧ W'.cell? ⟨x, 2, none⟩ = some (.int .i64 s.bck) ∧ W'.cell? ⟨y, 2, none⟩ = some (.int .i64 t.bck))
        ((exact ⟨⟨HC.out.1.1.cell 1, HC.out.1.2.cell 1⟩, HC.out.1.1.cell 2, HC.out.1.2.cell 2⟩))
        (first
          | (go_at_call 154
             refine (far_any _ _ _ (by omega) (by omega)).mono ?_
             rintro e w' ⟨rfl, rfl⟩))
      all_goals
        cases hr : (s.rnd == t.rnd) <;> cases hl : (p.2.1 == q.2.1) <;> cases hg : (p.2.2 == q.2.2)
      all_goals
        go_wp2
        go_ret
        exact ⟨ret_int (by rw [HV.out]; unfold bne; rw [hs, ht, hr, hl, hg]; simp [bit]; try omega), (by first | exact HC.out.2.2.drewNB _ | exact Below.drewB HC.out.2.2 | exact HC.out.2.2)⟩
    · skip
      go_upto_region 3 with (fail)
      go_region_held3 (fun W' => (W'.cell? ⟨x, 4, none⟩ = some (.int .i64 s.plc) ∧ W'.cell? ⟨y, 4, none⟩ = some (.int .i64 t.plc)) ∧ W'.cell? ⟨x, 5, none⟩ = some (.int .i64 s.mnr) ∧ W'.cell? ⟨y, 5, none⟩ = some (.int .i64 t.mnr))
        ((exact ⟨⟨HC.out.1.1.cell 4, HC.out.1.2.cell 4⟩, HC.out.1.1.cell 5, HC.out.1.2.cell 5⟩))
        (first
          | (go_at_call 154
             refine (far_any _ _ _ (by omega) (by omega)).mono ?_
             rintro e w' ⟨rfl, rfl⟩))
      all_goals
        cases hr : (s.vcd == t.vcd) <;> cases hl : (p.2.1 == q.2.1) <;> cases hg : (p.2.2 == q.2.2)
      all_goals
        go_wp2
        go_ret
        exact ⟨ret_int (by rw [HV.out]; unfold bne; rw [hs, ht, hr, hl, hg]; simp [bit]; try omega), (by first | exact HC.out.2.2.drewNB _ | exact Below.drewB HC.out.2.2 | exact HC.out.2.2)⟩
end Go.Proofs.Ytogofchpocoebaa
