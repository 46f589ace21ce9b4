/- phone.Is, Sonority, Of, lone, far, apart, Lone, Apart.
   phone's rest: the costs of least alignments: at, take, least.
   phone's least: the cost from a pair of places on, all further ones being known. -/
import Derived.Test.YtogofchpocoebaaQ1
import Derived.Test.YtogofchpocoebaaP1
import Derived.BigQuiet
namespace Go.Proofs.Ytogofchpocoebaa
open Go.RowKit Go.Maps

theorem traits_ok' (r : Int) : (0 ≤ (traits r).hgt ∧ (traits r).hgt ≤ 6) ∧ (0 ≤ (traits r).bck ∧ (traits r).bck ≤ 2) ∧ (0 ≤ (traits r).plc ∧ (traits r).plc ≤ 6) ∧ 0 ≤ (traits r).mnr ∧ (traits r).mnr ≤ 5 := by
  have h := traits_ok r
  simp only [trOk, Bool.and_eq_true, decide_eq_true_eq] at h
  exact ⟨⟨h.1.1.1.1.1.1.1.1, h.1.1.1.1.1.1.1.2⟩, ⟨h.1.1.1.1.1.1.2, h.1.1.1.1.1.2⟩, ⟨h.1.1.1.1.2, h.1.1.1.2⟩, h.1.1.2, h.1.2⟩
theorem Below.drewNB {B : Nat} {w w' : World} (h : Below B w w') (n : Nat) : Below B w (w'.drewN n) := ⟨h.os, h.tape, h.output, h.size, h.block⟩
theorem far_any (x y : Int) (w : World) (hx : -1000 ≤ x ∧ x ≤ 1000) (hy : -1000 ≤ y ∧ y ≤ 1000) : Calls Try.prog 154 #[.int .i64 x, .int .i64 y] w fun e w' => e = .returned (.int .i64 (farF x y)) ∧ w' = w := by
  go_enter Try.func154, Try.ntmps154
  go_wp2
  all_goals
    go_ret
    exact ⟨ret_int (by unfold farF; omega), rfl⟩

theorem run_fld0 (a d g : Bool) (b c e f : Int) (w : World) : (Instr.field 56 (.agg #[.bool a, .int .i64 b, .int .i64 c, .bool d, .int .i64 e, .int .i64 f, .bool g]) 0).run Try.prog w = .ok (.bool a) w := by kernel_rfl
theorem run_fld5 (a d g : Bool) (b c e f : Int) (w : World) : (Instr.field 56 (.agg #[.bool a, .int .i64 b, .int .i64 c, .bool d, .int .i64 e, .int .i64 f, .bool g]) 5).run Try.prog w = .ok (.int .i64 f) w := by kernel_rfl

set_option maxHeartbeats 1000000 in
set_option maxRecDepth 100000 in
theorem lone_any (b : Nat) (p : Ph) (w : World) (h : TabIs w b) (hr : fit32 p.1) : Calls Try.prog 116 #[.map (some b), .agg #[.int .i32 p.1, .bool p.2.1, .int .i32 p.2.2]] w fun e w' => e = .returned (.int .i64 (loneF p)) ∧ Below w.heap.size w w' := by
  obtain ⟨r, lg, g⟩ := p
  show Calls Try.prog 116 #[.map (some b), .agg #[.int .i32 r, .bool lg, .int .i32 g]] w _
  have hl := (tab_look (h.on ((Below.refl _ w).alloc (Nat.le_refl _) (.cells #[.int .i32 r, .bool lg, .int .i32 g] 43))) hr).2
  have ht : trV (traits r) = .agg #[.bool (traits r).vow, .int .i64 (traits r).hgt, .int .i64 (traits r).bck, .bool (traits r).rnd, .int .i64 (traits r).plc, .int .i64 (traits r).mnr, .bool (traits r).vcd] := rfl
  rw [ht] at hl
  have hv : loneF (r, lg, g) = (if (traits r).vow then 14 else 10) + bit lg 2 + bit (g != 0) 3 := rfl
  have HV := Lib.hid hv
  clear hv ht
  generalize traits r = t at *
  have hf := run_fld0
  go_enter Try.func116, Try.ntmps116
  go_wp2
  all_goals
    go_ret
    refine ⟨ret_int ?_, (Below.refl _ _).alloc (Nat.le_refl _) _⟩
    subst_vars
    rw [HV.out]
    simp [*, bit]

/-- a phone in a box -/
theorem phBlk (w : World) (p : Ph) : Blk (w.alloc (.cells #[.int .i32 p.1, .bool p.2.1, .int .i32 p.2.2] 43)) w.heap.size 43 #[.int .i32 p.1, .bool p.2.1, .int .i32 p.2.2] := Blk.new _ _ _

set_option maxHeartbeats 1000000 in
set_option maxRecDepth 100000 in
theorem Is_any (p : Ph) (w : World) (hr : fit32 p.1) : Calls Try.prog 52 #[.agg #[.int .i32 p.1, .bool p.2.1, .int .i32 p.2.2]] w fun e w' => e = .returned (.bool (isF p)) ∧ Below w.heap.size w w' := by
  show Calls Try.prog 52 #[.agg #[.int .i32 p.1, .bool p.2.1, .int .i32 p.2.2]] w _
  go_enter Try.func52, Try.ntmps52
  go_upto_region 1 with (fail)
  refine wp_abs (fun wx => Blk wx w.heap.size 43 #[.int .i32 p.1, .bool p.2.1, .int .i32 p.2.2] ∧ Below w.heap.size w wx) ⟨phBlk w p, (Below.refl _ _).alloc (Nat.le_refl _) _⟩ ?_
  rintro w1 ⟨hB, hb⟩
  have H := Lib.hid (And.intro hB hb)
  have c0 : w1.cell? ⟨w.heap.size, 0, none⟩ = some (.int .i32 p.1) := hB.cell 0
  have c1 : w1.cell? ⟨w.heap.size, 1, none⟩ = some (.bool p.2.1) := hB.cell 1
  have c2 : w1.cell? ⟨w.heap.size, 2, none⟩ = some (.int .i32 p.2.2) := hB.cell 2
  have hK : ∀ W', Below w1.heap.size w1 W' → W'.cell? ⟨w.heap.size, 0, none⟩ = some (.int .i32 p.1) ∧ W'.cell? ⟨w.heap.size, 1, none⟩ = some (.bool p.2.1) ∧ W'.cell? ⟨w.heap.size, 2, none⟩ = some (.int .i32 p.2.2) := fun W' hb' => ⟨(hB.below hb' hB.lt).cell 0, (hB.below hb' hB.lt).cell 1, (hB.below hb' hB.lt).cell 2⟩
  have HK := Lib.hid hK
  clear hB hb hK
  go_region_held3 (fun W' => W'.cell? ⟨w.heap.size, 0, none⟩ = some (.int .i32 p.1) ∧ W'.cell? ⟨w.heap.size, 1, none⟩ = some (.bool p.2.1) ∧ W'.cell? ⟨w.heap.size, 2, none⟩ = some (.int .i32 p.2.2))
    ((refine HK.out _ ?_; first | exact HB2.out | exact HA.out.2 | exact ⟨rfl, rfl, rfl, Nat.le_refl _, fun _ _ => rfl⟩))
    (first
      | (go_at_call 113
         refine (table_any _).mono ?_
         rintro e wa ⟨mb, rfl, hlo, ht, hb⟩
         have hbx : Below w1.heap.size w1 wa := ⟨hb.os, hb.tape, hb.output, hb.size, hb.block⟩
         have HA := Lib.hid (And.intro ht hbx)
         clear hlo ht hb hbx)
      | (go_at_call 114
         (with_reducible refine (is_any mb p _ HA.out.1 hr).mono ?_)
         rintro e wb ⟨rfl, hb⟩
         have HB2 := Lib.hid (HA.out.2.trans ((show Below wa.heap.size wa wb from ⟨hb.os, hb.tape, hb.output, hb.size, hb.block⟩).mono HA.out.2.size))
         clear hb))
  all_goals
    go_wp2
    go_ret
    exact ⟨rfl, H.out.2.trans (HB2.out.mono H.out.2.size)⟩

set_option maxHeartbeats 1000000 in
set_option maxRecDepth 100000 in
theorem son_any (p : Ph) (w : World) (hr : fit32 p.1) : Calls Try.prog 53 #[.agg #[.int .i32 p.1, .bool p.2.1, .int .i32 p.2.2]] w fun e w' => e = .returned (.int .i64 (sonF p)) ∧ Below w.heap.size w w' := by
  go_enter Try.func53, Try.ntmps53
  go_upto_region 1 with (fail)
  refine wp_abs (fun wx => Blk wx w.heap.size 43 #[.int .i32 p.1, .bool p.2.1, .int .i32 p.2.2] ∧ Below w.heap.size w wx) ⟨phBlk w p, (Below.refl _ _).alloc (Nat.le_refl _) _⟩ ?_
  rintro w1 ⟨hB, hb⟩
  have H := Lib.hid (And.intro hB hb)
  clear hB hb
  go_wp2_with fail
  refine (table_any w1).mono ?_
  rintro e w2 ⟨mb, rfl, hlo, ht, hb⟩
  have hB := H.out.1.below hb H.out.1.lt
  have c0 : w2.cell? ⟨w.heap.size, 0, none⟩ = some (.int .i32 p.1) := hB.cell 0
  have c1 : w2.cell? ⟨w.heap.size, 1, none⟩ = some (.bool p.2.1) := hB.cell 1
  have c2 : w2.cell? ⟨w.heap.size, 2, none⟩ = some (.int .i32 p.2.2) := hB.cell 2
  have H2 := Lib.hid (And.intro hB (And.intro ht (H.out.2.trans (hb.mono H.out.2.size))))
  clear hB hb ht hlo H
  go_wp2_with fail
  refine (is_any mb p w2 H2.out.2.1 hr).mono ?_
  rintro e w3 ⟨rfl, hb⟩
  have hB := H2.out.1.below hb H2.out.1.lt
  have d0 : w3.cell? ⟨w.heap.size, 0, none⟩ = some (.int .i32 p.1) := hB.cell 0
  have hl := (tab_look (H2.out.2.1.on hb) hr).2
  have H3 := Lib.hid (H2.out.2.2.trans (hb.mono H2.out.2.2.size))
  have hm := traits_ok' p.1
  have hv : sonF p = if isF p then if (traits p.1).vow then 7 else (traits p.1).mnr + 1 else 0 := rfl
  have HV := Lib.hid hv
  have ht : trV (traits p.1) = .agg #[.bool (traits p.1).vow, .int .i64 (traits p.1).hgt, .int .i64 (traits p.1).bck, .bool (traits p.1).rnd, .int .i64 (traits p.1).plc, .int .i64 (traits p.1).mnr, .bool (traits p.1).vcd] := rfl
  rw [ht] at hl
  clear hB hb c0 c1 c2 ht hv H2
  generalize traits p.1 = t at *
  have hf := run_fld0
  have hf5 := run_fld5
  generalize isF p = ok at *
  obtain ⟨_, _, _, hm1, hm2⟩ := hm
  go_wp2
  all_goals
    go_ret
    refine ⟨ret_int ?_, H3.out⟩
    rw [HV.out]
    clear hl hf hf5 d0 H3 HV
    cases ok <;> simp_all

set_option maxHeartbeats 1000000 in
set_option maxRecDepth 100000 in
theorem Of_any (r : Int) (w : World) (hr : fit32 r) : Calls Try.prog 50 #[.int .i32 r] w fun e w' => e = .returned (.tuple #[trV (traits r), .bool (tabF r).isSome]) ∧ Below w.heap.size w w' := by
  go_enter Try.func50, Try.ntmps50
  go_upto_region 1 with (fail)
  refine wp_abs (fun wx => Blk wx w.heap.size 56 (trC tr0).toArray ∧ Below w.heap.size w wx) ⟨Blk.new _ _ _, (Below.refl _ _).alloc (Nat.le_refl _) _⟩ ?_
  rintro w1 ⟨hB, hb⟩
  have H := Lib.hid (And.intro hB hb)
  clear hB hb
  go_wp2_with fail
  refine (table_any w1).mono ?_
  rintro e w2 ⟨mb, rfl, hlo, ht, hb⟩
  have hB := H.out.1.below hb H.out.1.lt
  have hl := (tab_look ht hr).1
  have e0 : w2.cell? ⟨w.heap.size, 0, none⟩ = some (.bool false) := hB.cell 0
  have e1 : w2.cell? ⟨w.heap.size, 1, none⟩ = some (.int .i64 0) := hB.cell 1
  have e2 : w2.cell? ⟨w.heap.size, 2, none⟩ = some (.int .i64 0) := hB.cell 2
  have e3 : w2.cell? ⟨w.heap.size, 3, none⟩ = some (.bool false) := hB.cell 3
  have e4 : w2.cell? ⟨w.heap.size, 4, none⟩ = some (.int .i64 0) := hB.cell 4
  have e5 : w2.cell? ⟨w.heap.size, 5, none⟩ = some (.int .i64 0) := hB.cell 5
  have e6 : w2.cell? ⟨w.heap.size, 6, none⟩ = some (.bool false) := hB.cell 6
  have f0 := hB.frozen
  have ht' : trV (traits r) = .agg #[.bool (traits r).vow, .int .i64 (traits r).hgt, .int .i64 (traits r).bck, .bool (traits r).rnd, .int .i64 (traits r).plc, .int .i64 (traits r).mnr, .bool (traits r).vcd] := rfl
  rw [ht'] at hl
  have lb := hB.lt
  have H2 := Lib.hid (And.intro hB (H.out.2.trans (hb.mono H.out.2.size)))
  clear hB hb ht hlo H ht'
  generalize hT : traits r = t at *
  generalize hO : (tabF r).isSome = ok at *
  have HT := Lib.hid (And.intro hT hO)
  clear hT hO
  go_wp2
  have HF := ((((((((H2.out.1.set_ 0 (.bool t.vow)).set_ 1 (.int .i64 t.hgt)).set_ 2 (.int .i64 t.bck)).set_ 3 (.bool t.rnd)).set_ 4 (.int .i64 t.plc)).set_ 5 (.int .i64 t.mnr)).set_ 6 (.bool t.vcd)).alloc (.cells #[.bool t.vow, .int .i64 t.hgt, .int .i64 t.bck, .bool t.rnd, .int .i64 t.plc, .int .i64 t.mnr, .bool t.vcd] 56))
  have g0 := HF.cell 0
  have g1 := HF.cell 1
  have g2 := HF.cell 2
  have g3 := HF.cell 3
  have g4 := HF.cell 4
  have g5 := HF.cell 5
  have g6 := HF.cell 6
  simp [trC] at g0 g1 g2 g3 g4 g5 g6
  refine bodyPost_ret (v := .tuple #[.agg #[.bool t.vow, .int .i64 t.hgt, .int .i64 t.bck, .bool t.rnd, .int .i64 t.plc, .int .i64 t.mnr, .bool t.vcd], .bool ok]) (by simp [results, Try.results50, go_sem, g0, g1, g2, g3, g4, g5, g6]) rfl ?_
  refine ⟨?_, ((((((((H2.out.2.setCell (by simp) _).setCell (by simp) _).setCell (by simp) _).setCell (by simp) _).setCell (by simp) _).setCell (by simp) _).setCell (by simp) _).alloc (by simp; omega) _)⟩
  rw [HT.out.1, HT.out.2]
  rfl


set_option maxHeartbeats 2000000 in
set_option maxRecDepth 100000 in
theorem apart_any (b : Nat) (p q : Ph) (w : World) (h : TabIs w b) (hp : fit32 p.1) (hq : fit32 q.1) : Calls Try.prog 115 #[.map (some b), .agg #[.int .i32 p.1, .bool p.2.1, .int .i32 p.2.2], .agg #[.int .i32 q.1, .bool q.2.1, .int .i32 q.2.2]] w fun e w' => e = .returned (.int .i64 (apartF p q)) ∧ Below w.heap.size w w' := by
  have h1 := traits_ok' p.1
  have h2 := traits_ok' q.1
  have HV := Lib.hid (show apartF p q = if (traits p.1).vow != (traits q.1).vow then 40
    else (if (traits p.1).vow then 3 * farF (traits p.1).hgt (traits q.1).hgt + 2 * farF (traits p.1).bck (traits q.1).bck + bit ((traits p.1).rnd != (traits q.1).rnd) 1
      else 2 * farF (traits p.1).plc (traits q.1).plc + 3 * farF (traits p.1).mnr (traits q.1).mnr + bit ((traits p.1).vcd != (traits q.1).vcd) 1)
      + bit (p.2.1 != q.2.1) 2 + bit (p.2.2 != q.2.2) 3 from rfl)
  go_enter Try.func115, Try.ntmps115
  go_upto_region 1 with (fail)
  refine wp_abs (fun wx => (Blk wx w.heap.size 43 #[.int .i32 p.1, .bool p.2.1, .int .i32 p.2.2] ∧ Blk wx (w.heap.size + 1) 43 #[.int .i32 q.1, .bool q.2.1, .int .i32 q.2.2]) ∧ TabIs wx b ∧ Below w.heap.size w wx) ⟨⟨(phBlk w p).alloc _, blk_new_eq (by simp)⟩, h.on (((Below.refl _ _).alloc (Nat.le_refl _) _).alloc (by simp) _), ((Below.refl _ _).alloc (Nat.le_refl _) _).alloc (by simp) _⟩ ?_
  rintro w1 ⟨⟨hB1, hB2⟩, ht, hb⟩
  have a0 : w1.cell? ⟨w.heap.size, 0, none⟩ = some (.int .i32 p.1) := hB1.cell 0
  have b0 : w1.cell? ⟨w.heap.size + 1, 0, none⟩ = some (.int .i32 q.1) := hB2.cell 0
  have hK : ∀ W', Below w1.heap.size w1 W' → (W'.cell? ⟨w.heap.size, 0, none⟩ = some (.int .i32 p.1) ∧ W'.cell? ⟨w.heap.size + 1, 0, none⟩ = some (.int .i32 q.1)) ∧
      (Instr.lookup 164 (.map (some b)) (.int .i32 p.1) false).run Try.prog W' = .ok (.agg #[.bool (traits p.1).vow, .int .i64 (traits p.1).hgt, .int .i64 (traits p.1).bck, .bool (traits p.1).rnd, .int .i64 (traits p.1).plc, .int .i64 (traits p.1).mnr, .bool (traits p.1).vcd]) W' ∧
      (Instr.lookup 164 (.map (some b)) (.int .i32 q.1) false).run Try.prog W' = .ok (.agg #[.bool (traits q.1).vow, .int .i64 (traits q.1).hgt, .int .i64 (traits q.1).bck, .bool (traits q.1).rnd, .int .i64 (traits q.1).plc, .int .i64 (traits q.1).mnr, .bool (traits q.1).vcd]) W' :=
    fun W' hb' => ⟨⟨(hB1.below hb' hB1.lt).cell 0, (hB2.below hb' hB2.lt).cell 0⟩, (tab_look (ht.on hb') hp).2, (tab_look (ht.on hb') hq).2⟩
  have HK := Lib.hid hK
  have H := Lib.hid (And.intro (And.intro hB1 hB2) hb)
  clear hK hB1 hB2 ht hb h
  generalize hs : traits p.1 = s at *
  generalize hu : traits q.1 = t at *
  clear hs hu
  have z : w.heap.size + 1 < w1.heap.size := H.out.1.2.lt
  go_cut [7, 8] (fun v7 v8 wx => ∃ x y : Nat, v7 = .pointer (some ⟨x, 0, none⟩) ∧ v8 = .pointer (some ⟨y, 0, none⟩) ∧ Hid ((Blk wx x 56 #[.bool s.vow, .int .i64 s.hgt, .int .i64 s.bck, .bool s.rnd, .int .i64 s.plc, .int .i64 s.mnr, .bool s.vcd] ∧ Blk wx y 56 #[.bool t.vow, .int .i64 t.hgt, .int .i64 t.bck, .bool t.rnd, .int .i64 t.plc, .int .i64 t.mnr, .bool t.vcd]) ∧ (Blk wx w.heap.size 43 #[.int .i32 p.1, .bool p.2.1, .int .i32 p.2.2] ∧ Blk wx (w.heap.size + 1) 43 #[.int .i32 q.1, .bool q.2.1, .int .i32 q.2.2]) ∧ Below w.heap.size w wx))
  case first =>
    go_region_held3 (fun W' => (W'.cell? ⟨w.heap.size, 0, none⟩ = some (.int .i32 p.1) ∧ W'.cell? ⟨w.heap.size + 1, 0, none⟩ = some (.int .i32 q.1)) ∧
        (Instr.lookup 164 (.map (some b)) (.int .i32 p.1) false).run Try.prog W' = .ok (.agg #[.bool s.vow, .int .i64 s.hgt, .int .i64 s.bck, .bool s.rnd, .int .i64 s.plc, .int .i64 s.mnr, .bool s.vcd]) W' ∧
        (Instr.lookup 164 (.map (some b)) (.int .i32 q.1) false).run Try.prog W' = .ok (.agg #[.bool t.vow, .int .i64 t.hgt, .int .i64 t.bck, .bool t.rnd, .int .i64 t.plc, .int .i64 t.mnr, .bool t.vcd]) W')
      ((refine HK.out _ ?_; (repeat (first | (with_reducible exact Below.refl _ _) | (with_reducible refine Below.drewB ?_) | (with_reducible refine Below.allocB ?_ (Nat.le_refl _) _) | (with_reducible refine Below.setCell ?_ ?_ _))); (first | done | (simp; done) | (simp; omega)))) (fail)
    all_goals
      go_wp2_with fail
      go_meet
      exact ⟨_, _, rfl, rfl, Lib.hid ⟨⟨(by (repeat (first | ((with_reducible refine blk_new_eq ?_); (first | (with_reducible rfl) | (simp; done))) | (with_reducible refine Blk.drew ?_) | (with_reducible refine Blk.alloc ?_ _) | exact H.out.1.1 | exact H.out.1.2))), (by (repeat (first | ((with_reducible refine blk_new_eq ?_); (first | (with_reducible rfl) | (simp; done))) | (with_reducible refine Blk.drew ?_) | (with_reducible refine Blk.alloc ?_ _) | exact H.out.1.1 | exact H.out.1.2)))⟩, ⟨(by (repeat (first | ((with_reducible refine blk_new_eq ?_); (first | (with_reducible rfl) | (simp; done))) | (with_reducible refine Blk.drew ?_) | (with_reducible refine Blk.alloc ?_ _) | exact H.out.1.1 | exact H.out.1.2))), (by (repeat (first | ((with_reducible refine blk_new_eq ?_); (first | (with_reducible rfl) | (simp; done))) | (with_reducible refine Blk.drew ?_) | (with_reducible refine Blk.alloc ?_ _) | exact H.out.1.1 | exact H.out.1.2)))⟩, H.out.2.trans ((by (repeat (first | (with_reducible exact Below.refl _ _) | (with_reducible refine Below.drewB ?_) | (with_reducible refine Below.allocB ?_ (Nat.le_refl _) _))) : Below w1.heap.size w1 _).mono H.out.2.size)⟩⟩
  case rest =>
    obtain ⟨x, y, rfl, rfl, HC⟩ := hcut
    have x0 : wc.cell? ⟨x, 0, none⟩ = some (.bool s.vow) := HC.out.1.1.cell 0
    have y0 : wc.cell? ⟨y, 0, none⟩ = some (.bool t.vow) := HC.out.1.2.cell 0
    have x1 : wc.cell? ⟨x, 1, none⟩ = some (.int .i64 s.hgt) := HC.out.1.1.cell 1
    have y1 : wc.cell? ⟨y, 1, none⟩ = some (.int .i64 t.hgt) := HC.out.1.2.cell 1
    have x2 : wc.cell? ⟨x, 2, none⟩ = some (.int .i64 s.bck) := HC.out.1.1.cell 2
    have y2 : wc.cell? ⟨y, 2, none⟩ = some (.int .i64 t.bck) := HC.out.1.2.cell 2
    have x3 : wc.cell? ⟨x, 3, none⟩ = some (.bool s.rnd) := HC.out.1.1.cell 3
    have y3 : wc.cell? ⟨y, 3, none⟩ = some (.bool t.rnd) := HC.out.1.2.cell 3
    have x4 : wc.cell? ⟨x, 4, none⟩ = some (.int .i64 s.plc) := HC.out.1.1.cell 4
    have y4 : wc.cell? ⟨y, 4, none⟩ = some (.int .i64 t.plc) := HC.out.1.2.cell 4
    have x5 : wc.cell? ⟨x, 5, none⟩ = some (.int .i64 s.mnr) := HC.out.1.1.cell 5
    have y5 : wc.cell? ⟨y, 5, none⟩ = some (.int .i64 t.mnr) := HC.out.1.2.cell 5
    have x6 : wc.cell? ⟨x, 6, none⟩ = some (.bool s.vcd) := HC.out.1.1.cell 6
    have y6 : wc.cell? ⟨y, 6, none⟩ = some (.bool t.vcd) := HC.out.1.2.cell 6
    have p1 : wc.cell? ⟨w.heap.size, 1, none⟩ = some (.bool p.2.1) := HC.out.2.1.1.cell 1
    have q1 : wc.cell? ⟨w.heap.size + 1, 1, none⟩ = some (.bool q.2.1) := HC.out.2.1.2.cell 1
    have p2 : wc.cell? ⟨w.heap.size, 2, none⟩ = some (.int .i32 p.2.2) := HC.out.2.1.1.cell 2
    have q2 : wc.cell? ⟨w.heap.size + 1, 2, none⟩ = some (.int .i32 q.2.2) := HC.out.2.1.2.cell 2
    obtain ⟨⟨i1, i2⟩, ⟨i3, i4⟩, ⟨i5, i6⟩, i7, i8⟩ := h1
    obtain ⟨⟨j1, j2⟩, ⟨j3, j4⟩, ⟨j5, j6⟩, j7, j8⟩ := h2
    have g1 : 0 ≤ farF s.hgt t.hgt ∧ farF s.hgt t.hgt ≤ 6 := by unfold farF; omega
    have g2 : 0 ≤ farF s.bck t.bck ∧ farF s.bck t.bck ≤ 2 := by unfold farF; omega
    have g3 : 0 ≤ farF s.plc t.plc ∧ farF s.plc t.plc ≤ 6 := by unfold farF; omega
    have g4 : 0 ≤ farF s.mnr t.mnr ∧ farF s.mnr t.mnr ≤ 5 := by unfold farF; omega
    obtain ⟨g11, g12⟩ := g1
    obtain ⟨g21, g22⟩ := g2
    obtain ⟨g31, g32⟩ := g3
    obtain ⟨g41, g42⟩ := g4
    have e1 : IntKind.i64.wrap (3 * farF s.hgt t.hgt) = 3 * farF s.hgt t.hgt := IntWalk.i64_in _ (by omega)
    have e2 : IntKind.i64.wrap (2 * farF s.bck t.bck) = 2 * farF s.bck t.bck := IntWalk.i64_in _ (by omega)
    have e3 : IntKind.i64.wrap (3 * farF s.hgt t.hgt + 2 * farF s.bck t.bck) = 3 * farF s.hgt t.hgt + 2 * farF s.bck t.bck := IntWalk.i64_in _ (by omega)
    have e4 : IntKind.i64.wrap (2 * farF s.plc t.plc) = 2 * farF s.plc t.plc := IntWalk.i64_in _ (by omega)
    have e5 : IntKind.i64.wrap (3 * farF s.mnr t.mnr) = 3 * farF s.mnr t.mnr := IntWalk.i64_in _ (by omega)
    have e6 : IntKind.i64.wrap (2 * farF s.plc t.plc + 3 * farF s.mnr t.mnr) = 2 * farF s.plc t.plc + 3 * farF s.mnr t.mnr := IntWalk.i64_in _ (by omega)
    rcases bool_or' s.vow with hs | hs <;> rcases bool_or' t.vow with ht | ht
    rotate_left 1
    · go_wp2
      go_ret
      exact ⟨ret_int (by rw [HV.out]; unfold bne; rw [hs, ht]; rfl), HC.out.2.2⟩
    · go_wp2
      go_ret
      exact ⟨ret_int (by rw [HV.out]; unfold bne; rw [hs, ht]; rfl), HC.out.2.2⟩
    · skip
      go_upto_region 9 with (fail)
      go_region_held3 (fun W' => (W'.cell? ⟨x, 1, none⟩ = some (.int .i64 s.hgt) ∧ W'.cell? ⟨y, 1, none⟩ = some (.int .i64 t.hgt)) ∧ W'.cell? ⟨x, 2, none⟩ = some (.int .i64 s.bck) ∧ W'.cell? ⟨y, 2, none⟩ = some (.int .i64 t.bck))
        ((exact ⟨⟨HC.out.1.1.cell 1, HC.out.1.2.cell 1⟩, HC.out.1.1.cell 2, HC.out.1.2.cell 2⟩))
        (first
          | (go_at_call 154
             refine (far_any _ _ _ (by omega) (by omega)).mono ?_
             rintro e w' ⟨rfl, rfl⟩))
      all_goals
        cases hr : (s.rnd == t.rnd) <;> cases hl : (p.2.1 == q.2.1) <;> cases hg : (p.2.2 == q.2.2)
      all_goals
        go_wp2
        go_ret
        exact ⟨ret_int (by rw [HV.out]; unfold bne; rw [hs, ht, hr, hl, hg]; simp [bit]; try omega), (by first | exact HC.out.2.2.drewNB _ | exact Below.drewB HC.out.2.2 | exact HC.out.2.2)⟩
    · skip
      go_upto_region 3 with (fail)
      go_region_held3 (fun W' => (W'.cell? ⟨x, 4, none⟩ = some (.int .i64 s.plc) ∧ W'.cell? ⟨y, 4, none⟩ = some (.int .i64 t.plc)) ∧ W'.cell? ⟨x, 5, none⟩ = some (.int .i64 s.mnr) ∧ W'.cell? ⟨y, 5, none⟩ = some (.int .i64 t.mnr))
        ((exact ⟨⟨HC.out.1.1.cell 4, HC.out.1.2.cell 4⟩, HC.out.1.1.cell 5, HC.out.1.2.cell 5⟩))
        (first
          | (go_at_call 154
             refine (far_any _ _ _ (by omega) (by omega)).mono ?_
             rintro e w' ⟨rfl, rfl⟩))
      all_goals
        cases hr : (s.vcd == t.vcd) <;> cases hl : (p.2.1 == q.2.1) <;> cases hg : (p.2.2 == q.2.2)
      all_goals
        go_wp2
        go_ret
        exact ⟨ret_int (by rw [HV.out]; unfold bne; rw [hs, ht, hr, hl, hg]; simp [bit]; try omega), (by first | exact HC.out.2.2.drewNB _ | exact Below.drewB HC.out.2.2 | exact HC.out.2.2)⟩
end Go.Proofs.Ytogofchpocoebaa

namespace Go.Proofs.Ytogofchpocoebaa
open Go.RowKit Go.Maps

def takeF (v n : Int) : Int := if v < 0 ∨ n < v then n else v
set_option maxHeartbeats 1000000 in
theorem take_any (bb : Nat) (v n : Int) (w : World) (h : Blk w bb 3 #[.int .i64 v]) : Calls Try.prog 169 #[.int .i64 n, .pointer (some ⟨bb, 0, none⟩)] w fun e w' => e = .returned (.tuple #[]) ∧ Blk w' bb 3 #[.int .i64 (takeF v n)] ∧ Only (fun b => b = bb) w w' := by
  have c0 : w.cell? ⟨bb, 0, none⟩ = some (.int .i64 v) := h.cell 0
  have f0 : w.frozen? ⟨bb, 0, none⟩ = false := h.frozen 0
  have H := Lib.hid h
  clear h
  by_cases h1 : v < 0
  · have e1 : decide (v < 0) = true := by simpa using h1
    have ht : takeF v n = n := if_pos (.inl h1)
    have HT := Lib.hid ht
    clear ht
    go_enter Try.func169, Try.ntmps169
    go_wp2
    go_end0
    exact ⟨rfl, by rw [HT.out]; simpa using H.out.set_ 0 (.int .i64 n), Only.setCell (S := fun b => b = bb) (p := ⟨bb, 0, none⟩) (Only.refl _ _) (.inl rfl) _⟩
  · have e1 : decide (v < 0) = false := by simpa using h1
    by_cases h2 : n < v
    · have e2 : decide (n < v) = true := by simpa using h2
      have ht : takeF v n = n := if_pos (.inr h2)
      have HT := Lib.hid ht
      clear ht
      go_enter Try.func169, Try.ntmps169
      go_wp2
      go_end0
      exact ⟨rfl, by rw [HT.out]; simpa using H.out.set_ 0 (.int .i64 n), Only.setCell (S := fun b => b = bb) (p := ⟨bb, 0, none⟩) (Only.refl _ _) (.inl rfl) _⟩
    · have e2 : decide (n < v) = false := by simpa using h2
      have ht : takeF v n = v := if_neg (by omega)
      have HT := Lib.hid ht
      clear ht
      go_enter Try.func169, Try.ntmps169
      go_wp2
      go_end0
      exact ⟨rfl, by rw [HT.out]; exact H.out, Only.refl _ _⟩

/-- what is reckoned -/
structure ReIn (tb xb g : Nat) (A B : Option Addr) (la ca lb cb : Nat) (cs : Array Value) (W : World) : Prop where
  bx : Blk W xb 201 #[.map (some tb), .slice A la ca, .slice B lb cb, .slice (some ⟨g, 0, none⟩) ((la + 1) * (lb + 1)) ((la + 1) * (lb + 1))]
  bg : Blk W g 3 cs
  sz : cs.size = (la + 1) * (lb + 1)
  tab : TabIs W tb
theorem ReIn.on {tb xb g la ca lb cb : Nat} {A B : Option Addr} {cs : Array Value} {W W' : World} (h : ReIn tb xb g A B la ca lb cb cs W) (hb : Below W.heap.size W W') : ReIn tb xb g A B la ca lb cb cs W' :=
  ⟨h.bx.below hb h.bx.lt, h.bg.below hb h.bg.lt, h.sz, h.tab.on hb⟩

set_option maxHeartbeats 1000000 in
set_option maxRecDepth 100000 in
theorem at_any (tb xb g : Nat) (A B : Option Addr) (la ca lb cb : Nat) (cs : Array Value) (i k : Nat) (w : World) (h : ReIn tb xb g A B la ca lb cb cs w) (h1 : la ≤ 128) (h2 : lb ≤ 128) (hi : i ≤ la) (hk : k ≤ lb) :
    Calls Try.prog 130 #[.pointer (some ⟨xb, 0, none⟩), .int .i64 i, .int .i64 k] w fun e w' => e = .returned (.pointer (some ⟨g, i * (lb + 1) + k, none⟩)) ∧ Below w.heap.size w w' := by
  have c2 : w.cell? ⟨xb, 2, none⟩ = some (.slice B lb cb) := h.bx.cell 2
  have c3 : w.cell? ⟨xb, 3, none⟩ = some (.slice (some ⟨g, 0, none⟩) ((la + 1) * (lb + 1)) ((la + 1) * (lb + 1))) := h.bx.cell 3
  have hm : i * (lb + 1) + k < (la + 1) * (lb + 1) := by
    have := Nat.mul_le_mul_right (lb + 1) hi
    rw [Nat.add_mul]; omega
  have hN : (la + 1) * (lb + 1) ≤ 129 * 129 := Nat.mul_le_mul (by omega) (by omega)
  have e1 : (i : Int) * ((lb : Int) + 1) = ((i * (lb + 1) : Nat) : Int) := by simp [Int.natCast_mul]
  have H := Lib.hid h
  clear h
  generalize i * (lb + 1) = ik at *
  generalize (la + 1) * (lb + 1) = N at *
  have w1 : IntKind.i64.wrap (ik : Int) = ik := IntWalk.i64_in _ (by omega)
  go_enter Try.func130, Try.ntmps130
  go_upto_region 1 with (fail)
  go_quiet (fail)
  go_wp2
  go_ret
  exact ⟨rfl, Below.drewNB (Below.refl _ _) _⟩

/-- the cost from a pair of places on -/
def cs (a b : List Ph) (i k : Nat) : Int := costF (a.drop i) (b.drop k)
theorem cs_end {a b : List Ph} {i k : Nat} (hi : a.length ≤ i) (hk : b.length ≤ k) : cs a b i k = 0 := by
  unfold cs; rw [List.drop_of_length_le hi, List.drop_of_length_le hk]; rfl
theorem cs_a {a b : List Ph} {i k : Nat} (hi : i < a.length) (hk : b.length ≤ k) : cs a b i k = loneF a[i] + cs a b (i + 1) k := by
  unfold cs; rw [List.drop_of_length_le hk, List.drop_eq_getElem_cons hi, cost_cn]
theorem cs_b {a b : List Ph} {i k : Nat} (hi : a.length ≤ i) (hk : k < b.length) : cs a b i k = loneF b[k] + cs a b i (k + 1) := by
  unfold cs; rw [List.drop_of_length_le hi, List.drop_eq_getElem_cons hk, cost_nc]
theorem cs_ab {a b : List Ph} {i k : Nat} (hi : i < a.length) (hk : k < b.length) : cs a b i k = min (apartF a[i] b[k] + cs a b (i + 1) (k + 1)) (min (loneF a[i] + cs a b (i + 1) k) (loneF b[k] + cs a b i (k + 1))) := by
  unfold cs; rw [List.drop_eq_getElem_cons hi, List.drop_eq_getElem_cons hk, cost_cc]
theorem cs_bound (a b : List Ph) (i k : Nat) (ha : a.length ≤ 128) (hb : b.length ≤ 128) : 0 ≤ cs a b i k ∧ cs a b i k ≤ 5120 := by
  have h1 := cost_nn' (a.drop i) (b.drop k)
  have h2 := cost_hi (a.drop i) (b.drop k)
  rw [List.length_drop, List.length_drop] at h2
  unfold cs
  omega
theorem lone_hi (p : Ph) : loneF p ≤ 19 := by
  have b : ∀ (x : Bool) (n : Int), 0 ≤ n → bit x n ≤ n := fun x n h => by unfold bit; split <;> omega
  have b3 := b p.2.1 2 (by omega)
  have b4 := b (p.2.2 != 0) 3 (by omega)
  unfold loneF; split <;> omega

/-- memory while least runs: what is known ahead, its best -/
structure LeSt (w0 : World) (tb xb g : Nat) (A B : Option Addr) (la ca lb cb : Nat) (cells : Array Value) (a b : List Ph) (v : Int) (W : World) : Prop where
  re : ReIn tb xb g A B la ca lb cb cells W
  ra : Rd W 0 w0.heap.size 3 A la (phs a)
  rb : Rd W 0 w0.heap.size 3 B lb (phs b)
  bb : Blk W w0.heap.size 3 #[.int .i64 v]
  below : Below w0.heap.size w0 W
  lx : xb < w0.heap.size
  lg : g < w0.heap.size
  lt : tb < w0.heap.size
theorem LeSt.stay {w0 : World} {tb xb g la ca lb cb : Nat} {A B : Option Addr} {cells : Array Value} {a b : List Ph} {v v' : Int} {W W' : World} {S : Nat → Prop} (h : LeSt w0 tb xb g A B la ca lb cb cells a b v W) (ho : Only S W W') (hS : ∀ k, S k → w0.heap.size ≤ k) (hb : Blk W' w0.heap.size 3 #[.int .i64 v']) : LeSt w0 tb xb g A B la ca lb cb cells a b v' W' := by
  have hB : Below w0.heap.size W W' := ho.below h.below.size (fun k hk hs => by have := hS _ hs; omega)
  exact ⟨⟨h.re.bx.below hB h.lx, h.re.bg.below hB h.lg, h.re.sz, h.re.tab.below hB h.lt⟩, h.ra.below hB (Nat.le_refl _), h.rb.below hB (Nat.le_refl _), hb, h.below.trans hB, h.lx, h.lg, h.lt⟩
theorem LeSt.on {w0 : World} {tb xb g la ca lb cb : Nat} {A B : Option Addr} {cells : Array Value} {a b : List Ph} {v : Int} {W W' : World} (h : LeSt w0 tb xb g A B la ca lb cb cells a b v W) (hb : Below W.heap.size W W') : LeSt w0 tb xb g A B la ca lb cb cells a b v W' :=
  h.stay (S := fun k => W.heap.size ≤ k) ⟨hb.os, hb.tape, hb.output, hb.size, fun k hk hs => hb.block k (by omega)⟩ (fun k hk => Nat.le_trans h.below.size hk) (h.bb.below hb h.bb.lt)
end Go.Proofs.Ytogofchpocoebaa

namespace Go.Proofs.Ytogofchpocoebaa
open Go.RowKit Go.Maps

theorem at_at (tb xb g : Nat) (A B : Option Addr) (la ca lb cb : Nat) (cs : Array Value) (i k : Nat) (x y : Int) (hx : x = i) (hy : y = k) (w : World) (h : ReIn tb xb g A B la ca lb cb cs w) (h1 : la ≤ 128) (h2 : lb ≤ 128) (hi : i ≤ la) (hk : k ≤ lb) :
    Calls Try.prog 130 #[.pointer (some ⟨xb, 0, none⟩), .int .i64 x, .int .i64 y] w fun e w' => e = .returned (.pointer (some ⟨g, i * (lb + 1) + k, none⟩)) ∧ Below w.heap.size w w' := by
  subst hx hy
  exact at_any tb xb g A B la ca lb cb cs i k w h h1 h2 hi hk
theorem Below.fullB {w0 W W' : World} (h : Below W.heap.size W W') (hb : Below w0.heap.size w0 W) : Below w0.heap.size W W' := h.mono hb.size
theorem Below.full {w0 W W' : World} (h : Below W.heap.size W W') (hb : Below w0.heap.size w0 W) : Below w0.heap.size W W' := h.mono hb.size
theorem LeSt.reB {w0 : World} {tb xb g la ca lb cb : Nat} {A B : Option Addr} {cells : Array Value} {a b : List Ph} {v : Int} {W W' : World} (h : LeSt w0 tb xb g A B la ca lb cb cells a b v W) (hb : Below w0.heap.size W W') : ReIn tb xb g A B la ca lb cb cells W' :=
  ⟨h.re.bx.below hb h.lx, h.re.bg.below hb h.lg, h.re.sz, h.re.tab.below hb h.lt⟩

set_option maxHeartbeats 4000000 in
set_option maxRecDepth 100000 in
theorem least_any (tb xb g : Nat) (A B : Option Addr) (la ca lb cb : Nat) (cells : Array Value) (a b : List Ph) (i k : Nat) (w : World) (h : ReIn tb xb g A B la ca lb cb cells w) (ra : Rd w 0 w.heap.size 3 A la (phs a)) (rb : Rd w 0 w.heap.size 3 B lb (phs b))
    (h1 : la ≤ 128) (h2 : lb ≤ 128) (hi : i ≤ la) (hk : k ≤ lb) (fa : ∀ p ∈ a, fit32 p.1) (fb : ∀ p ∈ b, fit32 p.1)
    (h11 : i < la → k < lb → cells[(i + 1) * (lb + 1) + (k + 1)]? = some (.int .i64 (cs a b (i + 1) (k + 1)))) (h10 : i < la → cells[(i + 1) * (lb + 1) + k]? = some (.int .i64 (cs a b (i + 1) k))) (h01 : k < lb → cells[i * (lb + 1) + (k + 1)]? = some (.int .i64 (cs a b i (k + 1)))) :
    Calls Try.prog 162 #[.pointer (some ⟨xb, 0, none⟩), .int .i64 i, .int .i64 k] w fun e w' => e = .returned (.int .i64 (cs a b i k)) ∧ Below w.heap.size w w' := by
  have ea := ra.len_ph
  have eb := rb.len_ph
  have H := Lib.hid (And.intro h (And.intro ra rb))
  have b11 := cs_bound a b (i + 1) (k + 1) (by omega) (by omega)
  have b10 := cs_bound a b (i + 1) k (by omega) (by omega)
  have b01 := cs_bound a b i (k + 1) (by omega) (by omega)
  have wi : IntKind.i64.wrap ((i : Int) + 1) = (i : Int) + 1 := IntWalk.i64_in _ (by omega)
  have wk : IntKind.i64.wrap ((k : Int) + 1) = (k : Int) + 1 := IntWalk.i64_in _ (by omega)
  have lx := h.bx.lt
  have lg := h.bg.lt
  have lt := h.tab.lt
  clear h
  have hcase : (i = la ∧ k = lb) ∨ (i < la ∧ k = lb) ∨ (i = la ∧ k < lb) ∨ (i < la ∧ k < lb) := by omega
  rcases hcase with ⟨hi', hk'⟩ | ⟨hi', hk'⟩ | ⟨hi', hk'⟩ | ⟨hi', hk'⟩
  · have hce := cs_end (a := a) (b := b) (i := i) (k := k) (by omega) (by omega)
    have HCE := Lib.hid hce
    have q1 : ((i : Int) == (la : Int)) = true := by rw [hi']; simp
    have q2 : ((k : Int) == (lb : Int)) = true := by rw [hk']; simp
    clear h11 h10 h01 b11 b10 b01 hce ra rb
    go_enter Try.func162, Try.ntmps162
    go_upto_region 2 with (fail)
    refine wp_abs (LeSt w tb xb g A B la ca lb cb cells a b (-1)) ⟨H.out.1.on ((Below.refl _ _).alloc (Nat.le_refl _) _), H.out.2.1.below ((Below.refl _ _).alloc (Nat.le_refl _) _) (Nat.le_refl _), H.out.2.2.below ((Below.refl _ _).alloc (Nat.le_refl _) _) (Nat.le_refl _), Blk.new _ _ _, (Below.refl _ _).alloc (Nat.le_refl _) _, lx, lg, lt⟩ ?_
    intro wx hx
    have x1wx : wx.cell? ⟨xb, 1, none⟩ = some (.slice A la ca) := hx.re.bx.cell 1
    have x2wx : wx.cell? ⟨xb, 2, none⟩ = some (.slice B lb cb) := hx.re.bx.cell 2
    have HX := Lib.hid hx
    clear hx
    go_wp2
    go_ret
    exact ⟨ret_int HCE.out.symm, HX.out.below⟩
  · skip
    obtain ⟨ba, oa, hla, rfl, _, hba, a0, a1, a2⟩ := ra.ph hi'
    have fp := fa _ (List.getElem_mem hla)
    have hce := cs_a (a := a) (b := b) (i := i) (k := k) hla (by omega)
    have lp := lone_pos a[i]
    have lp2 := lone_hi a[i]
    have H10 := Lib.hid (h10 hi')
    clear h11 h10 h01
    generalize cs a b (i + 1) (k + 1) = c11 at *
    generalize cs a b (i + 1) k = c10 at *
    generalize cs a b i (k + 1) = c01 at *
    generalize a[i] = p at *
    have FP := Lib.hid fp
    have PA := Lib.hid (And.intro hba (And.intro a0 (And.intro a1 a2)))
    clear fp a0 a1 a2
    generalize hcv : cs a b i k = cv at *
    have HCE := Lib.hid (And.intro hcv hce)
    clear hcv hce ra rb
    obtain ⟨b111, b112⟩ := b11
    obtain ⟨b101, b102⟩ := b10
    obtain ⟨b011, b012⟩ := b01
    have v2 : IntKind.i64.wrap (loneF p + c10) = loneF p + c10 := IntWalk.i64_in _ (by omega)
    have q1 : ((i : Int) == (la : Int)) = false := by simp; omega
    have q3 : decide ((i : Int) < (la : Int)) = true := by simp; omega
    have q2 : ((k : Int) == (lb : Int)) = true := by rw [hk']; simp
    have q4 : decide ((k : Int) < (lb : Int)) = false := by simp; omega
    have q5 : ¬ (k < lb) := by omega
    clear hk'
    go_enter Try.func162, Try.ntmps162
    go_upto_region 2 with (fail)
    refine wp_abs (LeSt w tb xb g (some ⟨ba, oa, none⟩) B la ca lb cb cells a b (-1)) ⟨H.out.1.on ((Below.refl _ _).alloc (Nat.le_refl _) _), H.out.2.1.below ((Below.refl _ _).alloc (Nat.le_refl _) _) (Nat.le_refl _), H.out.2.2.below ((Below.refl _ _).alloc (Nat.le_refl _) _) (Nat.le_refl _), Blk.new _ _ _, (Below.refl _ _).alloc (Nat.le_refl _) _, lx, lg, lt⟩ ?_
    intro wx hx
    have x1wx : wx.cell? ⟨xb, 1, none⟩ = some (.slice (some ⟨ba, oa, none⟩) la ca) := hx.re.bx.cell 1
    have x2wx : wx.cell? ⟨xb, 2, none⟩ = some (.slice B lb cb) := hx.re.bx.cell 2
    have HXwx := Lib.hid hx
    clear hx
    go_upto_region 8 with (fail)
    have hK : ∀ W', Below w.heap.size wx W' → W'.cell? ⟨xb, 0, none⟩ = some (.map (some tb)) ∧ W'.cell? ⟨xb, 1, none⟩ = some (.slice (some ⟨ba, oa, none⟩) la ca) ∧ W'.cell? ⟨ba, oa + i * 3, none⟩ = some (.int .i32 p.1) ∧ W'.cell? ⟨ba, oa + i * 3 + 1, none⟩ = some (.bool p.2.1) ∧ W'.cell? ⟨ba, oa + i * 3 + 2, none⟩ = some (.int .i32 p.2.2) ∧ W'.cell? ⟨g, (i + 1) * (lb + 1) + k, none⟩ = some (.int .i64 c10) := fun W' hb' => by
      have h1 := HXwx.out.reB hb'
      exact ⟨h1.bx.cell 0, h1.bx.cell 1, (hb'.cell (p := ⟨ba, oa + i * 3, none⟩) PA.out.1).trans ((HXwx.out.below.cell (p := ⟨ba, oa + i * 3, none⟩) PA.out.1).trans PA.out.2.1), (hb'.cell (p := ⟨ba, oa + i * 3 + 1, none⟩) PA.out.1).trans ((HXwx.out.below.cell (p := ⟨ba, oa + i * 3 + 1, none⟩) PA.out.1).trans PA.out.2.2.1), (hb'.cell (p := ⟨ba, oa + i * 3 + 2, none⟩) PA.out.1).trans ((HXwx.out.below.cell (p := ⟨ba, oa + i * 3 + 2, none⟩) PA.out.1).trans PA.out.2.2.2), (h1.bg.cell _).trans H10.out⟩
    have HKwx := Lib.hid hK
    clear hK
    go_region_held3 (fun W' => W'.cell? ⟨xb, 0, none⟩ = some (.map (some tb)) ∧ W'.cell? ⟨xb, 1, none⟩ = some (.slice (some ⟨ba, oa, none⟩) la ca) ∧ W'.cell? ⟨ba, oa + i * 3, none⟩ = some (.int .i32 p.1) ∧ W'.cell? ⟨ba, oa + i * 3 + 1, none⟩ = some (.bool p.2.1) ∧ W'.cell? ⟨ba, oa + i * 3 + 2, none⟩ = some (.int .i32 p.2.2) ∧ W'.cell? ⟨g, (i + 1) * (lb + 1) + k, none⟩ = some (.int .i64 c10))
      ((refine HKwx.out _ ?_; first | exact (Below.fullB HT.out HXwx.out.below) | exact (Below.fullB HA.out HXwx.out.below) | exact HEwv1.out.2 | exact ⟨rfl, rfl, rfl, Nat.le_refl _, fun _ _ => rfl⟩))
      (first
        | (go_at_call 116
           refine (lone_any tb p _ (by first | exact (HXwx.out.reB (Below.full (by exact HT.out) HXwx.out.below)).tab | exact (HXwx.out.reB (Below.full (by exact ⟨rfl, rfl, rfl, Nat.le_refl _, fun _ _ => rfl⟩) HXwx.out.below)).tab) FP.out).mono ?_
           rintro e wa ⟨rfl, hb⟩
           have HA : Hid (Below wx.heap.size wx wa) := Lib.hid (by first | exact HT.out.trans (hb.mono HT.out.size) | exact ⟨hb.os, hb.tape, hb.output, hb.size, hb.block⟩)
           clear hb)
        | (go_at_call 130
           refine (at_at tb xb g _ _ la ca lb cb cells (i + 1) k _ _ (by first | omega | (rw [wi]; omega)) (by first | omega | (rw [wk]; omega)) _ (by first | exact HXwx.out.reB (Below.full (by exact HA.out) HXwx.out.below) | exact HXwx.out.reB (Below.full (by exact ⟨rfl, rfl, rfl, Nat.le_refl _, fun _ _ => rfl⟩) HXwx.out.below)) (by omega) (by omega) (by omega) (by omega)).mono ?_
           rintro e wt ⟨rfl, hb⟩
           have HT : Hid (Below wx.heap.size wx wt) := Lib.hid (by first | exact HA.out.trans (hb.mono HA.out.size) | exact ⟨hb.os, hb.tape, hb.output, hb.size, hb.block⟩)
           clear hb)
        | (go_at_call 169
           refine (take_any w.heap.size (-1) _ _ (by first | exact HXwx.out.bb.below HT.out HXwx.out.bb.lt | exact HXwx.out.bb.below HA.out HXwx.out.bb.lt)).mono ?_
           rintro e wv1 ⟨rfl, hbb, ho⟩
           (try rw [v1] at hbb)
           (try rw [v2] at hbb)
           (try rw [v3] at hbb)
           have HEwv1 : Hid (LeSt w tb xb g (some ⟨ba, oa, none⟩) B la ca lb cb cells a b (takeF (-1) (loneF p + c10)) wv1 ∧ Below w.heap.size wx wv1) := Lib.hid (by
             first
               | exact ⟨(HXwx.out.on HT.out).stay ho (fun _ e => Nat.le_of_eq (Eq.symm e)) hbb, (Below.fullB HT.out HXwx.out.below).trans (ho.below (Nat.le_trans HXwx.out.below.size HT.out.size) (fun _ hk e => Nat.ne_of_lt hk e))⟩
               | exact ⟨(HXwx.out.on HA.out).stay ho (fun _ e => Nat.le_of_eq (Eq.symm e)) hbb, (Below.fullB HA.out HXwx.out.below).trans (ho.below (Nat.le_trans HXwx.out.below.size HA.out.size) (fun _ hk e => Nat.ne_of_lt hk e))⟩)
           clear hbb ho))
    all_goals
      have HXwv1 := Lib.hid HEwv1.out.1
      have y1wv1 : wv1.cell? ⟨xb, 1, none⟩ = some (.slice (some ⟨ba, oa, none⟩) la ca) := HXwv1.out.re.bx.cell 1
      have y2wv1 : wv1.cell? ⟨xb, 2, none⟩ = some (.slice B lb cb) := HXwv1.out.re.bx.cell 2
    all_goals
      have bv : wv1.cell? ⟨w.heap.size, 0, none⟩ = some (.int .i64 (takeF (-1) (loneF p + c10))) := HXwv1.out.bb.cell 0
      have HZ := Lib.hid HXwv1.out.below
      go_wp2
      go_ret
      exact ⟨ret_int (by (try rw [HCE.out.1]); rw [HCE.out.2]; unfold takeF; (repeat split) <;> omega), HZ.out⟩
  · skip
    obtain ⟨bc, oc, hlb, rfl, _, hbc, d0, d1, d2⟩ := rb.ph hk'
    have fq := fb _ (List.getElem_mem hlb)
    have hce := cs_b (a := a) (b := b) (i := i) (k := k) (by omega) hlb
    have lq := lone_pos b[k]
    have lq2 := lone_hi b[k]
    have H01 := Lib.hid (h01 hk')
    clear h11 h10 h01
    generalize cs a b (i + 1) (k + 1) = c11 at *
    generalize cs a b (i + 1) k = c10 at *
    generalize cs a b i (k + 1) = c01 at *
    generalize b[k] = q at *
    have FQ := Lib.hid fq
    have PC := Lib.hid (And.intro hbc (And.intro d0 (And.intro d1 d2)))
    clear fq d0 d1 d2
    generalize hcv : cs a b i k = cv at *
    have HCE := Lib.hid (And.intro hcv hce)
    clear hcv hce ra rb
    obtain ⟨b111, b112⟩ := b11
    obtain ⟨b101, b102⟩ := b10
    obtain ⟨b011, b012⟩ := b01
    have v3 : IntKind.i64.wrap (loneF q + c01) = loneF q + c01 := IntWalk.i64_in _ (by omega)
    have q1 : ((i : Int) == (la : Int)) = true := by rw [hi']; simp
    have q3 : decide ((i : Int) < (la : Int)) = false := by simp; omega
    have q2 : ((k : Int) == (lb : Int)) = false := by simp; omega
    have q4 : decide ((k : Int) < (lb : Int)) = true := by simp; omega
    have q5 : ¬ (i < la) := by omega
    clear hi'
    go_enter Try.func162, Try.ntmps162
    go_upto_region 2 with (fail)
    refine wp_abs (LeSt w tb xb g A (some ⟨bc, oc, none⟩) la ca lb cb cells a b (-1)) ⟨H.out.1.on ((Below.refl _ _).alloc (Nat.le_refl _) _), H.out.2.1.below ((Below.refl _ _).alloc (Nat.le_refl _) _) (Nat.le_refl _), H.out.2.2.below ((Below.refl _ _).alloc (Nat.le_refl _) _) (Nat.le_refl _), Blk.new _ _ _, (Below.refl _ _).alloc (Nat.le_refl _) _, lx, lg, lt⟩ ?_
    intro wx hx
    have x1wx : wx.cell? ⟨xb, 1, none⟩ = some (.slice A la ca) := hx.re.bx.cell 1
    have x2wx : wx.cell? ⟨xb, 2, none⟩ = some (.slice (some ⟨bc, oc, none⟩) lb cb) := hx.re.bx.cell 2
    have HXwx := Lib.hid hx
    clear hx
    go_upto_region 10 with (fail)
    have hK : ∀ W', Below w.heap.size wx W' → W'.cell? ⟨xb, 0, none⟩ = some (.map (some tb)) ∧ W'.cell? ⟨xb, 2, none⟩ = some (.slice (some ⟨bc, oc, none⟩) lb cb) ∧ W'.cell? ⟨bc, oc + k * 3, none⟩ = some (.int .i32 q.1) ∧ W'.cell? ⟨bc, oc + k * 3 + 1, none⟩ = some (.bool q.2.1) ∧ W'.cell? ⟨bc, oc + k * 3 + 2, none⟩ = some (.int .i32 q.2.2) ∧ W'.cell? ⟨g, i * (lb + 1) + (k + 1), none⟩ = some (.int .i64 c01) := fun W' hb' => by
      have h1 := HXwx.out.reB hb'
      exact ⟨h1.bx.cell 0, h1.bx.cell 2, (hb'.cell (p := ⟨bc, oc + k * 3, none⟩) PC.out.1).trans ((HXwx.out.below.cell (p := ⟨bc, oc + k * 3, none⟩) PC.out.1).trans PC.out.2.1), (hb'.cell (p := ⟨bc, oc + k * 3 + 1, none⟩) PC.out.1).trans ((HXwx.out.below.cell (p := ⟨bc, oc + k * 3 + 1, none⟩) PC.out.1).trans PC.out.2.2.1), (hb'.cell (p := ⟨bc, oc + k * 3 + 2, none⟩) PC.out.1).trans ((HXwx.out.below.cell (p := ⟨bc, oc + k * 3 + 2, none⟩) PC.out.1).trans PC.out.2.2.2), (h1.bg.cell _).trans H01.out⟩
    have HKwx := Lib.hid hK
    clear hK
    go_region_held3 (fun W' => W'.cell? ⟨xb, 0, none⟩ = some (.map (some tb)) ∧ W'.cell? ⟨xb, 2, none⟩ = some (.slice (some ⟨bc, oc, none⟩) lb cb) ∧ W'.cell? ⟨bc, oc + k * 3, none⟩ = some (.int .i32 q.1) ∧ W'.cell? ⟨bc, oc + k * 3 + 1, none⟩ = some (.bool q.2.1) ∧ W'.cell? ⟨bc, oc + k * 3 + 2, none⟩ = some (.int .i32 q.2.2) ∧ W'.cell? ⟨g, i * (lb + 1) + (k + 1), none⟩ = some (.int .i64 c01))
      ((refine HKwx.out _ ?_; first | exact (Below.fullB HT.out HXwx.out.below) | exact (Below.fullB HA.out HXwx.out.below) | exact HEwv1.out.2 | exact ⟨rfl, rfl, rfl, Nat.le_refl _, fun _ _ => rfl⟩))
      (first
        | (go_at_call 116
           refine (lone_any tb q _ (by first | exact (HXwx.out.reB (Below.full (by exact HT.out) HXwx.out.below)).tab | exact (HXwx.out.reB (Below.full (by exact ⟨rfl, rfl, rfl, Nat.le_refl _, fun _ _ => rfl⟩) HXwx.out.below)).tab) FQ.out).mono ?_
           rintro e wa ⟨rfl, hb⟩
           have HA : Hid (Below wx.heap.size wx wa) := Lib.hid (by first | exact HT.out.trans (hb.mono HT.out.size) | exact ⟨hb.os, hb.tape, hb.output, hb.size, hb.block⟩)
           clear hb)
        | (go_at_call 130
           refine (at_at tb xb g _ _ la ca lb cb cells i (k + 1) _ _ (by first | omega | (rw [wi]; omega)) (by first | omega | (rw [wk]; omega)) _ (by first | exact HXwx.out.reB (Below.full (by exact HA.out) HXwx.out.below) | exact HXwx.out.reB (Below.full (by exact ⟨rfl, rfl, rfl, Nat.le_refl _, fun _ _ => rfl⟩) HXwx.out.below)) (by omega) (by omega) (by omega) (by omega)).mono ?_
           rintro e wt ⟨rfl, hb⟩
           have HT : Hid (Below wx.heap.size wx wt) := Lib.hid (by first | exact HA.out.trans (hb.mono HA.out.size) | exact ⟨hb.os, hb.tape, hb.output, hb.size, hb.block⟩)
           clear hb)
        | (go_at_call 169
           refine (take_any w.heap.size (-1) _ _ (by first | exact HXwx.out.bb.below HT.out HXwx.out.bb.lt | exact HXwx.out.bb.below HA.out HXwx.out.bb.lt)).mono ?_
           rintro e wv1 ⟨rfl, hbb, ho⟩
           (try rw [v1] at hbb)
           (try rw [v2] at hbb)
           (try rw [v3] at hbb)
           have HEwv1 : Hid (LeSt w tb xb g A (some ⟨bc, oc, none⟩) la ca lb cb cells a b (takeF (-1) (loneF q + c01)) wv1 ∧ Below w.heap.size wx wv1) := Lib.hid (by
             first
               | exact ⟨(HXwx.out.on HT.out).stay ho (fun _ e => Nat.le_of_eq (Eq.symm e)) hbb, (Below.fullB HT.out HXwx.out.below).trans (ho.below (Nat.le_trans HXwx.out.below.size HT.out.size) (fun _ hk e => Nat.ne_of_lt hk e))⟩
               | exact ⟨(HXwx.out.on HA.out).stay ho (fun _ e => Nat.le_of_eq (Eq.symm e)) hbb, (Below.fullB HA.out HXwx.out.below).trans (ho.below (Nat.le_trans HXwx.out.below.size HA.out.size) (fun _ hk e => Nat.ne_of_lt hk e))⟩)
           clear hbb ho))
    all_goals
      have HXwv1 := Lib.hid HEwv1.out.1
      have y1wv1 : wv1.cell? ⟨xb, 1, none⟩ = some (.slice A la ca) := HXwv1.out.re.bx.cell 1
      have y2wv1 : wv1.cell? ⟨xb, 2, none⟩ = some (.slice (some ⟨bc, oc, none⟩) lb cb) := HXwv1.out.re.bx.cell 2
    all_goals
      have bv : wv1.cell? ⟨w.heap.size, 0, none⟩ = some (.int .i64 (takeF (-1) (loneF q + c01))) := HXwv1.out.bb.cell 0
      have HZ := Lib.hid HXwv1.out.below
      go_wp2
      go_ret
      exact ⟨ret_int (by (try rw [HCE.out.1]); rw [HCE.out.2]; unfold takeF; (repeat split) <;> omega), HZ.out⟩
  · skip
    obtain ⟨ba, oa, hla, rfl, _, hba, a0, a1, a2⟩ := ra.ph hi'
    have fp := fa _ (List.getElem_mem hla)
    obtain ⟨bc, oc, hlb, rfl, _, hbc, d0, d1, d2⟩ := rb.ph hk'
    have fq := fb _ (List.getElem_mem hlb)
    have hce := cs_ab (a := a) (b := b) (i := i) (k := k) hla hlb
    have lp := lone_pos a[i]
    have lp2 := lone_hi a[i]
    have H10 := Lib.hid (h10 hi')
    have lq := lone_pos b[k]
    have lq2 := lone_hi b[k]
    have H01 := Lib.hid (h01 hk')
    have ap := apart_nn a[i] b[k]
    have ap2 := apart_hi a[i] b[k]
    have H11 := Lib.hid (h11 hi' hk')
    clear h11 h10 h01
    generalize cs a b (i + 1) (k + 1) = c11 at *
    generalize cs a b (i + 1) k = c10 at *
    generalize cs a b i (k + 1) = c01 at *
    generalize a[i] = p at *
    have FP := Lib.hid fp
    have PA := Lib.hid (And.intro hba (And.intro a0 (And.intro a1 a2)))
    clear fp a0 a1 a2
    generalize b[k] = q at *
    have FQ := Lib.hid fq
    have PC := Lib.hid (And.intro hbc (And.intro d0 (And.intro d1 d2)))
    clear fq d0 d1 d2
    generalize hcv : cs a b i k = cv at *
    have HCE := Lib.hid (And.intro hcv hce)
    clear hcv hce ra rb
    obtain ⟨b111, b112⟩ := b11
    obtain ⟨b101, b102⟩ := b10
    obtain ⟨b011, b012⟩ := b01
    have v1 : IntKind.i64.wrap (apartF p q + c11) = apartF p q + c11 := IntWalk.i64_in _ (by omega)
    have v2 : IntKind.i64.wrap (loneF p + c10) = loneF p + c10 := IntWalk.i64_in _ (by omega)
    have v3 : IntKind.i64.wrap (loneF q + c01) = loneF q + c01 := IntWalk.i64_in _ (by omega)
    have q1 : ((i : Int) == (la : Int)) = false := by simp; omega
    have q3 : decide ((i : Int) < (la : Int)) = true := by simp; omega
    have q2 : ((k : Int) == (lb : Int)) = false := by simp; omega
    have q4 : decide ((k : Int) < (lb : Int)) = true := by simp; omega
    go_enter Try.func162, Try.ntmps162
    go_upto_region 2 with (fail)
    refine wp_abs (LeSt w tb xb g (some ⟨ba, oa, none⟩) (some ⟨bc, oc, none⟩) la ca lb cb cells a b (-1)) ⟨H.out.1.on ((Below.refl _ _).alloc (Nat.le_refl _) _), H.out.2.1.below ((Below.refl _ _).alloc (Nat.le_refl _) _) (Nat.le_refl _), H.out.2.2.below ((Below.refl _ _).alloc (Nat.le_refl _) _) (Nat.le_refl _), Blk.new _ _ _, (Below.refl _ _).alloc (Nat.le_refl _) _, lx, lg, lt⟩ ?_
    intro wx hx
    have x1wx : wx.cell? ⟨xb, 1, none⟩ = some (.slice (some ⟨ba, oa, none⟩) la ca) := hx.re.bx.cell 1
    have x2wx : wx.cell? ⟨xb, 2, none⟩ = some (.slice (some ⟨bc, oc, none⟩) lb cb) := hx.re.bx.cell 2
    have HXwx := Lib.hid hx
    clear hx
    go_upto_region 6 with (fail)
    have hK : ∀ W', Below w.heap.size wx W' → W'.cell? ⟨xb, 0, none⟩ = some (.map (some tb)) ∧ W'.cell? ⟨xb, 1, none⟩ = some (.slice (some ⟨ba, oa, none⟩) la ca) ∧ W'.cell? ⟨xb, 2, none⟩ = some (.slice (some ⟨bc, oc, none⟩) lb cb) ∧ W'.cell? ⟨ba, oa + i * 3, none⟩ = some (.int .i32 p.1) ∧ W'.cell? ⟨ba, oa + i * 3 + 1, none⟩ = some (.bool p.2.1) ∧ W'.cell? ⟨ba, oa + i * 3 + 2, none⟩ = some (.int .i32 p.2.2) ∧ W'.cell? ⟨bc, oc + k * 3, none⟩ = some (.int .i32 q.1) ∧ W'.cell? ⟨bc, oc + k * 3 + 1, none⟩ = some (.bool q.2.1) ∧ W'.cell? ⟨bc, oc + k * 3 + 2, none⟩ = some (.int .i32 q.2.2) ∧ W'.cell? ⟨g, (i + 1) * (lb + 1) + (k + 1), none⟩ = some (.int .i64 c11) := fun W' hb' => by
      have h1 := HXwx.out.reB hb'
      exact ⟨h1.bx.cell 0, h1.bx.cell 1, h1.bx.cell 2, (hb'.cell (p := ⟨ba, oa + i * 3, none⟩) PA.out.1).trans ((HXwx.out.below.cell (p := ⟨ba, oa + i * 3, none⟩) PA.out.1).trans PA.out.2.1), (hb'.cell (p := ⟨ba, oa + i * 3 + 1, none⟩) PA.out.1).trans ((HXwx.out.below.cell (p := ⟨ba, oa + i * 3 + 1, none⟩) PA.out.1).trans PA.out.2.2.1), (hb'.cell (p := ⟨ba, oa + i * 3 + 2, none⟩) PA.out.1).trans ((HXwx.out.below.cell (p := ⟨ba, oa + i * 3 + 2, none⟩) PA.out.1).trans PA.out.2.2.2), (hb'.cell (p := ⟨bc, oc + k * 3, none⟩) PC.out.1).trans ((HXwx.out.below.cell (p := ⟨bc, oc + k * 3, none⟩) PC.out.1).trans PC.out.2.1), (hb'.cell (p := ⟨bc, oc + k * 3 + 1, none⟩) PC.out.1).trans ((HXwx.out.below.cell (p := ⟨bc, oc + k * 3 + 1, none⟩) PC.out.1).trans PC.out.2.2.1), (hb'.cell (p := ⟨bc, oc + k * 3 + 2, none⟩) PC.out.1).trans ((HXwx.out.below.cell (p := ⟨bc, oc + k * 3 + 2, none⟩) PC.out.1).trans PC.out.2.2.2), (h1.bg.cell _).trans H11.out⟩
    have HKwx := Lib.hid hK
    clear hK
    go_region_held3 (fun W' => W'.cell? ⟨xb, 0, none⟩ = some (.map (some tb)) ∧ W'.cell? ⟨xb, 1, none⟩ = some (.slice (some ⟨ba, oa, none⟩) la ca) ∧ W'.cell? ⟨xb, 2, none⟩ = some (.slice (some ⟨bc, oc, none⟩) lb cb) ∧ W'.cell? ⟨ba, oa + i * 3, none⟩ = some (.int .i32 p.1) ∧ W'.cell? ⟨ba, oa + i * 3 + 1, none⟩ = some (.bool p.2.1) ∧ W'.cell? ⟨ba, oa + i * 3 + 2, none⟩ = some (.int .i32 p.2.2) ∧ W'.cell? ⟨bc, oc + k * 3, none⟩ = some (.int .i32 q.1) ∧ W'.cell? ⟨bc, oc + k * 3 + 1, none⟩ = some (.bool q.2.1) ∧ W'.cell? ⟨bc, oc + k * 3 + 2, none⟩ = some (.int .i32 q.2.2) ∧ W'.cell? ⟨g, (i + 1) * (lb + 1) + (k + 1), none⟩ = some (.int .i64 c11))
      ((refine HKwx.out _ ?_; first | exact (Below.fullB HT.out HXwx.out.below) | exact (Below.fullB HA.out HXwx.out.below) | exact HEwv1.out.2 | exact ⟨rfl, rfl, rfl, Nat.le_refl _, fun _ _ => rfl⟩))
      (first
        | (go_at_call 115
           refine (apart_any tb p q _ (by first | exact (HXwx.out.reB (Below.full (by exact HT.out) HXwx.out.below)).tab | exact (HXwx.out.reB (Below.full (by exact ⟨rfl, rfl, rfl, Nat.le_refl _, fun _ _ => rfl⟩) HXwx.out.below)).tab) FP.out FQ.out).mono ?_
           rintro e wa ⟨rfl, hb⟩
           have HA : Hid (Below wx.heap.size wx wa) := Lib.hid (by first | exact HT.out.trans (hb.mono HT.out.size) | exact ⟨hb.os, hb.tape, hb.output, hb.size, hb.block⟩)
           clear hb)
        | (go_at_call 130
           refine (at_at tb xb g _ _ la ca lb cb cells (i + 1) (k + 1) _ _ (by first | omega | (rw [wi]; omega)) (by first | omega | (rw [wk]; omega)) _ (by first | exact HXwx.out.reB (Below.full (by exact HA.out) HXwx.out.below) | exact HXwx.out.reB (Below.full (by exact ⟨rfl, rfl, rfl, Nat.le_refl _, fun _ _ => rfl⟩) HXwx.out.below)) (by omega) (by omega) (by omega) (by omega)).mono ?_
           rintro e wt ⟨rfl, hb⟩
           have HT : Hid (Below wx.heap.size wx wt) := Lib.hid (by first | exact HA.out.trans (hb.mono HA.out.size) | exact ⟨hb.os, hb.tape, hb.output, hb.size, hb.block⟩)
           clear hb)
        | (go_at_call 169
           refine (take_any w.heap.size (-1) _ _ (by first | exact HXwx.out.bb.below HT.out HXwx.out.bb.lt | exact HXwx.out.bb.below HA.out HXwx.out.bb.lt)).mono ?_
           rintro e wv1 ⟨rfl, hbb, ho⟩
           (try rw [v1] at hbb)
           (try rw [v2] at hbb)
           (try rw [v3] at hbb)
           have HEwv1 : Hid (LeSt w tb xb g (some ⟨ba, oa, none⟩) (some ⟨bc, oc, none⟩) la ca lb cb cells a b (takeF (-1) (apartF p q + c11)) wv1 ∧ Below w.heap.size wx wv1) := Lib.hid (by
             first
               | exact ⟨(HXwx.out.on HT.out).stay ho (fun _ e => Nat.le_of_eq (Eq.symm e)) hbb, (Below.fullB HT.out HXwx.out.below).trans (ho.below (Nat.le_trans HXwx.out.below.size HT.out.size) (fun _ hk e => Nat.ne_of_lt hk e))⟩
               | exact ⟨(HXwx.out.on HA.out).stay ho (fun _ e => Nat.le_of_eq (Eq.symm e)) hbb, (Below.fullB HA.out HXwx.out.below).trans (ho.below (Nat.le_trans HXwx.out.below.size HA.out.size) (fun _ hk e => Nat.ne_of_lt hk e))⟩)
           clear hbb ho))
    all_goals
      have HXwv1 := Lib.hid HEwv1.out.1
      have y1wv1 : wv1.cell? ⟨xb, 1, none⟩ = some (.slice (some ⟨ba, oa, none⟩) la ca) := HXwv1.out.re.bx.cell 1
      have y2wv1 : wv1.cell? ⟨xb, 2, none⟩ = some (.slice (some ⟨bc, oc, none⟩) lb cb) := HXwv1.out.re.bx.cell 2
    go_upto_region 8 with (fail)
    have hK : ∀ W', Below w.heap.size wv1 W' → W'.cell? ⟨xb, 0, none⟩ = some (.map (some tb)) ∧ W'.cell? ⟨xb, 1, none⟩ = some (.slice (some ⟨ba, oa, none⟩) la ca) ∧ W'.cell? ⟨ba, oa + i * 3, none⟩ = some (.int .i32 p.1) ∧ W'.cell? ⟨ba, oa + i * 3 + 1, none⟩ = some (.bool p.2.1) ∧ W'.cell? ⟨ba, oa + i * 3 + 2, none⟩ = some (.int .i32 p.2.2) ∧ W'.cell? ⟨g, (i + 1) * (lb + 1) + k, none⟩ = some (.int .i64 c10) := fun W' hb' => by
      have h1 := HXwv1.out.reB hb'
      exact ⟨h1.bx.cell 0, h1.bx.cell 1, (hb'.cell (p := ⟨ba, oa + i * 3, none⟩) PA.out.1).trans ((HXwv1.out.below.cell (p := ⟨ba, oa + i * 3, none⟩) PA.out.1).trans PA.out.2.1), (hb'.cell (p := ⟨ba, oa + i * 3 + 1, none⟩) PA.out.1).trans ((HXwv1.out.below.cell (p := ⟨ba, oa + i * 3 + 1, none⟩) PA.out.1).trans PA.out.2.2.1), (hb'.cell (p := ⟨ba, oa + i * 3 + 2, none⟩) PA.out.1).trans ((HXwv1.out.below.cell (p := ⟨ba, oa + i * 3 + 2, none⟩) PA.out.1).trans PA.out.2.2.2), (h1.bg.cell _).trans H10.out⟩
    have HKwv1 := Lib.hid hK
    clear hK
    go_region_held3 (fun W' => W'.cell? ⟨xb, 0, none⟩ = some (.map (some tb)) ∧ W'.cell? ⟨xb, 1, none⟩ = some (.slice (some ⟨ba, oa, none⟩) la ca) ∧ W'.cell? ⟨ba, oa + i * 3, none⟩ = some (.int .i32 p.1) ∧ W'.cell? ⟨ba, oa + i * 3 + 1, none⟩ = some (.bool p.2.1) ∧ W'.cell? ⟨ba, oa + i * 3 + 2, none⟩ = some (.int .i32 p.2.2) ∧ W'.cell? ⟨g, (i + 1) * (lb + 1) + k, none⟩ = some (.int .i64 c10))
      ((refine HKwv1.out _ ?_; first | exact (Below.fullB HT.out HXwv1.out.below) | exact (Below.fullB HA.out HXwv1.out.below) | exact HEwv2.out.2 | exact ⟨rfl, rfl, rfl, Nat.le_refl _, fun _ _ => rfl⟩))
      (first
        | (go_at_call 116
           refine (lone_any tb p _ (by first | exact (HXwv1.out.reB (Below.full (by exact HT.out) HXwv1.out.below)).tab | exact (HXwv1.out.reB (Below.full (by exact ⟨rfl, rfl, rfl, Nat.le_refl _, fun _ _ => rfl⟩) HXwv1.out.below)).tab) FP.out).mono ?_
           rintro e wa ⟨rfl, hb⟩
           have HA : Hid (Below wv1.heap.size wv1 wa) := Lib.hid (by first | exact HT.out.trans (hb.mono HT.out.size) | exact ⟨hb.os, hb.tape, hb.output, hb.size, hb.block⟩)
           clear hb)
        | (go_at_call 130
           refine (at_at tb xb g _ _ la ca lb cb cells (i + 1) k _ _ (by first | omega | (rw [wi]; omega)) (by first | omega | (rw [wk]; omega)) _ (by first | exact HXwv1.out.reB (Below.full (by exact HA.out) HXwv1.out.below) | exact HXwv1.out.reB (Below.full (by exact ⟨rfl, rfl, rfl, Nat.le_refl _, fun _ _ => rfl⟩) HXwv1.out.below)) (by omega) (by omega) (by omega) (by omega)).mono ?_
           rintro e wt ⟨rfl, hb⟩
           have HT : Hid (Below wv1.heap.size wv1 wt) := Lib.hid (by first | exact HA.out.trans (hb.mono HA.out.size) | exact ⟨hb.os, hb.tape, hb.output, hb.size, hb.block⟩)
           clear hb)
        | (go_at_call 169
           refine (take_any w.heap.size (takeF (-1) (apartF p q + c11)) _ _ (by first | exact HXwv1.out.bb.below HT.out HXwv1.out.bb.lt | exact HXwv1.out.bb.below HA.out HXwv1.out.bb.lt)).mono ?_
           rintro e wv2 ⟨rfl, hbb, ho⟩
           (try rw [v1] at hbb)
           (try rw [v2] at hbb)
           (try rw [v3] at hbb)
           have HEwv2 : Hid (LeSt w tb xb g (some ⟨ba, oa, none⟩) (some ⟨bc, oc, none⟩) la ca lb cb cells a b (takeF (takeF (-1) (apartF p q + c11)) (loneF p + c10)) wv2 ∧ Below w.heap.size wv1 wv2) := Lib.hid (by
             first
               | exact ⟨(HXwv1.out.on HT.out).stay ho (fun _ e => Nat.le_of_eq (Eq.symm e)) hbb, (Below.fullB HT.out HXwv1.out.below).trans (ho.below (Nat.le_trans HXwv1.out.below.size HT.out.size) (fun _ hk e => Nat.ne_of_lt hk e))⟩
               | exact ⟨(HXwv1.out.on HA.out).stay ho (fun _ e => Nat.le_of_eq (Eq.symm e)) hbb, (Below.fullB HA.out HXwv1.out.below).trans (ho.below (Nat.le_trans HXwv1.out.below.size HA.out.size) (fun _ hk e => Nat.ne_of_lt hk e))⟩)
           clear hbb ho))
    all_goals
      have HXwv2 := Lib.hid HEwv2.out.1
      have y1wv2 : wv2.cell? ⟨xb, 1, none⟩ = some (.slice (some ⟨ba, oa, none⟩) la ca) := HXwv2.out.re.bx.cell 1
      have y2wv2 : wv2.cell? ⟨xb, 2, none⟩ = some (.slice (some ⟨bc, oc, none⟩) lb cb) := HXwv2.out.re.bx.cell 2
    go_upto_region 10 with (fail)
    have hK : ∀ W', Below w.heap.size wv2 W' → W'.cell? ⟨xb, 0, none⟩ = some (.map (some tb)) ∧ W'.cell? ⟨xb, 2, none⟩ = some (.slice (some ⟨bc, oc, none⟩) lb cb) ∧ W'.cell? ⟨bc, oc + k * 3, none⟩ = some (.int .i32 q.1) ∧ W'.cell? ⟨bc, oc + k * 3 + 1, none⟩ = some (.bool q.2.1) ∧ W'.cell? ⟨bc, oc + k * 3 + 2, none⟩ = some (.int .i32 q.2.2) ∧ W'.cell? ⟨g, i * (lb + 1) + (k + 1), none⟩ = some (.int .i64 c01) := fun W' hb' => by
      have h1 := HXwv2.out.reB hb'
      exact ⟨h1.bx.cell 0, h1.bx.cell 2, (hb'.cell (p := ⟨bc, oc + k * 3, none⟩) PC.out.1).trans ((HXwv2.out.below.cell (p := ⟨bc, oc + k * 3, none⟩) PC.out.1).trans PC.out.2.1), (hb'.cell (p := ⟨bc, oc + k * 3 + 1, none⟩) PC.out.1).trans ((HXwv2.out.below.cell (p := ⟨bc, oc + k * 3 + 1, none⟩) PC.out.1).trans PC.out.2.2.1), (hb'.cell (p := ⟨bc, oc + k * 3 + 2, none⟩) PC.out.1).trans ((HXwv2.out.below.cell (p := ⟨bc, oc + k * 3 + 2, none⟩) PC.out.1).trans PC.out.2.2.2), (h1.bg.cell _).trans H01.out⟩
    have HKwv2 := Lib.hid hK
    clear hK
    go_region_held3 (fun W' => W'.cell? ⟨xb, 0, none⟩ = some (.map (some tb)) ∧ W'.cell? ⟨xb, 2, none⟩ = some (.slice (some ⟨bc, oc, none⟩) lb cb) ∧ W'.cell? ⟨bc, oc + k * 3, none⟩ = some (.int .i32 q.1) ∧ W'.cell? ⟨bc, oc + k * 3 + 1, none⟩ = some (.bool q.2.1) ∧ W'.cell? ⟨bc, oc + k * 3 + 2, none⟩ = some (.int .i32 q.2.2) ∧ W'.cell? ⟨g, i * (lb + 1) + (k + 1), none⟩ = some (.int .i64 c01))
      ((refine HKwv2.out _ ?_; first | exact (Below.fullB HT.out HXwv2.out.below) | exact (Below.fullB HA.out HXwv2.out.below) | exact HEwv3.out.2 | exact ⟨rfl, rfl, rfl, Nat.le_refl _, fun _ _ => rfl⟩))
      (first
        | (go_at_call 116
           refine (lone_any tb q _ (by first | exact (HXwv2.out.reB (Below.full (by exact HT.out) HXwv2.out.below)).tab | exact (HXwv2.out.reB (Below.full (by exact ⟨rfl, rfl, rfl, Nat.le_refl _, fun _ _ => rfl⟩) HXwv2.out.below)).tab) FQ.out).mono ?_
           rintro e wa ⟨rfl, hb⟩
           have HA : Hid (Below wv2.heap.size wv2 wa) := Lib.hid (by first | exact HT.out.trans (hb.mono HT.out.size) | exact ⟨hb.os, hb.tape, hb.output, hb.size, hb.block⟩)
           clear hb)
        | (go_at_call 130
           refine (at_at tb xb g _ _ la ca lb cb cells i (k + 1) _ _ (by first | omega | (rw [wi]; omega)) (by first | omega | (rw [wk]; omega)) _ (by first | exact HXwv2.out.reB (Below.full (by exact HA.out) HXwv2.out.below) | exact HXwv2.out.reB (Below.full (by exact ⟨rfl, rfl, rfl, Nat.le_refl _, fun _ _ => rfl⟩) HXwv2.out.below)) (by omega) (by omega) (by omega) (by omega)).mono ?_
           rintro e wt ⟨rfl, hb⟩
           have HT : Hid (Below wv2.heap.size wv2 wt) := Lib.hid (by first | exact HA.out.trans (hb.mono HA.out.size) | exact ⟨hb.os, hb.tape, hb.output, hb.size, hb.block⟩)
           clear hb)
        | (go_at_call 169
           refine (take_any w.heap.size (takeF (takeF (-1) (apartF p q + c11)) (loneF p + c10)) _ _ (by first | exact HXwv2.out.bb.below HT.out HXwv2.out.bb.lt | exact HXwv2.out.bb.below HA.out HXwv2.out.bb.lt)).mono ?_
           rintro e wv3 ⟨rfl, hbb, ho⟩
           (try rw [v1] at hbb)
           (try rw [v2] at hbb)
           (try rw [v3] at hbb)
           have HEwv3 : Hid (LeSt w tb xb g (some ⟨ba, oa, none⟩) (some ⟨bc, oc, none⟩) la ca lb cb cells a b (takeF (takeF (takeF (-1) (apartF p q + c11)) (loneF p + c10)) (loneF q + c01)) wv3 ∧ Below w.heap.size wv2 wv3) := Lib.hid (by
             first
               | exact ⟨(HXwv2.out.on HT.out).stay ho (fun _ e => Nat.le_of_eq (Eq.symm e)) hbb, (Below.fullB HT.out HXwv2.out.below).trans (ho.below (Nat.le_trans HXwv2.out.below.size HT.out.size) (fun _ hk e => Nat.ne_of_lt hk e))⟩
               | exact ⟨(HXwv2.out.on HA.out).stay ho (fun _ e => Nat.le_of_eq (Eq.symm e)) hbb, (Below.fullB HA.out HXwv2.out.below).trans (ho.below (Nat.le_trans HXwv2.out.below.size HA.out.size) (fun _ hk e => Nat.ne_of_lt hk e))⟩)
           clear hbb ho))
    all_goals
      have HXwv3 := Lib.hid HEwv3.out.1
      have y1wv3 : wv3.cell? ⟨xb, 1, none⟩ = some (.slice (some ⟨ba, oa, none⟩) la ca) := HXwv3.out.re.bx.cell 1
      have y2wv3 : wv3.cell? ⟨xb, 2, none⟩ = some (.slice (some ⟨bc, oc, none⟩) lb cb) := HXwv3.out.re.bx.cell 2
    all_goals
      have bv : wv3.cell? ⟨w.heap.size, 0, none⟩ = some (.int .i64 (takeF (takeF (takeF (-1) (apartF p q + c11)) (loneF p + c10)) (loneF q + c01))) := HXwv3.out.bb.cell 0
      have HZ := Lib.hid HXwv3.out.below
      go_wp2
      go_ret
      exact ⟨ret_int (by (try rw [HCE.out.1]); rw [HCE.out.2]; unfold takeF; (repeat split) <;> omega), HZ.out⟩
end Go.Proofs.Ytogofchpocoebaa
