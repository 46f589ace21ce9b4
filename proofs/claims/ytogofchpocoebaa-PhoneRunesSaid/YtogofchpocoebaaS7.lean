/- The law PhoneRunes, walked. -/
import Derived.Test.YtogofchpocoebaaS6
import Derived.Test.YtogofchpocoebaaR4
namespace Go.Proofs.Ytogofchpocoebaa
open Go.RowKit Go.Maps
attribute [local go_sem] Oper.semAt_some

theorem all_call (w : World) : Calls Try.prog 56 #[] w fun e w' => e = .returned (.func (.func 124) #[] #[]) ∧ w' = w := by
  go_enter Try.func56, Try.ntmps56
  go_wp2
  go_ret
  exact ⟨rfl, rfl⟩

/-- memory while the law runs: the phone's box, the result's -/
structure RuSt (w0 : World) (p : Ph) (W : World) : Prop where
  bp : Blk W w0.heap.size 43 #[.int .i32 p.1, .bool p.2.1, .int .i32 p.2.2]
  br : Blk W (w0.heap.size + 1) 4 #[.bool false]
  below : Below w0.heap.size w0 W
theorem RuSt.on {w0 : World} {p : Ph} {W W' : World} (h : RuSt w0 p W) (hb : Below W.heap.size W W') : RuSt w0 p W' :=
  ⟨h.bp.below hb h.bp.lt, h.br.below hb h.br.lt, h.below.trans (hb.mono h.below.size)⟩

/-- memory between two rounds -/
structure RuIn (w0 : World) (tb kb g B : Nat) (k : Nat) (W : World) : Prop where
  br : Blk W (w0.heap.size + 1) 4 #[.bool false]
  bt : Blk W tb 59 #[.slice (some ⟨g, 0, none⟩) 38 38]
  bk : Blk W kb 3 #[.int .i64 k]
  bg : Blk W g 65 (rws rowsL).toArray
  below : Below w0.heap.size w0 W
  l1 : w0.heap.size + 2 ≤ tb ∧ w0.heap.size + 2 ≤ kb ∧ w0.heap.size + 2 ≤ g
  l2 : tb < B ∧ kb < B ∧ g < B
  ne : kb ≠ tb ∧ kb ≠ g
theorem RuIn.stay {S : Nat → Prop} {w0 : World} {tb kb g B k : Nat} {W W' : World} (h : RuIn w0 tb kb g B k W) (ho : Only S W W') (hS : ∀ b, S b → B ≤ b) : RuIn w0 tb kb g B k W' := by
  obtain ⟨l1, l2, l3⟩ := h.l1
  obtain ⟨m1, m2, m3⟩ := h.l2
  refine ⟨h.br.only ho (fun hs => ?_), h.bt.only ho (fun hs => ?_), h.bk.only ho (fun hs => ?_), h.bg.only ho (fun hs => ?_), h.below.trans (ho.below h.below.size (fun b hb hs => ?_)), h.l1, h.l2, h.ne⟩
  all_goals have := hS _ hs; omega
theorem RuIn.on {w0 : World} {tb kb g B k : Nat} {W W' : World} (h : RuIn w0 tb kb g B k W) (hb : Below B W W') : RuIn w0 tb kb g B k W' :=
  h.stay (S := fun b => B ≤ b) ⟨hb.os, hb.tape, hb.output, hb.size, fun j _ hs => hb.block j (by omega)⟩ (fun _ hs => hs)
theorem RuIn.set {w0 : World} {tb kb g B k : Nat} {W : World} (h : RuIn w0 tb kb g B k W) (k' : Nat) : RuIn w0 tb kb g B k' (W.setCell ⟨kb, 0, none⟩ (.int .i64 k')) := by
  obtain ⟨l1, l2, l3⟩ := h.l1
  obtain ⟨n1, n2⟩ := h.ne
  exact ⟨h.br.far (by simp; omega) _, h.bt.far (by simp; omega) _, by simpa using h.bk.set_ 0 (.int .i64 k'), h.bg.far (by simp; omega) _, h.below.setCell (by simp; omega) _, h.l1, h.l2, h.ne⟩

theorem ru_end {w0 : World} {w : World} (h : Blk w (w0.heap.size + 1) 4 #[.bool false]) (hbl : Below w0.heap.size w0 w) (tmps : Array Value) (ht : tmps[4]? = some (.pointer (some ⟨w0.heap.size + 1, 0, none⟩))) : ∀ w', Below (w0.heap.size + 2) (w.setCell ⟨w0.heap.size + 1, 0, none⟩ (.bool true)) w' →
    ∃ v, (results Try.f6 tmps).run Try.prog w' = .ok v w' ∧ (fun e w' => e = Ending.returned (.bool true) ∧ Below w0.heap.size w0 w') (.returned v) w' := by
  intro w' hb
  have g : w'.cell? ⟨w0.heap.size + 1, 0, none⟩ = some (.bool true) := by
    have := ((h.set_ 0 (.bool true)).below hb (by omega)).cell 0
    simpa using this
  refine ⟨.bool true, ?_, rfl, (hbl.setCell (by simp) _).trans (hb.mono (by omega))⟩
  simp [results, Try.results6, go_sem, g, ht]

set_option maxHeartbeats 8000000 in
set_option maxRecDepth 100000 in
theorem phoneRunes_any (r : Int) (p : Ph) (w : World) (hr : fit32 r) (hp : fit32 p.1) : Calls Try.prog 6 #[.int .i32 r, .agg #[.int .i32 p.1, .bool p.2.1, .int .i32 p.2.2]] w fun e w' => e = .returned (.bool true) ∧ Below w.heap.size w w' := by
  have HF := Lib.hid (And.intro hr hp)
  clear hr hp
  refine calls_of_wp_marks Try.func6 rfl ?_
  simp only [Try.ntmps6, List.size_toArray, List.length_cons, List.length_nil, Nat.reduceAdd, Nat.reduceSub, Array.replicate_succ, Array.replicate_zero, List.push_toArray, List.append_toArray, List.nil_append, List.cons_append]
  go_upto_region 1 with (fail)
  refine wp_abs (RuSt w p) ⟨(Blk.new _ _ _).alloc _, blk_new_eq (by simp), ((Below.refl _ _).alloc (Nat.le_refl _) _).alloc (by simp) _⟩ ?_
  intro w1 hS
  have H1 := Lib.hid hS
  clear hS
  go_wp2_with fail
  refine (works_any w1).mono ?_
  rintro e w2 ⟨rfl, hb⟩
  have H2 := Lib.hid (H1.out.on hb)
  clear hb H1
  go_wp2_with fail
  refine (Of_any r w2 HF.out.1).mono ?_
  rintro e w3 ⟨rfl, hb⟩
  rw [show trV (traits r) = .agg #[.bool (traits r).vow, .int .i64 (traits r).hgt, .int .i64 (traits r).bck, .bool (traits r).rnd, .int .i64 (traits r).plc, .int .i64 (traits r).mnr, .bool (traits r).vcd] from rfl]
  have H3 := Lib.hid (H2.out.on hb)
  clear hb H2
  go_upto_region 4 with (fail)
  refine wp_abs (fun wx => RuSt w p wx ∧ Blk wx w3.heap.size 56 #[.bool (traits r).vow, .int .i64 (traits r).hgt, .int .i64 (traits r).bck, .bool (traits r).rnd, .int .i64 (traits r).plc, .int .i64 (traits r).mnr, .bool (traits r).vcd]) ⟨H3.out.on ((Below.refl _ _).alloc (Nat.le_refl _) _), Blk.new _ _ _⟩ ?_
  generalize w3.heap.size = t1
  rintro w4 ⟨hS, hX⟩
  have H4 := Lib.hid (And.intro hS hX)
  clear hS hX H3
  go_wp2_with fail
  refine (refOf_any r w4).mono ?_
  rintro e w5 ⟨rfl, hb⟩
  have H5 := Lib.hid (And.intro (H4.out.1.on hb) (H4.out.2.below hb H4.out.2.lt))
  clear hb H4
  go_upto_region 5 with (fail)
  refine wp_abs (fun wx => RuSt w p wx ∧ Blk wx t1 56 #[.bool (traits r).vow, .int .i64 (traits r).hgt, .int .i64 (traits r).bck, .bool (traits r).rnd, .int .i64 (traits r).plc, .int .i64 (traits r).mnr, .bool (traits r).vcd] ∧ Blk wx w5.heap.size 56 #[.bool (traits r).vow, .int .i64 (traits r).hgt, .int .i64 (traits r).bck, .bool (traits r).rnd, .int .i64 (traits r).plc, .int .i64 (traits r).mnr, .bool (traits r).vcd]) ⟨H5.out.1.on ((Below.refl _ _).alloc (Nat.le_refl _) _), H5.out.2.alloc _, Blk.new _ _ _⟩ ?_
  generalize w5.heap.size = t2
  rintro w6 ⟨hS, hX, hY⟩
  clear H5
  generalize traits r = t at *
  have x0 : w6.cell? ⟨t1, 0, none⟩ = some (.bool t.vow) := hX.cell 0
  have x1 : w6.cell? ⟨t1, 1, none⟩ = some (.int .i64 t.hgt) := hX.cell 1
  have x2 : w6.cell? ⟨t1, 2, none⟩ = some (.int .i64 t.bck) := hX.cell 2
  have x3 : w6.cell? ⟨t1, 3, none⟩ = some (.bool t.rnd) := hX.cell 3
  have x4 : w6.cell? ⟨t1, 4, none⟩ = some (.int .i64 t.plc) := hX.cell 4
  have x5 : w6.cell? ⟨t1, 5, none⟩ = some (.int .i64 t.mnr) := hX.cell 5
  have x6 : w6.cell? ⟨t1, 6, none⟩ = some (.bool t.vcd) := hX.cell 6
  have y0 : w6.cell? ⟨t2, 0, none⟩ = some (.bool t.vow) := hY.cell 0
  have y1 : w6.cell? ⟨t2, 1, none⟩ = some (.int .i64 t.hgt) := hY.cell 1
  have y2 : w6.cell? ⟨t2, 2, none⟩ = some (.int .i64 t.bck) := hY.cell 2
  have y3 : w6.cell? ⟨t2, 3, none⟩ = some (.bool t.rnd) := hY.cell 3
  have y4 : w6.cell? ⟨t2, 4, none⟩ = some (.int .i64 t.plc) := hY.cell 4
  have y5 : w6.cell? ⟨t2, 5, none⟩ = some (.int .i64 t.mnr) := hY.cell 5
  have y6 : w6.cell? ⟨t2, 6, none⟩ = some (.bool t.vcd) := hY.cell 6
  have p0 : w6.cell? ⟨w.heap.size, 0, none⟩ = some (.int .i32 p.1) := hS.bp.cell 0
  have p1 : w6.cell? ⟨w.heap.size, 1, none⟩ = some (.bool p.2.1) := hS.bp.cell 1
  have p2 : w6.cell? ⟨w.heap.size, 2, none⟩ = some (.int .i32 p.2.2) := hS.bp.cell 2
  have HS := Lib.hid hS
  have HK := Lib.hid (show ∀ W', Below w6.heap.size w6 W' → W'.cell? ⟨w.heap.size, 0, none⟩ = some (.int .i32 p.1) ∧ W'.cell? ⟨w.heap.size, 1, none⟩ = some (.bool p.2.1) ∧ W'.cell? ⟨w.heap.size, 2, none⟩ = some (.int .i32 p.2.2) ∧ W'.cell? ⟨t1, 0, none⟩ = some (.bool t.vow) ∧ W'.cell? ⟨t1, 1, none⟩ = some (.int .i64 t.hgt) ∧ W'.cell? ⟨t1, 2, none⟩ = some (.int .i64 t.bck) ∧ W'.cell? ⟨t1, 3, none⟩ = some (.bool t.rnd) ∧ W'.cell? ⟨t1, 4, none⟩ = some (.int .i64 t.plc) ∧ W'.cell? ⟨t1, 5, none⟩ = some (.int .i64 t.mnr) ∧ W'.cell? ⟨t1, 6, none⟩ = some (.bool t.vcd) ∧ W'.cell? ⟨t2, 0, none⟩ = some (.bool t.vow) ∧ W'.cell? ⟨t2, 1, none⟩ = some (.int .i64 t.hgt) ∧ W'.cell? ⟨t2, 2, none⟩ = some (.int .i64 t.bck) ∧ W'.cell? ⟨t2, 3, none⟩ = some (.bool t.rnd) ∧ W'.cell? ⟨t2, 4, none⟩ = some (.int .i64 t.plc) ∧ W'.cell? ⟨t2, 5, none⟩ = some (.int .i64 t.mnr) ∧ W'.cell? ⟨t2, 6, none⟩ = some (.bool t.vcd) from fun W' hb => ⟨(hS.on hb).bp.cell 0, (hS.on hb).bp.cell 1, (hS.on hb).bp.cell 2, (hX.below hb hX.lt).cell 0, (hX.below hb hX.lt).cell 1, (hX.below hb hX.lt).cell 2, (hX.below hb hX.lt).cell 3, (hX.below hb hX.lt).cell 4, (hX.below hb hX.lt).cell 5, (hX.below hb hX.lt).cell 6, (hY.below hb hY.lt).cell 0, (hY.below hb hY.lt).cell 1, (hY.below hb hY.lt).cell 2, (hY.below hb hY.lt).cell 3, (hY.below hb hY.lt).cell 4, (hY.below hb hY.lt).cell 5, (hY.below hb hY.lt).cell 6⟩)
  have n1 : (isF p != isF p) = false := by simp
  have n2 : (sonF p != sonF p) = false := by simp
  clear hS hX hY
  generalize (tabF r).isSome = ok at *
  have n3 : (ok != ok) = false := by simp
  go_region_held3 (fun W' => W'.cell? ⟨w.heap.size, 0, none⟩ = some (.int .i32 p.1) ∧ W'.cell? ⟨w.heap.size, 1, none⟩ = some (.bool p.2.1) ∧ W'.cell? ⟨w.heap.size, 2, none⟩ = some (.int .i32 p.2.2) ∧ W'.cell? ⟨t1, 0, none⟩ = some (.bool t.vow) ∧ W'.cell? ⟨t1, 1, none⟩ = some (.int .i64 t.hgt) ∧ W'.cell? ⟨t1, 2, none⟩ = some (.int .i64 t.bck) ∧ W'.cell? ⟨t1, 3, none⟩ = some (.bool t.rnd) ∧ W'.cell? ⟨t1, 4, none⟩ = some (.int .i64 t.plc) ∧ W'.cell? ⟨t1, 5, none⟩ = some (.int .i64 t.mnr) ∧ W'.cell? ⟨t1, 6, none⟩ = some (.bool t.vcd) ∧ W'.cell? ⟨t2, 0, none⟩ = some (.bool t.vow) ∧ W'.cell? ⟨t2, 1, none⟩ = some (.int .i64 t.hgt) ∧ W'.cell? ⟨t2, 2, none⟩ = some (.int .i64 t.bck) ∧ W'.cell? ⟨t2, 3, none⟩ = some (.bool t.rnd) ∧ W'.cell? ⟨t2, 4, none⟩ = some (.int .i64 t.plc) ∧ W'.cell? ⟨t2, 5, none⟩ = some (.int .i64 t.mnr) ∧ W'.cell? ⟨t2, 6, none⟩ = some (.bool t.vcd))
    ((refine HK.out _ ?_; first | exact HZ.out | exact ⟨rfl, rfl, rfl, Nat.le_refl _, fun _ _ => rfl⟩))
    (first
      | (go_at_call 52
         refine (Is_any p _ HF.out.2).mono ?_
         rintro e wz ⟨rfl, hb⟩
         have HZ : Hid (Below w6.heap.size w6 wz) := Lib.hid (by first | exact HZ.out.trans (hb.mono HZ.out.size) | exact ⟨hb.os, hb.tape, hb.output, hb.size, hb.block⟩)
         clear hb)
      | (go_at_call 43
         refine (refIs_any _ _).mono ?_
         rintro e wz ⟨rfl, hb⟩
         have HZ : Hid (Below w6.heap.size w6 wz) := Lib.hid (by first | exact HZ.out.trans (hb.mono HZ.out.size) | exact ⟨hb.os, hb.tape, hb.output, hb.size, hb.block⟩)
         clear hb)
      | (go_at_call 53
         refine (son_any p _ HF.out.2).mono ?_
         rintro e wz ⟨rfl, hb⟩
         have HZ : Hid (Below w6.heap.size w6 wz) := Lib.hid (by first | exact HZ.out.trans (hb.mono HZ.out.size) | exact ⟨hb.os, hb.tape, hb.output, hb.size, hb.block⟩)
         clear hb)
      | (go_at_call 54
         refine (refSon_any _ _).mono ?_
         rintro e wz ⟨rfl, hb⟩
         have HZ : Hid (Below w6.heap.size w6 wz) := Lib.hid (by first | exact HZ.out.trans (hb.mono HZ.out.size) | exact ⟨hb.os, hb.tape, hb.output, hb.size, hb.block⟩)
         clear hb))
  have H7 := Lib.hid (HS.out.on HZ.out)
  clear HZ HS HK x0 x1 x2 x3 x4 x5 x6 y0 y1 y2 y3 y4 y5 y6 p0 p1 p2 n1 n2 n3
  go_wp2_with fail
  refine (refRows_any _).mono ?_
  rintro e w7 ⟨g, rfl, hg, hb, hgl⟩
  have H8 := Lib.hid (And.intro (H7.out.on hb) (And.intro hg (And.intro hgl H7.out.br.lt)))
  clear H7 hg hb hgl
  go_upto_region 9 with (fail)
  refine wp_abs (fun wx => RuIn w w7.heap.size (w7.heap.size + 1) g wx.heap.size 0 wx) ?hin ?_
  case hin =>
    have a1 := H8.out.1.br.lt
    have a2 := H8.out.2.1.lt
    have a3 := H8.out.2.2
    have hb2 : Below w7.heap.size w7 ((w7.alloc (.cells #[.slice (some ⟨g, 0, none⟩) 38 38] 59)).alloc (.cells #[.int .i64 0] 3)) := ((Below.refl _ _).alloc (Nat.le_refl _) _).alloc (by simp) _
    exact ⟨(H8.out.1.on hb2).br, (Blk.new _ _ _).alloc _, blk_new_eq (by simp), H8.out.2.1.below hb2 a2, (H8.out.1.on hb2).below, ⟨by omega, by omega, by omega⟩, ⟨by simp; omega, by simp, by simp; omega⟩, by omega, by omega⟩
  generalize w7.heap.size = tb
  generalize hkb : tb + 1 = kb
  clear hkb H8
  intro w8 hS
  have H9 := Lib.hid hS
  clear hS
  go_wp2_with fail
  refine (all_call _).mono ?_
  rintro e w9 ⟨rfl, rfl⟩
  go_wp2
  refine wp_range (gf := 124) (lb := #[]) (N := 38) (X := RnX) (T := fun _ _ => False) (C := fun _ => False) rfl (enters_of Try.func124 (by kernel_rfl) rfl)
    (fun W _ _ => all_gives W) (fun _ h => h.elim) ?hX (fun k W => RuIn w tb kb g w9.heap.size k W) (fun _ _ _ => False)
    (fun k A A' h hb => h.on hb) (fun _ _ _ _ h _ => h) H9.out
    (fun k args a' W => ∃ x : Int, (∃ h : k < rowsL.length, x = rowsL[k].1) ∧ args = #[.int .i32 x] ∧ RuIn w tb kb g w9.heap.size k W ∧ a' = { tmps := #[Value.int IntKind.i32 r, Value.agg #[Value.int IntKind.i32 p.fst, Value.bool p.snd.fst, Value.int IntKind.i32 p.snd.snd], undef, Value.pointer (some { block := w.heap.size, off := 0 }), Value.pointer (some { block := w.heap.size + 1, off := 0 }), Value.pointer (some { block := t1, off := 0 }), Value.bool ok, Value.pointer (some { block := t2, off := 0 }), Value.bool ok, Value.pointer (some { block := tb, off := 0 }), Value.pointer (some { block := kb, off := 0 }), .int .i32 x, Value.bool true, Value.bool false, Value.tuple #[Value.agg #[Value.bool t.vow, Value.int IntKind.i64 t.hgt, Value.int IntKind.i64 t.bck, Value.bool t.rnd, Value.int IntKind.i64 t.plc, Value.int IntKind.i64 t.mnr, Value.bool t.vcd], Value.bool ok], Value.int IntKind.i32 r, Value.tuple #[Value.agg #[Value.bool t.vow, Value.int IntKind.i64 t.hgt, Value.int IntKind.i64 t.bck, Value.bool t.rnd, Value.int IntKind.i64 t.plc, Value.int IntKind.i64 t.mnr, Value.bool t.vcd], Value.bool ok], Value.agg #[Value.bool t.vow, Value.int IntKind.i64 t.hgt, Value.int IntKind.i64 t.bck, Value.bool t.rnd, Value.int IntKind.i64 t.plc, Value.int IntKind.i64 t.mnr, Value.bool t.vcd], Value.bool ok, Value.tuple #[Value.agg #[Value.bool t.vow, Value.int IntKind.i64 t.hgt, Value.int IntKind.i64 t.bck, Value.bool t.rnd, Value.int IntKind.i64 t.plc, Value.int IntKind.i64 t.mnr, Value.bool t.vcd], Value.bool ok], Value.int IntKind.i32 r, Value.tuple #[Value.agg #[Value.bool t.vow, Value.int IntKind.i64 t.hgt, Value.int IntKind.i64 t.bck, Value.bool t.rnd, Value.int IntKind.i64 t.plc, Value.int IntKind.i64 t.mnr, Value.bool t.vcd], Value.bool ok], Value.agg #[Value.bool t.vow, Value.int IntKind.i64 t.hgt, Value.int IntKind.i64 t.bck, Value.bool t.rnd, Value.int IntKind.i64 t.plc, Value.int IntKind.i64 t.mnr, Value.bool t.vcd], Value.bool ok, Value.agg #[Value.bool t.vow, Value.int IntKind.i64 t.hgt, Value.int IntKind.i64 t.bck, Value.bool t.rnd, Value.int IntKind.i64 t.plc, Value.int IntKind.i64 t.mnr, Value.bool t.vcd], Value.agg #[Value.bool t.vow, Value.int IntKind.i64 t.hgt, Value.int IntKind.i64 t.bck, Value.bool t.rnd, Value.int IntKind.i64 t.plc, Value.int IntKind.i64 t.mnr, Value.bool t.vcd], Value.bool false, Value.bool false, Value.bool ok, Value.bool ok, Value.bool false, Value.bool false, Value.bool false, Value.agg #[Value.int IntKind.i32 p.fst, Value.bool p.snd.fst, Value.int IntKind.i32 p.snd.snd], Value.bool (isF p), Value.agg #[Value.int IntKind.i32 p.fst, Value.bool p.snd.fst, Value.int IntKind.i32 p.snd.snd], Value.bool (isF p), Value.bool false, Value.bool false, Value.bool false, Value.agg #[Value.int IntKind.i32 p.fst, Value.bool p.snd.fst, Value.int IntKind.i32 p.snd.snd], Value.int IntKind.i64 (sonF p), Value.agg #[Value.int IntKind.i32 p.fst, Value.bool p.snd.fst, Value.int IntKind.i32 p.snd.snd], Value.int IntKind.i64 (sonF p), Value.bool false, Value.bool false, Value.slice (some { block := g, off := 0 }) 38 38, Value.func (Fn.func 124) #[] #[], .int .i32 x, undef, undef, undef, undef, undef, undef, undef, undef, undef, undef, undef, undef, undef, undef, undef, undef, undef, undef, undef, undef, undef, undef], defers := [] })
    ?hAx ?assign ?body ?done ?stop
  case hX =>
    rintro k args W ⟨h, rfl⟩
    exact ⟨rfl, fun b h => h.elim⟩
  case hAx =>
    rintro k args a' A A' ⟨x, h1, h2, h3, h4⟩ ho _ _
    exact ⟨x, h1, h2, h3.stay ho (fun b e => by omega), h4⟩
  case assign =>
    rintro l k args W hk hI ⟨h, rfl⟩ hsz
    have HI := Lib.hid hI
    clear hI
    simp only [List.zip_toArray, List.zip_cons_cons, List.zip_nil_right, List.foldl_toArray', List.foldl_cons, List.foldl_nil]
    gi_wp2
    exact ⟨Only.refl _ _, rowsL[k].1, ⟨h, rfl⟩, rfl, HI.out, rfl⟩
  case body =>
    rintro l k args a₁ W hk ⟨x, ⟨hl, hx⟩, rfl, hI, rfl⟩ hsz
    have ct : W.cell? ⟨tb, 0, none⟩ = some (.slice (some ⟨g, 0, none⟩) 38 38) := hI.bt.cell 0
    have ck : W.cell? ⟨kb, 0, none⟩ = some (.int .i64 k) := hI.bk.cell 0
    have fk : W.frozen? ⟨kb, 0, none⟩ = false := hI.bk.frozen 0
    have cg : W.cell? ⟨g, 0 + k * 8, none⟩ = some (.int .i32 x) := by
      rw [hI.bg.cell, hx, List.getElem?_toArray, Nat.zero_add]
      have := flat_at rowC 8 rowC_len rowsL k hl 0 (by omega)
      rw [Nat.add_zero] at this
      exact this
    have cg' : W.cell? ⟨g, k * 8, none⟩ = some (.int .i32 x) := by rw [← cg, Nat.zero_add]
    have HI := Lib.hid hI
    have wf : ∀ k, Fence.wide.fn k := fun _ => trivial
    have wd : Fence.wide.depth = none := rfl
    have d1 : decide ((38 : Int) ≤ (k : Int)) = false := by simp; omega
    have n1 : (x != x) = false := by simp
    have i1 : (0 : Int) ≤ (k : Int) := by omega
    have i2 : (k : Int) < 38 := by omega
    clear hI hx
    gi_wp2
    have l2 := HI.out.l2
    refine ⟨(Only.refl _ _).setCell (.inl (.inl ⟨l2.2.1, fun h => h⟩)) _, ?_⟩
    have hset := HI.out.set (k + 1)
    exact hset
  case done =>
    rintro W hI hmk
    have ct : W.cell? ⟨tb, 0, none⟩ = some (.slice (some ⟨g, 0, none⟩) 38 38) := hI.bt.cell 0
    have ck : W.cell? ⟨kb, 0, none⟩ = some (.int .i64 38) := hI.bk.cell 0
    have l1 := hI.l1
    have l2 := hI.l2
    have HI := Lib.hid (And.intro hI (show Marks (w.heap.size + 2) [{ target := .collected w9.heap.size, args := #[] }] W from ⟨w9.heap.size, rfl, by omega, hmk, fun d hd => (by simp at hd), trivial⟩))
    clear hI hmk l1 l2
    go_wp2_with fail
    refine (works_any W).mono ?_
    rintro e wz ⟨rfl, hb⟩
    have hbr := HI.out.1.br.below hb HI.out.1.br.lt
    have r0 : wz.cell? ⟨w.heap.size + 1, 0, none⟩ = some (.bool false) := hbr.cell 0
    have r1 : wz.frozen? ⟨w.heap.size + 1, 0, none⟩ = false := hbr.frozen 0
    have HZ := Lib.hid (And.intro hbr (And.intro (HI.out.2.below hb) (HI.out.1.below.trans (hb.mono HI.out.1.below.size))))
    clear hb HI hbr ct ck
    go_wp2
    refine bodyPostM_ret (HZ.out.2.1.setCell HZ.out.1 0 (.bool true)) ?_
    exact ru_end HZ.out.1 HZ.out.2.2 _ rfl
  case stop =>
    rintro c k W _ _ h _
    exact h.elim
end Go.Proofs.Ytogofchpocoebaa
