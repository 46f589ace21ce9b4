/- Map.Byte of a byte that is not there; Map.Unit of a place. -/
import Derived.Test.YtialpfmaekagjaaU2
namespace Go.Proofs.Ytialpfmaekagjaa
open Go.RowKit


theorem byte_low (w : World) (M : Nat) (s : ByteArray) (X Y : Option Addr) (C D : Nat) (pl : List Pl) (fl : List Ln) (h : MpSt w M s X C Y D pl fl) (n : Int) (hn : n < 0) :
    Calls Try.prog 11 #[.pointer (some ⟨M, 0, none⟩), .int .i64 n] w fun e w' => e = .returned (.tuple #[plV pl0, .int .i64 0, .int .i64 5]) ∧ Below w.heap.size w w' := by
  have x0 : w.cell? ⟨M, 0, none⟩ = some (.string s) := h.blk.cell 0
  have hm := h.blk.lt
  have hd1 : decide (n < 0) = true := decide_eq_true hn
  clear h hn
  go_enter Try.func11, Try.ntmps11
  go_upto_region 3 with (fail)
  refine wp_abs (fun wx => wx.cell? ⟨M, 0, none⟩ = some (.string s) ∧ Blk wx w.heap.size 29 #[.int .i64 0, .int .i64 0, .int .i64 0, .int .i64 0, .int .i64 0] ∧ Below w.heap.size w wx) ⟨((Only.of_below ((Below.refl _ _).alloc (Nat.le_refl _) _) (fun _ => False)).cell hm id).trans x0, Blk.new _ _ _, (Below.refl _ _).alloc (Nat.le_refl _) _⟩ ?_
  clear x0 hm
  rintro w3 ⟨x0, hr, hb⟩
  have r0 : w3.cell? ⟨w.heap.size, 0, none⟩ = some _ := hr.cell 0
  have r1 : w3.cell? ⟨w.heap.size, 1, none⟩ = some _ := hr.cell 1
  have r2 : w3.cell? ⟨w.heap.size, 2, none⟩ = some _ := hr.cell 2
  have r3 : w3.cell? ⟨w.heap.size, 3, none⟩ = some _ := hr.cell 3
  have r4 : w3.cell? ⟨w.heap.size, 4, none⟩ = some _ := hr.cell 4
  have f0 : w3.frozen? ⟨w.heap.size, 0, none⟩ = false := hr.frozen 0
  have f1 : w3.frozen? ⟨w.heap.size, 1, none⟩ = false := hr.frozen 1
  have f2 : w3.frozen? ⟨w.heap.size, 2, none⟩ = false := hr.frozen 2
  have f3 : w3.frozen? ⟨w.heap.size, 3, none⟩ = false := hr.frozen 3
  have f4 : w3.frozen? ⟨w.heap.size, 4, none⟩ = false := hr.frozen 4
  have HR := Lib.hid (And.intro hr hb)
  clear hr hb
  go_wp2
  have hP := put_blk HR.out.1 pl0
  have hB := put_below HR.out.2 (Nat.le_refl _) pl0
  clear x0 r0 r1 r2 r3 r4 f0 f1 f2 f3 f4 HR hd1
  have e0 : ((pl0.b : Nat) : Int) = 0 := rfl
  have e1 : ((pl0.r : Nat) : Int) = 0 := rfl
  have e2 : ((pl0.u : Nat) : Int) = 0 := rfl
  have e3 : ((pl0.l : Nat) : Int) = 0 := rfl
  have e4 : ((pl0.c : Nat) : Int) = 0 := rfl
  unfold putP at hP hB
  rw [e0, e1, e2, e3, e4] at hP hB
  have hP2 := hP
  clear hP
  generalize ((((w3.setCell ⟨w.heap.size, 0, none⟩ (.int .i64 0)).setCell ⟨w.heap.size, 1, none⟩ (.int .i64 0)).setCell ⟨w.heap.size, 2, none⟩ (.int .i64 0)).setCell ⟨w.heap.size, 3, none⟩ (.int .i64 0)).setCell ⟨w.heap.size, 4, none⟩ (.int .i64 0) = w4 at *
  have r0 : w4.cell? ⟨w.heap.size, 0, none⟩ = some (.int .i64 0) := hP2.cell 0
  have r1 : w4.cell? ⟨w.heap.size, 1, none⟩ = some (.int .i64 0) := hP2.cell 1
  have r2 : w4.cell? ⟨w.heap.size, 2, none⟩ = some (.int .i64 0) := hP2.cell 2
  have r3 : w4.cell? ⟨w.heap.size, 3, none⟩ = some (.int .i64 0) := hP2.cell 3
  have r4 : w4.cell? ⟨w.heap.size, 4, none⟩ = some (.int .i64 0) := hP2.cell 4
  refine bodyPost_ret (v := .tuple #[plV pl0, .int .i64 0, .int .i64 5]) ?_ rfl ⟨rfl, hB⟩
  unfold plV
  rw [e0, e1, e2, e3, e4]
  generalize w.heap.size = N at *
  simp [results, Try.results11, go_sem, r0, r1, r2, r3, r4]

theorem byte_high (w : World) (M : Nat) (s : ByteArray) (X Y : Option Addr) (C D : Nat) (pl : List Pl) (fl : List Ln) (h : MpSt w M s X C Y D pl fl) (n : Int) (hn : (s.size : Int) < n) :
    Calls Try.prog 11 #[.pointer (some ⟨M, 0, none⟩), .int .i64 n] w fun e w' => e = .returned (.tuple #[plV pl0, .int .i64 0, .int .i64 5]) ∧ Below w.heap.size w w' := by
  have x0 : w.cell? ⟨M, 0, none⟩ = some (.string s) := h.blk.cell 0
  have hm := h.blk.lt
  have hd1 : decide (n < 0) = false := decide_eq_false (by omega)
  have hd2 : decide ((s.size : Int) < n) = true := decide_eq_true hn
  clear h hn
  go_enter Try.func11, Try.ntmps11
  go_upto_region 3 with (fail)
  refine wp_abs (fun wx => wx.cell? ⟨M, 0, none⟩ = some (.string s) ∧ Blk wx w.heap.size 29 #[.int .i64 0, .int .i64 0, .int .i64 0, .int .i64 0, .int .i64 0] ∧ Below w.heap.size w wx) ⟨((Only.of_below ((Below.refl _ _).alloc (Nat.le_refl _) _) (fun _ => False)).cell hm id).trans x0, Blk.new _ _ _, (Below.refl _ _).alloc (Nat.le_refl _) _⟩ ?_
  clear x0 hm
  rintro w3 ⟨x0, hr, hb⟩
  have r0 : w3.cell? ⟨w.heap.size, 0, none⟩ = some _ := hr.cell 0
  have r1 : w3.cell? ⟨w.heap.size, 1, none⟩ = some _ := hr.cell 1
  have r2 : w3.cell? ⟨w.heap.size, 2, none⟩ = some _ := hr.cell 2
  have r3 : w3.cell? ⟨w.heap.size, 3, none⟩ = some _ := hr.cell 3
  have r4 : w3.cell? ⟨w.heap.size, 4, none⟩ = some _ := hr.cell 4
  have f0 : w3.frozen? ⟨w.heap.size, 0, none⟩ = false := hr.frozen 0
  have f1 : w3.frozen? ⟨w.heap.size, 1, none⟩ = false := hr.frozen 1
  have f2 : w3.frozen? ⟨w.heap.size, 2, none⟩ = false := hr.frozen 2
  have f3 : w3.frozen? ⟨w.heap.size, 3, none⟩ = false := hr.frozen 3
  have f4 : w3.frozen? ⟨w.heap.size, 4, none⟩ = false := hr.frozen 4
  have HR := Lib.hid (And.intro hr hb)
  clear hr hb
  go_wp2
  have hP := put_blk HR.out.1 pl0
  have hB := put_below HR.out.2 (Nat.le_refl _) pl0
  clear x0 r0 r1 r2 r3 r4 f0 f1 f2 f3 f4 HR hd1 hd2
  have e0 : ((pl0.b : Nat) : Int) = 0 := rfl
  have e1 : ((pl0.r : Nat) : Int) = 0 := rfl
  have e2 : ((pl0.u : Nat) : Int) = 0 := rfl
  have e3 : ((pl0.l : Nat) : Int) = 0 := rfl
  have e4 : ((pl0.c : Nat) : Int) = 0 := rfl
  unfold putP at hP hB
  rw [e0, e1, e2, e3, e4] at hP hB
  have hP2 := hP
  clear hP
  generalize ((((w3.setCell ⟨w.heap.size, 0, none⟩ (.int .i64 0)).setCell ⟨w.heap.size, 1, none⟩ (.int .i64 0)).setCell ⟨w.heap.size, 2, none⟩ (.int .i64 0)).setCell ⟨w.heap.size, 3, none⟩ (.int .i64 0)).setCell ⟨w.heap.size, 4, none⟩ (.int .i64 0) = w4 at *
  have r0 : w4.cell? ⟨w.heap.size, 0, none⟩ = some (.int .i64 0) := hP2.cell 0
  have r1 : w4.cell? ⟨w.heap.size, 1, none⟩ = some (.int .i64 0) := hP2.cell 1
  have r2 : w4.cell? ⟨w.heap.size, 2, none⟩ = some (.int .i64 0) := hP2.cell 2
  have r3 : w4.cell? ⟨w.heap.size, 3, none⟩ = some (.int .i64 0) := hP2.cell 3
  have r4 : w4.cell? ⟨w.heap.size, 4, none⟩ = some (.int .i64 0) := hP2.cell 4
  refine bodyPost_ret (v := .tuple #[plV pl0, .int .i64 0, .int .i64 5]) ?_ rfl ⟨rfl, hB⟩
  unfold plV
  rw [e0, e1, e2, e3, e4]
  generalize w.heap.size = N at *
  simp [results, Try.results11, go_sem, r0, r1, r2, r3, r4]

theorem run_fldu (a b c d e : Int) (w : World) : (Instr.field 29 (.agg #[.int .i64 a, .int .i64 b, .int .i64 c, .int .i64 d, .int .i64 e]) 2).run Try.prog w = .ok (.int .i64 c) w := by kernel_rfl
theorem pl_end (s : ByteArray) {z : Pl} (hz : (plL s)[(owL s).length]? = some z) : ∃ q, plL s = q ++ [z] ∧ q.length = (owL s).length := by
  have hlen := pl_len s
  generalize (owL s).length = n at *
  generalize plL s = l at *
  refine ⟨l.take n, ?_, by simp; omega⟩
  obtain ⟨hn, hz⟩ := List.getElem?_eq_some_iff.1 hz
  have h1 := List.take_append_getElem hn
  rw [hz] at h1
  rw [h1, List.take_of_length_le (by omega)]
set_option maxRecDepth 100000 in
set_option maxHeartbeats 8000000 in
theorem unit_any (w : World) (M : Nat) (s : ByteArray) (X Y : Option Addr) (C D : Nat) (fl : List Ln) (h : MpSt w M s X C Y D (plL s) fl) (hs : s.size ≤ 65536) (K : Nat) (p : Pl) (hp : (plL s)[K]? = some p) :
    Calls Try.prog 20 #[.pointer (some ⟨M, 0, none⟩), .int .i64 p.u] w fun e w' => e = .returned (.tuple #[plV p, .int .i64 0, .int .i64 0]) ∧ Below w.heap.size w w' := by
  have hlen : (plL s).length ≤ 70000 := by have := pl_len s; have := pl_many s; omega
  have HL : Hid (∀ W, Below w.heap.size w W → Calls Try.prog 22 #[.pointer (some ⟨M, 0, none⟩), .int .i64 p.u, .func (.func 32) #[] #[]] W fun e w' => e = .returned (plV p) ∧ Below W.heap.size W w') := Lib.hid fun W hW =>
    last_unit W M s X Y C D (plL s) fl (h.on hW) hlen p.u K p hp (fun i q hi hq => (pl_le s hi hq hp).2) (fun i q hi hq => (pl_lt s hi hp hq).2)
  obtain ⟨z, hz⟩ := pl_some s (Nat.le_refl (owL s).length)
  have HE : Hid (∀ W, Below w.heap.size w W → Calls Try.prog 12 #[.pointer (some ⟨M, 0, none⟩)] W fun e w' => e = .returned (plV z) ∧ Below W.heap.size W w') := Lib.hid fun W hW => by
    obtain ⟨q, hq⟩ := pl_end s hz
    exact end_any W M s X Y C D (plL s) fl (h.on hW) q z hq.1 (by have := pl_many s; have := hq.2; omega)
  have hzu : p.u ≤ z.u := (pl_le s (pl_in s hp).1 hp hz).2
  have hbu := pl_bound s _ (Nat.le_refl _) z hz
  have hmany := pl_many s
  obtain ⟨hm, hpu⟩ : M < w.heap.size ∧ p.u ≤ 200000 := ⟨h.blk.lt, by omega⟩
  have hd1 : decide ((p.u : Int) < 0) = false := decide_eq_false (by omega)
  have hd2 : decide ((z.u : Int) < (p.u : Int)) = false := decide_eq_false (by omega)
  have hd3 : decide (z.u < p.u) = false := decide_eq_false (by omega)
  have hfu : ∀ W, (Instr.field 29 (.agg #[.int .i64 z.b, .int .i64 z.r, .int .i64 z.u, .int .i64 z.l, .int .i64 z.c]) 2).run Try.prog W = .ok (.int .i64 z.u) W := fun W => run_fldu _ _ _ _ _ W
  clear hlen h hp hz hbu hmany
  go_enter Try.func20, Try.ntmps20
  go_upto_region 3 with (fail)
  refine wp_abs (fun wx => Blk wx w.heap.size 29 #[.int .i64 0, .int .i64 0, .int .i64 0, .int .i64 0, .int .i64 0] ∧ Below w.heap.size w wx) ⟨Blk.new _ _ _, (Below.refl _ _).alloc (Nat.le_refl _) _⟩ ?_
  rintro w1 ⟨hr, hb⟩
  have HB := Lib.hid (And.intro hr hb)
  have HS := Lib.hid hpu
  clear hr hb hs hm hpu hzu
  go_wp2_with fail
  refine (HE.out _ HB.out.2).mono ?_
  rintro e wz ⟨rfl, hb⟩
  have HBz := Lib.hid (And.intro (HB.out.1.below hb HB.out.1.lt) (HB.out.2.trans (hb.mono HB.out.2.size)))
  clear hb HB HE
  unfold plV
  go_wp2_with fail
  refine (HL.out _ HBz.out.2).mono ?_
  rintro e w2 ⟨rfl, hb⟩
  have HB2 := Lib.hid (And.intro (HBz.out.1.below hb HBz.out.1.lt) (HBz.out.2.trans (hb.mono HBz.out.2.size)))
  have HW := Lib.hid (And.intro HBz.out.1.lt hb.size)
  clear hb HBz HL hd1 hd2 hd3 hfu
  unfold plV
  go_upto_region 6 with (fail)
  obtain ⟨g, hg⟩ : ∃ g, w2.heap.size = g := ⟨_, rfl⟩
  refine wp_abs (fun wx => Blk wx w2.heap.size 29 (plA p) ∧ Blk wx w.heap.size 29 #[.int .i64 0, .int .i64 0, .int .i64 0, .int .i64 0, .int .i64 0] ∧ Below w.heap.size w wx) ⟨Blk.new _ _ _, HB2.out.1.alloc _, HB2.out.2.alloc HB2.out.2.size _⟩ ?_
  have HN := Lib.hid (show w.heap.size < g by have := HW.out; omega)
  rw [hg]
  clear hg HW HB2
  rintro w3 ⟨hv, hr, hb⟩
  have g0 : w3.cell? ⟨g, 0, none⟩ = some (.int .i64 p.b) := hv.cell 0
  have g1 : w3.cell? ⟨g, 1, none⟩ = some (.int .i64 p.r) := hv.cell 1
  have g2 : w3.cell? ⟨g, 2, none⟩ = some (.int .i64 p.u) := hv.cell 2
  have g3 : w3.cell? ⟨g, 3, none⟩ = some (.int .i64 p.l) := hv.cell 3
  have g4 : w3.cell? ⟨g, 4, none⟩ = some (.int .i64 p.c) := hv.cell 4
  have r0 : w3.cell? ⟨w.heap.size, 0, none⟩ = some _ := hr.cell 0
  have r1 : w3.cell? ⟨w.heap.size, 1, none⟩ = some _ := hr.cell 1
  have r2 : w3.cell? ⟨w.heap.size, 2, none⟩ = some _ := hr.cell 2
  have r3 : w3.cell? ⟨w.heap.size, 3, none⟩ = some _ := hr.cell 3
  have r4 : w3.cell? ⟨w.heap.size, 4, none⟩ = some _ := hr.cell 4
  have f0 : w3.frozen? ⟨w.heap.size, 0, none⟩ = false := hr.frozen 0
  have f1 : w3.frozen? ⟨w.heap.size, 1, none⟩ = false := hr.frozen 1
  have f2 : w3.frozen? ⟨w.heap.size, 2, none⟩ = false := hr.frozen 2
  have f3 : w3.frozen? ⟨w.heap.size, 3, none⟩ = false := hr.frozen 3
  have f4 : w3.frozen? ⟨w.heap.size, 4, none⟩ = false := hr.frozen 4
  have HR := Lib.hid (And.intro hr hb)
  have hpu := HS.out
  have hne1 : g ≠ w.heap.size := by have := HN.out; omega
  have hne2 : w.heap.size ≠ g := by have := HN.out; omega
  clear hv hr hb
  go_region
  refine exit_abs (fun wx => Blk wx w.heap.size 29 (plA p) ∧ Below w.heap.size w wx) ⟨(put_blk HR.out.1 p).drew, bdrew (put_below HR.out.2 (Nat.le_refl _) p)⟩ ?_
  clear g0 g1 g2 g3 g4 r0 r1 r2 r3 r4 f0 f1 f2 f3 f4 HR hpu hne1 hne2
  rintro w4 ⟨h2, hb2⟩
  have r0 : w4.cell? ⟨w.heap.size, 0, none⟩ = some (.int .i64 p.b) := h2.cell 0
  have r1 : w4.cell? ⟨w.heap.size, 1, none⟩ = some (.int .i64 p.r) := h2.cell 1
  have r2 : w4.cell? ⟨w.heap.size, 2, none⟩ = some (.int .i64 p.u) := h2.cell 2
  have r3 : w4.cell? ⟨w.heap.size, 3, none⟩ = some (.int .i64 p.l) := h2.cell 3
  have r4 : w4.cell? ⟨w.heap.size, 4, none⟩ = some (.int .i64 p.c) := h2.cell 4
  clear h2
  have HB := Lib.hid hb2
  clear hb2
  go_wp2
  refine bodyPost_ret (v := .tuple #[plV p, .int .i64 0, .int .i64 0]) ?_ rfl ⟨rfl, HB.out⟩
  generalize w.heap.size = N at *
  simp [results, Try.results20, go_sem, plV, r0, r1, r2, r3, r4]

end Go.Proofs.Ytialpfmaekagjaa
