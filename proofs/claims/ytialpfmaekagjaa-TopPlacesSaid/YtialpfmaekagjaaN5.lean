/- Map.Rune, Map.Line of places that are there. -/
import Derived.Test.YtialpfmaekagjaaN4
namespace Go.Proofs.Ytialpfmaekagjaa
open Go.RowKit

theorem bdrewN {B : Nat} {w w' : World} (h : Below B w w') (n : Nat) : Below B w (w'.drewN n) := ⟨h.os, h.tape, h.output, h.size, h.block⟩
theorem rune_any (w : World) (M : Nat) (s : ByteArray) (X Y : Option Addr) (C D : Nat) (pl : List Pl) (fl : List Ln) (h : MpSt w M s X C Y D pl fl) (k : Nat) (p : Pl) (hp : pl[k]? = some p) : Calls Try.prog 19 #[.pointer (some ⟨M, 0, none⟩), .int .i64 k] w fun e w' => e = .returned (.tuple #[plV p, .int .i64 0]) ∧ Below w.heap.size w w' := by
  have H := Lib.hid h
  clear h
  go_enter Try.func19, Try.ntmps19
  go_upto_region 3 with (fail)
  refine wp_abs (fun wx => MpSt wx M s X C Y D pl fl ∧ Blk wx w.heap.size 29 #[.int .i64 0, .int .i64 0, .int .i64 0, .int .i64 0, .int .i64 0] ∧ Below w.heap.size w wx) ⟨H.out.on ((Below.refl _ _).alloc (Nat.le_refl _) _), Blk.new _ _ _, (Below.refl _ _).alloc (Nat.le_refl _) _⟩ ?_
  rintro w1 ⟨h1, hr, hb⟩
  clear H
  obtain ⟨hk, hp⟩ := List.getElem?_eq_some_iff.1 hp
  obtain ⟨b, o, rfl, hlt, p0, p1, p2, p3, p4⟩ := h1.place hk
  rw [hp] at p0 p1 p2 p3 p4
  have x1 : w1.cell? ⟨M, 1, none⟩ = some (.slice (some ⟨b, o, none⟩) pl.length C) := h1.blk.cell 1
  have hd1 : decide ((k : Int) < 0) = false := decide_eq_false (by omega)
  have hd2 : decide ((pl.length : Int) ≤ (k : Int)) = false := decide_eq_false (by omega)
  have r0 : w1.cell? ⟨w.heap.size, 0, none⟩ = some _ := hr.cell 0
  have r1 : w1.cell? ⟨w.heap.size, 1, none⟩ = some _ := hr.cell 1
  have r2 : w1.cell? ⟨w.heap.size, 2, none⟩ = some _ := hr.cell 2
  have r3 : w1.cell? ⟨w.heap.size, 3, none⟩ = some _ := hr.cell 3
  have r4 : w1.cell? ⟨w.heap.size, 4, none⟩ = some _ := hr.cell 4
  have f0 : w1.frozen? ⟨w.heap.size, 0, none⟩ = false := hr.frozen 0
  have f1 : w1.frozen? ⟨w.heap.size, 1, none⟩ = false := hr.frozen 1
  have f2 : w1.frozen? ⟨w.heap.size, 2, none⟩ = false := hr.frozen 2
  have f3 : w1.frozen? ⟨w.heap.size, 3, none⟩ = false := hr.frozen 3
  have f4 : w1.frozen? ⟨w.heap.size, 4, none⟩ = false := hr.frozen 4
  have HR := Lib.hid (And.intro hr hb)
  clear h1 hlt hr hb hp
  generalize pl.length = n at *
  go_wp2
  have hP := put_blk HR.out.1 p
  have hB := put_below HR.out.2 (Nat.le_refl _) p
  clear x1 p0 p1 p2 p3 p4 r0 r1 r2 r3 r4 f0 f1 f2 f3 f4 HR
  unfold putP at hP hB
  generalize ((((w1.setCell ⟨w.heap.size, 0, none⟩ (.int .i64 p.b)).setCell ⟨w.heap.size, 1, none⟩ (.int .i64 p.r)).setCell ⟨w.heap.size, 2, none⟩ (.int .i64 p.u)).setCell ⟨w.heap.size, 3, none⟩ (.int .i64 p.l)).setCell ⟨w.heap.size, 4, none⟩ (.int .i64 p.c) = w2 at *
  have r0 : w2.cell? ⟨w.heap.size, 0, none⟩ = some (.int .i64 p.b) := hP.cell 0
  have r1 : w2.cell? ⟨w.heap.size, 1, none⟩ = some (.int .i64 p.r) := hP.cell 1
  have r2 : w2.cell? ⟨w.heap.size, 2, none⟩ = some (.int .i64 p.u) := hP.cell 2
  have r3 : w2.cell? ⟨w.heap.size, 3, none⟩ = some (.int .i64 p.l) := hP.cell 3
  have r4 : w2.cell? ⟨w.heap.size, 4, none⟩ = some (.int .i64 p.c) := hP.cell 4
  refine bodyPost_ret (v := .tuple #[plV p, .int .i64 0]) ?_ rfl ⟨rfl, hB⟩
  generalize w.heap.size = N at *
  simp [results, Try.results19, go_sem, plV, r0, r1, r2, r3, r4]

set_option maxRecDepth 100000 in
set_option maxHeartbeats 8000000 in
theorem line_any (w : World) (M : Nat) (s : ByteArray) (X Y : Option Addr) (C D : Nat) (pl : List Pl) (fl : List Ln) (h : MpSt w M s X C Y D pl fl) (i c fk : Nat) (p : Pl) (hfk : (fl.map (·.k))[i]? = some fk) (hp : pl[fk + c]? = some p) (hl : p.l = i) (hn : pl.length ≤ 70000) : Calls Try.prog 21 #[.pointer (some ⟨M, 0, none⟩), .int .i64 i, .int .i64 c] w fun e w' => e = .returned (.tuple #[plV p, .int .i64 0]) ∧ Below w.heap.size w w' := by
  have H := Lib.hid h
  clear h
  go_enter Try.func21, Try.ntmps21
  go_upto_region 3 with (fail)
  refine wp_abs (fun wx => MpSt wx M s X C Y D pl fl ∧ Blk wx w.heap.size 29 #[.int .i64 0, .int .i64 0, .int .i64 0, .int .i64 0, .int .i64 0] ∧ Below w.heap.size w wx) ⟨H.out.on ((Below.refl _ _).alloc (Nat.le_refl _) _), Blk.new _ _ _, (Below.refl _ _).alloc (Nat.le_refl _) _⟩ ?_
  rintro w1 ⟨h1, hr, hb⟩
  clear H
  rw [List.getElem?_map, Option.map_eq_some_iff] at hfk
  obtain ⟨ln, hfk, hfk2⟩ := hfk
  obtain ⟨hi, hfk⟩ := List.getElem?_eq_some_iff.1 hfk
  obtain ⟨hk, hp⟩ := List.getElem?_eq_some_iff.1 hp
  obtain ⟨b2, o2, rfl, hlt2, l3⟩ := h1.line hi
  rw [hfk, hfk2] at l3
  clear hfk hfk2
  obtain ⟨b, o, rfl, hlt, p0, p1, p2, p3, p4⟩ := h1.place hk
  have x1 : w1.cell? ⟨M, 1, none⟩ = some (.slice (some ⟨b, o, none⟩) pl.length C) := h1.blk.cell 1
  have x2 : w1.cell? ⟨M, 2, none⟩ = some (.slice (some ⟨b2, o2, none⟩) fl.length D) := h1.blk.cell 2
  rw [hp] at p0 p1 p2 p3 p4
  clear hp
  have hd1 : decide ((i : Int) < 0) = false := decide_eq_false (by omega)
  have hd2 : decide ((fl.length : Int) ≤ (i : Int)) = false := decide_eq_false (by omega)
  have hd3 : decide ((c : Int) < 0) = false := decide_eq_false (by omega)
  have hd4 : decide ((pl.length : Int) - (fk : Int) ≤ (c : Int)) = false := decide_eq_false (by omega)
  generalize pl.length = n at *
  generalize fl.length = nf at *
  have r0 : w1.cell? ⟨w.heap.size, 0, none⟩ = some _ := hr.cell 0
  have r1 : w1.cell? ⟨w.heap.size, 1, none⟩ = some _ := hr.cell 1
  have r2 : w1.cell? ⟨w.heap.size, 2, none⟩ = some _ := hr.cell 2
  have r3 : w1.cell? ⟨w.heap.size, 3, none⟩ = some _ := hr.cell 3
  have r4 : w1.cell? ⟨w.heap.size, 4, none⟩ = some _ := hr.cell 4
  have f0 : w1.frozen? ⟨w.heap.size, 0, none⟩ = false := hr.frozen 0
  have f1 : w1.frozen? ⟨w.heap.size, 1, none⟩ = false := hr.frozen 1
  have f2 : w1.frozen? ⟨w.heap.size, 2, none⟩ = false := hr.frozen 2
  have f3 : w1.frozen? ⟨w.heap.size, 3, none⟩ = false := hr.frozen 3
  have f4 : w1.frozen? ⟨w.heap.size, 4, none⟩ = false := hr.frozen 4
  have hd5 : decide (nf ≤ i) = false := decide_eq_false (by omega)
  have hwr : IntKind.i64.wrap ((n : Int) - (fk : Int)) = (n : Int) - (fk : Int) := IntWalk.i64_in _ (by omega)
  have H1 := Lib.hid (And.intro (And.intro p0 (And.intro p1 (And.intro p2 (And.intro p3 p4)))) (And.intro l3 (And.intro x1 (And.intro x2 (And.intro hr (And.intro hb (And.intro hlt (And.intro hlt2 h1.blk.lt))))))))
  have HK := Lib.hid (And.intro hk (And.intro hi hl))
  clear h1 hr hb hlt hlt2
  go_upto_region 3 with (fail)
  go_quiet (fail)
  refine exit_abs (fun wx => ((wx.cell? ⟨b, o + (fk + c) * 5, none⟩ = some (.int .i64 p.b) ∧ wx.cell? ⟨b, o + (fk + c) * 5 + 1, none⟩ = some (.int .i64 p.r) ∧ wx.cell? ⟨b, o + (fk + c) * 5 + 2, none⟩ = some (.int .i64 p.u) ∧ wx.cell? ⟨b, o + (fk + c) * 5 + 3, none⟩ = some (.int .i64 p.l) ∧ wx.cell? ⟨b, o + (fk + c) * 5 + 4, none⟩ = some (.int .i64 p.c)) ∧
    wx.cell? ⟨b2, o2 + i * 4 + 3, none⟩ = some (.int .i64 fk) ∧ wx.cell? ⟨M, 1, none⟩ = some (.slice (some ⟨b, o, none⟩) n C) ∧ wx.cell? ⟨M, 2, none⟩ = some (.slice (some ⟨b2, o2, none⟩) nf D) ∧
    Blk wx w.heap.size 29 #[.int .i64 0, .int .i64 0, .int .i64 0, .int .i64 0, .int .i64 0] ∧ Below w.heap.size w wx ∧ b < wx.heap.size ∧ b2 < wx.heap.size ∧ M < wx.heap.size)) ⟨H1.out.1, H1.out.2.1, H1.out.2.2.1, H1.out.2.2.2.1, H1.out.2.2.2.2.1, bdrewN H1.out.2.2.2.2.2.1 _, H1.out.2.2.2.2.2.2⟩ ?_
  clear p0 p1 p2 p3 p4 l3 x1 x2 r0 r1 r2 r3 r4 f0 f1 f2 f3 f4 H1 hd1 hd2 hd3 hd4 hd5 hwr
  rintro w2 ⟨⟨p0, p1, p2, p3, p4⟩, l3, x1, x2, hr, hb, hlt, hlt2, hltM⟩
  have hltr := hr.lt
  have HR := Lib.hid (And.intro hr hb)
  clear hr hb
  have hne1 : b ≠ w2.heap.size := by omega
  have hne2 : b2 ≠ w2.heap.size := by omega
  have hne3 : M ≠ w2.heap.size := by omega
  have hne4 : w.heap.size ≠ w2.heap.size := by omega
  have hkb := HK.out.1
  obtain ⟨k, hk2⟩ : ∃ k, fk + c = k := ⟨_, rfl⟩
  rw [hk2] at p0 p1 p2 p3 p4 hkb
  have hsum : (fk : Int) + (c : Int) = (k : Int) := by omega
  have hk7 : k ≤ 70000 := by omega
  clear hk2
  go_upto_region 5 with (fail)
  go_region
  obtain ⟨N2, hN2⟩ : ∃ N, w2.heap.size = N := ⟨_, rfl⟩
  refine exit_abs (fun wx => Blk wx w2.heap.size 29 #[.int .i64 p.b, .int .i64 p.r, .int .i64 p.u, .int .i64 i, .int .i64 p.c] ∧ Blk wx w.heap.size 29 #[.int .i64 0, .int .i64 0, .int .i64 0, .int .i64 0, .int .i64 0] ∧ Below w.heap.size w wx) ⟨(Blk.new _ _ _).drew, (HR.out.1.alloc _).drew, bdrew (HR.out.2.alloc HR.out.2.size _)⟩ ?_
  have HN := Lib.hid (show w.heap.size < N2 by omega)
  rw [hN2]
  clear p0 p1 p2 p3 p4 l3 x1 x2 HR hlt hlt2 hltM hltr hne1 hne2 hne3 hne4 hsum hkb hk7 hN2
  rintro w3 ⟨hv, hr, hb⟩
  have p0 : w3.cell? ⟨N2, 0, none⟩ = some (.int .i64 p.b) := hv.cell 0
  have p1 : w3.cell? ⟨N2, 1, none⟩ = some (.int .i64 p.r) := hv.cell 1
  have p2 : w3.cell? ⟨N2, 2, none⟩ = some (.int .i64 p.u) := hv.cell 2
  have p3 : w3.cell? ⟨N2, 3, none⟩ = some (.int .i64 i) := hv.cell 3
  have p4 : w3.cell? ⟨N2, 4, none⟩ = some (.int .i64 p.c) := hv.cell 4
  have HLI := Lib.hid HK.out.2.2
  clear hl
  have r0 : w3.cell? ⟨w.heap.size, 0, none⟩ = some _ := hr.cell 0
  have r1 : w3.cell? ⟨w.heap.size, 1, none⟩ = some _ := hr.cell 1
  have r2 : w3.cell? ⟨w.heap.size, 2, none⟩ = some _ := hr.cell 2
  have r3 : w3.cell? ⟨w.heap.size, 3, none⟩ = some _ := hr.cell 3
  have r4 : w3.cell? ⟨w.heap.size, 4, none⟩ = some _ := hr.cell 4
  have f0 : w3.frozen? ⟨w.heap.size, 0, none⟩ = false := hr.frozen 0
  have f1 : w3.frozen? ⟨w.heap.size, 1, none⟩ = false := hr.frozen 1
  have f2 : w3.frozen? ⟨w.heap.size, 2, none⟩ = false := hr.frozen 2
  have f3 : w3.frozen? ⟨w.heap.size, 3, none⟩ = false := hr.frozen 3
  have f4 : w3.frozen? ⟨w.heap.size, 4, none⟩ = false := hr.frozen 4
  have hP := Lib.hid (put_blk hr p)
  have hB := Lib.hid (put_below hb (Nat.le_refl _) p)
  clear hv hr hb
  go_wp2
  have hP2 := hP.out
  have hB2 := hB.out
  clear p0 p1 p2 p3 p4 r0 r1 r2 r3 r4 f0 f1 f2 f3 f4 hP hB
  unfold putP plA at hP2
  unfold putP at hB2
  rw [HLI.out] at hP2 hB2
  have hP3 := hP2
  clear hP2
  generalize ((((w3.setCell ⟨w.heap.size, 0, none⟩ (.int .i64 p.b)).setCell ⟨w.heap.size, 1, none⟩ (.int .i64 p.r)).setCell ⟨w.heap.size, 2, none⟩ (.int .i64 p.u)).setCell ⟨w.heap.size, 3, none⟩ (.int .i64 i)).setCell ⟨w.heap.size, 4, none⟩ (.int .i64 p.c) = w4 at *
  have r0 : w4.cell? ⟨w.heap.size, 0, none⟩ = some (.int .i64 p.b) := hP3.cell 0
  have r1 : w4.cell? ⟨w.heap.size, 1, none⟩ = some (.int .i64 p.r) := hP3.cell 1
  have r2 : w4.cell? ⟨w.heap.size, 2, none⟩ = some (.int .i64 p.u) := hP3.cell 2
  have r3 : w4.cell? ⟨w.heap.size, 3, none⟩ = some (.int .i64 i) := hP3.cell 3
  have r4 : w4.cell? ⟨w.heap.size, 4, none⟩ = some (.int .i64 p.c) := hP3.cell 4
  refine bodyPost_ret (v := .tuple #[plV p, .int .i64 0]) ?_ rfl ⟨rfl, hB2⟩
  unfold plV
  rw [HLI.out]
  generalize w.heap.size = N at *
  simp [results, Try.results21, go_sem, r0, r1, r2, r3, r4]
end Go.Proofs.Ytialpfmaekagjaa
