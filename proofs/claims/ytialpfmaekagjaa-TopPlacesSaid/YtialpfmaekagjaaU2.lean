/- Map.Byte: the place at or ahead of a byte. -/
import Derived.Test.YtialpfmaekagjaaN8
import Derived.Test.YtialpfmaekagjaaQ1
namespace Go.Proofs.Ytialpfmaekagjaa
open Go.RowKit

set_option maxRecDepth 100000 in
set_option maxHeartbeats 8000000 in
theorem byte_any (w : World) (M : Nat) (s : ByteArray) (X Y : Option Addr) (C D : Nat) (fl : List Ln) (h : MpSt w M s X C Y D (plL s) fl) (hs : s.size ≤ 65536) (n : Nat) (hn : n ≤ s.size) (K : Nat) (p : Pl) (hp : (plL s)[K]? = some p) (hle : p.b ≤ n) (hhi : ∀ i q, K < i → (plL s)[i]? = some q → n < q.b) :
    Calls Try.prog 11 #[.pointer (some ⟨M, 0, none⟩), .int .i64 n] w fun e w' => e = .returned (.tuple #[plV p, .int .i64 ((n : Int) - (p.b : Int)), .int .i64 0]) ∧ Below w.heap.size w w' := by
  have hlen : (plL s).length ≤ 70000 := by have := pl_len s; have := pl_many s; omega
  have HL : Hid (∀ W, Below w.heap.size w W → Calls Try.prog 22 #[.pointer (some ⟨M, 0, none⟩), .int .i64 n, .func (.func 23) #[] #[]] W fun e w' => e = .returned (plV p) ∧ Below W.heap.size W w') := Lib.hid fun W hW =>
    last_byte W M s X Y C D (plL s) fl (h.on hW) hlen n K p hp (fun i q hi hq => Nat.le_trans (pl_le s hi hq hp).1 hle) hhi
  have x0 : w.cell? ⟨M, 0, none⟩ = some (.string s) := h.blk.cell 0
  have hM := h.blk.lt
  have hd1 : decide ((n : Int) < 0) = false := decide_eq_false (by omega)
  have hd2 : decide ((s.size : Int) < (n : Int)) = false := decide_eq_false (by omega)
  have hd3 : decide (s.size < n) = false := decide_eq_false (by omega)
  clear hlen h hhi hp
  have hm : M < w.heap.size := hM
  go_enter Try.func11, Try.ntmps11
  go_upto_region 3 with (fail)
  refine wp_abs (fun wx => wx.cell? ⟨M, 0, none⟩ = some (.string s) ∧ Blk wx w.heap.size 29 #[.int .i64 0, .int .i64 0, .int .i64 0, .int .i64 0, .int .i64 0] ∧ Below w.heap.size w wx) ⟨((Only.of_below ((Below.refl _ _).alloc (Nat.le_refl _) _) (fun _ => False)).cell hm id).trans x0, Blk.new _ _ _, (Below.refl _ _).alloc (Nat.le_refl _) _⟩ ?_
  clear x0
  rintro w1 ⟨x0, hr, hb⟩
  have HB := Lib.hid (And.intro hr hb)
  have HS := Lib.hid (And.intro hs hn)
  clear hr hb hs hn hM hm
  go_wp2_with fail
  refine (HL.out _ HB.out.2).mono ?_
  rintro e w2 ⟨rfl, hb⟩
  have HB2 := Lib.hid (And.intro (HB.out.1.below hb HB.out.1.lt) (HB.out.2.trans (hb.mono HB.out.2.size)))
  have HW := Lib.hid (And.intro HB.out.1.lt hb.size)
  clear hb HB HL x0 hd1 hd2 hd3
  unfold plV
  go_upto_region 6 with (fail)
  obtain ⟨g, hg⟩ : ∃ g, w2.heap.size = g := ⟨_, rfl⟩
  refine wp_abs (fun wx => Blk wx w2.heap.size 29 (plA p) ∧ Blk wx w.heap.size 29 #[.int .i64 0, .int .i64 0, .int .i64 0, .int .i64 0, .int .i64 0] ∧ Below w.heap.size w wx) ⟨Blk.new _ _ _, HB2.out.1.alloc _, HB2.out.2.alloc HB2.out.2.size _⟩ ?_
  have HN := Lib.hid (show w.heap.size < g by have := HW.out; omega)
  rw [hg]
  clear hg HW HB2
  rintro w3 ⟨hv, hr, hb⟩
  have g0 : w3.cell? ⟨g, 0, none⟩ = some (.int .i64 p.b) := hv.cell 0
  have g1 : w3.cell? ⟨g, 1, none⟩ = some (.int .i64 p.r) := hv.cell 1
  have g2 : w3.cell? ⟨g, 2, none⟩ = some (.int .i64 p.u) := hv.cell 2
  have g3 : w3.cell? ⟨g, 3, none⟩ = some (.int .i64 p.l) := hv.cell 3
  have g4 : w3.cell? ⟨g, 4, none⟩ = some (.int .i64 p.c) := hv.cell 4
  have r0 : w3.cell? ⟨w.heap.size, 0, none⟩ = some _ := hr.cell 0
  have r1 : w3.cell? ⟨w.heap.size, 1, none⟩ = some _ := hr.cell 1
  have r2 : w3.cell? ⟨w.heap.size, 2, none⟩ = some _ := hr.cell 2
  have r3 : w3.cell? ⟨w.heap.size, 3, none⟩ = some _ := hr.cell 3
  have r4 : w3.cell? ⟨w.heap.size, 4, none⟩ = some _ := hr.cell 4
  have f0 : w3.frozen? ⟨w.heap.size, 0, none⟩ = false := hr.frozen 0
  have f1 : w3.frozen? ⟨w.heap.size, 1, none⟩ = false := hr.frozen 1
  have f2 : w3.frozen? ⟨w.heap.size, 2, none⟩ = false := hr.frozen 2
  have f3 : w3.frozen? ⟨w.heap.size, 3, none⟩ = false := hr.frozen 3
  have f4 : w3.frozen? ⟨w.heap.size, 4, none⟩ = false := hr.frozen 4
  have HR := Lib.hid (And.intro hr hb)
  have hwr : IntKind.i64.wrap ((n : Int) - (p.b : Int)) = (n : Int) - (p.b : Int) := by have := HS.out; exact IntWalk.i64_in _ (by omega)
  have hne1 : g ≠ w.heap.size := by have := HN.out; omega
  have hne2 : w.heap.size ≠ g := by have := HN.out; omega
  clear hv hr hb
  go_region
  refine exit_abs (fun wx => Blk wx w.heap.size 29 (plA p) ∧ Below w.heap.size w wx) ⟨(put_blk HR.out.1 p).drew, bdrew (put_below HR.out.2 (Nat.le_refl _) p)⟩ ?_
  clear g0 g1 g2 g3 g4 r0 r1 r2 r3 r4 f0 f1 f2 f3 f4 HR hwr hne1 hne2
  rintro w4 ⟨h2, hb2⟩
  have r0 : w4.cell? ⟨w.heap.size, 0, none⟩ = some (.int .i64 p.b) := h2.cell 0
  have r1 : w4.cell? ⟨w.heap.size, 1, none⟩ = some (.int .i64 p.r) := h2.cell 1
  have r2 : w4.cell? ⟨w.heap.size, 2, none⟩ = some (.int .i64 p.u) := h2.cell 2
  have r3 : w4.cell? ⟨w.heap.size, 3, none⟩ = some (.int .i64 p.l) := h2.cell 3
  have r4 : w4.cell? ⟨w.heap.size, 4, none⟩ = some (.int .i64 p.c) := h2.cell 4
  clear h2
  have HB := Lib.hid hb2
  clear hb2
  go_wp2
  refine bodyPost_ret (v := .tuple #[plV p, .int .i64 ((n : Int) - (p.b : Int)), .int .i64 0]) ?_ rfl ⟨rfl, HB.out⟩
  generalize w.heap.size = N at *
  simp [results, Try.results11, go_sem, plV, r0, r1, r2, r3, r4]
end Go.Proofs.Ytialpfmaekagjaa
