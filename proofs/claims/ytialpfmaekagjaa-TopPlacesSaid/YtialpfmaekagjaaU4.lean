/- placed, inside: a place told in every way is that place. -/
import Derived.Test.YtialpfmaekagjaaU3
namespace Go.Proofs.Ytialpfmaekagjaa
open Go.RowKit

set_option maxRecDepth 100000 in
set_option maxHeartbeats 8000000 in
theorem placed_any (w : World) (M : Nat) (s : ByteArray) (X Y : Option Addr) (C D : Nat) (fl : List Ln) (h : MpSt w M s X C Y D (plL s) fl) (hf : fl.map (·.k) = fsL s) (hs : s.size ≤ 65536) (k : Nat) (p : Pl) (hp : (plL s)[k]? = some p) :
    Calls Try.prog 9 #[.pointer (some ⟨M, 0, none⟩), plV p] w fun e w' => e = .returned (.bool true) ∧ Below w.heap.size w w' := by
  have hlen : (plL s).length ≤ 70000 := by have := pl_len s; have := pl_many s; omega
  obtain ⟨fk, hfk, hfc⟩ := fs_at s hp
  have hr := (pl_bound s k (pl_in s hp).1 p hp).2.1
  have H1 : Hid (∀ W, Below w.heap.size w W → Calls Try.prog 11 #[.pointer (some ⟨M, 0, none⟩), .int .i64 p.b] W fun e w' => e = .returned (.tuple #[plV p, .int .i64 0, .int .i64 0]) ∧ Below W.heap.size W w') := Lib.hid fun W hW => by
    have := byte_any W M s X Y C D fl (h.on hW) hs p.b (pl_in s hp).2 k p hp (Nat.le_refl _) (fun i q hi hq => (pl_lt s hi hp hq).1)
    rw [Int.sub_self] at this
    exact this
  have H2 : Hid (∀ W, Below w.heap.size w W → Calls Try.prog 19 #[.pointer (some ⟨M, 0, none⟩), .int .i64 p.r] W fun e w' => e = .returned (.tuple #[plV p, .int .i64 0]) ∧ Below W.heap.size W w') := Lib.hid fun W hW =>
    rune_any W M s X Y C D (plL s) fl (h.on hW) p.r p (by rw [hr]; exact hp)
  have H3 : Hid (∀ W, Below w.heap.size w W → Calls Try.prog 20 #[.pointer (some ⟨M, 0, none⟩), .int .i64 p.u] W fun e w' => e = .returned (.tuple #[plV p, .int .i64 0, .int .i64 0]) ∧ Below W.heap.size W w') := Lib.hid fun W hW =>
    unit_any W M s X Y C D fl (h.on hW) hs k p hp
  have H4 : Hid (∀ W, Below w.heap.size w W → Calls Try.prog 21 #[.pointer (some ⟨M, 0, none⟩), .int .i64 p.l, .int .i64 p.c] W fun e w' => e = .returned (.tuple #[plV p, .int .i64 0]) ∧ Below W.heap.size W w') := Lib.hid fun W hW =>
    line_any W M s X Y C D (plL s) fl (h.on hW) p.l p.c fk p (by rw [hf]; exact hfk) (by rw [hfc]; exact hp) rfl hlen
  clear hlen hfk hfc hr h hf hs hp
  unfold plV
  go_enter Try.func9, Try.ntmps9
  go_upto_region 1 with (fail)
  refine wp_abs (fun wx => Blk wx w.heap.size 29 (plA p) ∧ Below w.heap.size w wx) ⟨Blk.new _ _ _, (Below.refl _ _).alloc (Nat.le_refl _) _⟩ ?_
  rintro w1 ⟨hv, hb⟩
  have c0 : w1.cell? ⟨w.heap.size, 0, none⟩ = some (.int .i64 p.b) := hv.cell 0
  have c1 : w1.cell? ⟨w.heap.size, 1, none⟩ = some (.int .i64 p.r) := hv.cell 1
  have c2 : w1.cell? ⟨w.heap.size, 2, none⟩ = some (.int .i64 p.u) := hv.cell 2
  have c3 : w1.cell? ⟨w.heap.size, 3, none⟩ = some (.int .i64 p.l) := hv.cell 3
  have c4 : w1.cell? ⟨w.heap.size, 4, none⟩ = some (.int .i64 p.c) := hv.cell 4
  have HB := Lib.hid (And.intro hv hb)
  clear hv hb
  go_wp2_with fail
  refine (H1.out _ HB.out.2).mono ?_
  rintro e v1 ⟨rfl, hb⟩
  have HV := Lib.hid (And.intro (HB.out.1.below hb HB.out.1.lt) (HB.out.2.trans (hb.mono HB.out.2.size)))
  clear hb HB H1 c0 c1 c2 c3 c4
  unfold plV
  go_upto_region 2 with (fail)
  obtain ⟨g1, hg1⟩ : ∃ g, v1.heap.size = g := ⟨_, rfl⟩
  refine wp_abs (fun wx => Blk wx v1.heap.size 29 (plA p) ∧ Blk wx w.heap.size 29 (plA p) ∧ Below w.heap.size w wx) ⟨Blk.new _ _ _, HV.out.1.alloc _, HV.out.2.alloc HV.out.2.size _⟩ ?_
  rw [hg1]
  clear hg1 HV
  rintro w2 ⟨hv, b0, hb⟩
  have c0 : w2.cell? ⟨w.heap.size, 0, none⟩ = some (.int .i64 p.b) := b0.cell 0
  have c1 : w2.cell? ⟨w.heap.size, 1, none⟩ = some (.int .i64 p.r) := b0.cell 1
  have c2 : w2.cell? ⟨w.heap.size, 2, none⟩ = some (.int .i64 p.u) := b0.cell 2
  have c3 : w2.cell? ⟨w.heap.size, 3, none⟩ = some (.int .i64 p.l) := b0.cell 3
  have c4 : w2.cell? ⟨w.heap.size, 4, none⟩ = some (.int .i64 p.c) := b0.cell 4
  have HB1 := Lib.hid (And.intro hv (And.intro b0 hb))
  clear hv b0 hb
  go_wp2_with fail
  refine (H2.out _ HB1.out.2.2).mono ?_
  rintro e v2 ⟨rfl, hb⟩
  have HV := Lib.hid (And.intro (HB1.out.1.below hb HB1.out.1.lt) (And.intro (HB1.out.2.1.below hb HB1.out.2.1.lt) (HB1.out.2.2.trans (hb.mono HB1.out.2.2.size))))
  clear hb HB1 H2 c0 c1 c2 c3 c4
  unfold plV
  go_upto_region 3 with (fail)
  obtain ⟨g2, hg2⟩ : ∃ g, v2.heap.size = g := ⟨_, rfl⟩
  refine wp_abs (fun wx => Blk wx v2.heap.size 29 (plA p) ∧ Blk wx g1 29 (plA p) ∧ Blk wx w.heap.size 29 (plA p) ∧ Below w.heap.size w wx) ⟨Blk.new _ _ _, HV.out.1.alloc _, HV.out.2.1.alloc _, HV.out.2.2.alloc HV.out.2.2.size _⟩ ?_
  rw [hg2]
  clear hg2 HV
  rintro w3 ⟨hv, b0, b1, hb⟩
  have c0 : w3.cell? ⟨w.heap.size, 0, none⟩ = some (.int .i64 p.b) := b1.cell 0
  have c1 : w3.cell? ⟨w.heap.size, 1, none⟩ = some (.int .i64 p.r) := b1.cell 1
  have c2 : w3.cell? ⟨w.heap.size, 2, none⟩ = some (.int .i64 p.u) := b1.cell 2
  have c3 : w3.cell? ⟨w.heap.size, 3, none⟩ = some (.int .i64 p.l) := b1.cell 3
  have c4 : w3.cell? ⟨w.heap.size, 4, none⟩ = some (.int .i64 p.c) := b1.cell 4
  have HB2 := Lib.hid (And.intro hv (And.intro b0 (And.intro b1 hb)))
  clear hv b0 b1 hb
  go_wp2_with fail
  refine (H3.out _ HB2.out.2.2.2).mono ?_
  rintro e v3 ⟨rfl, hb⟩
  have HV := Lib.hid (And.intro (HB2.out.1.below hb HB2.out.1.lt) (And.intro (HB2.out.2.1.below hb HB2.out.2.1.lt) (And.intro (HB2.out.2.2.1.below hb HB2.out.2.2.1.lt) (HB2.out.2.2.2.trans (hb.mono HB2.out.2.2.2.size)))))
  clear hb HB2 H3 c0 c1 c2 c3 c4
  unfold plV
  go_upto_region 4 with (fail)
  obtain ⟨g3, hg3⟩ : ∃ g, v3.heap.size = g := ⟨_, rfl⟩
  refine wp_abs (fun wx => Blk wx v3.heap.size 29 (plA p) ∧ Blk wx g2 29 (plA p) ∧ Blk wx g1 29 (plA p) ∧ Blk wx w.heap.size 29 (plA p) ∧ Below w.heap.size w wx) ⟨Blk.new _ _ _, HV.out.1.alloc _, HV.out.2.1.alloc _, HV.out.2.2.1.alloc _, HV.out.2.2.2.alloc HV.out.2.2.2.size _⟩ ?_
  rw [hg3]
  clear hg3 HV
  rintro w4 ⟨hv, b0, b1, b2, hb⟩
  have c0 : w4.cell? ⟨w.heap.size, 0, none⟩ = some (.int .i64 p.b) := b2.cell 0
  have c1 : w4.cell? ⟨w.heap.size, 1, none⟩ = some (.int .i64 p.r) := b2.cell 1
  have c2 : w4.cell? ⟨w.heap.size, 2, none⟩ = some (.int .i64 p.u) := b2.cell 2
  have c3 : w4.cell? ⟨w.heap.size, 3, none⟩ = some (.int .i64 p.l) := b2.cell 3
  have c4 : w4.cell? ⟨w.heap.size, 4, none⟩ = some (.int .i64 p.c) := b2.cell 4
  have HB3 := Lib.hid (And.intro hv (And.intro b0 (And.intro b1 (And.intro b2 hb))))
  clear hv b0 b1 b2 hb
  go_wp2_with fail
  refine (H4.out _ HB3.out.2.2.2.2).mono ?_
  rintro e v4 ⟨rfl, hb⟩
  have HV := Lib.hid (And.intro (HB3.out.1.below hb HB3.out.1.lt) (And.intro (HB3.out.2.1.below hb HB3.out.2.1.lt) (And.intro (HB3.out.2.2.1.below hb HB3.out.2.2.1.lt) (And.intro (HB3.out.2.2.2.1.below hb HB3.out.2.2.2.1.lt) (HB3.out.2.2.2.2.trans (hb.mono HB3.out.2.2.2.2.size))))))
  clear hb HB3 H4 c0 c1 c2 c3 c4
  unfold plV
  go_upto_region 5 with (fail)
  obtain ⟨g4, hg4⟩ : ∃ g, v4.heap.size = g := ⟨_, rfl⟩
  refine wp_abs (fun wx => Blk wx v4.heap.size 29 (plA p) ∧ Blk wx g3 29 (plA p) ∧ Blk wx g2 29 (plA p) ∧ Blk wx g1 29 (plA p) ∧ Blk wx w.heap.size 29 (plA p) ∧ Below w.heap.size w wx) ⟨Blk.new _ _ _, HV.out.1.alloc _, HV.out.2.1.alloc _, HV.out.2.2.1.alloc _, HV.out.2.2.2.1.alloc _, HV.out.2.2.2.2.alloc HV.out.2.2.2.2.size _⟩ ?_
  rw [hg4]
  clear hg4 HV
  rintro w5 ⟨hv, b0, b1, b2, b3, hb⟩
  have c0 : w5.cell? ⟨w.heap.size, 0, none⟩ = some (.int .i64 p.b) := b3.cell 0
  have c1 : w5.cell? ⟨w.heap.size, 1, none⟩ = some (.int .i64 p.r) := b3.cell 1
  have c2 : w5.cell? ⟨w.heap.size, 2, none⟩ = some (.int .i64 p.u) := b3.cell 2
  have c3 : w5.cell? ⟨w.heap.size, 3, none⟩ = some (.int .i64 p.l) := b3.cell 3
  have c4 : w5.cell? ⟨w.heap.size, 4, none⟩ = some (.int .i64 p.c) := b3.cell 4
  have HB4 := Lib.hid (And.intro hv (And.intro b0 (And.intro b1 (And.intro b2 (And.intro b3 hb)))))
  clear hv b0 b1 b2 b3 hb
  have da0 : w5.cell? ⟨g4, 0, none⟩ = some (.int .i64 p.b) := HB4.out.1.cell 0
  have da1 : w5.cell? ⟨g4, 1, none⟩ = some (.int .i64 p.r) := HB4.out.1.cell 1
  have da2 : w5.cell? ⟨g4, 2, none⟩ = some (.int .i64 p.u) := HB4.out.1.cell 2
  have da3 : w5.cell? ⟨g4, 3, none⟩ = some (.int .i64 p.l) := HB4.out.1.cell 3
  have da4 : w5.cell? ⟨g4, 4, none⟩ = some (.int .i64 p.c) := HB4.out.1.cell 4
  have db0 : w5.cell? ⟨g3, 0, none⟩ = some (.int .i64 p.b) := HB4.out.2.1.cell 0
  have db1 : w5.cell? ⟨g3, 1, none⟩ = some (.int .i64 p.r) := HB4.out.2.1.cell 1
  have db2 : w5.cell? ⟨g3, 2, none⟩ = some (.int .i64 p.u) := HB4.out.2.1.cell 2
  have db3 : w5.cell? ⟨g3, 3, none⟩ = some (.int .i64 p.l) := HB4.out.2.1.cell 3
  have db4 : w5.cell? ⟨g3, 4, none⟩ = some (.int .i64 p.c) := HB4.out.2.1.cell 4
  have dc0 : w5.cell? ⟨g2, 0, none⟩ = some (.int .i64 p.b) := HB4.out.2.2.1.cell 0
  have dc1 : w5.cell? ⟨g2, 1, none⟩ = some (.int .i64 p.r) := HB4.out.2.2.1.cell 1
  have dc2 : w5.cell? ⟨g2, 2, none⟩ = some (.int .i64 p.u) := HB4.out.2.2.1.cell 2
  have dc3 : w5.cell? ⟨g2, 3, none⟩ = some (.int .i64 p.l) := HB4.out.2.2.1.cell 3
  have dc4 : w5.cell? ⟨g2, 4, none⟩ = some (.int .i64 p.c) := HB4.out.2.2.1.cell 4
  have dd0 : w5.cell? ⟨g1, 0, none⟩ = some (.int .i64 p.b) := HB4.out.2.2.2.1.cell 0
  have dd1 : w5.cell? ⟨g1, 1, none⟩ = some (.int .i64 p.r) := HB4.out.2.2.2.1.cell 1
  have dd2 : w5.cell? ⟨g1, 2, none⟩ = some (.int .i64 p.u) := HB4.out.2.2.2.1.cell 2
  have dd3 : w5.cell? ⟨g1, 3, none⟩ = some (.int .i64 p.l) := HB4.out.2.2.2.1.cell 3
  have dd4 : w5.cell? ⟨g1, 4, none⟩ = some (.int .i64 p.c) := HB4.out.2.2.2.1.cell 4
  go_wp2
  go_ret
  exact ⟨rfl, HB4.out.2.2.2.2.2⟩


set_option maxRecDepth 100000 in
set_option maxHeartbeats 8000000 in
theorem inside_any (w : World) (M : Nat) (s : ByteArray) (X Y : Option Addr) (C D : Nat) (fl : List Ln) (h : MpSt w M s X C Y D (plL s) fl) (hs : s.size ≤ 65536) (k : Nat) (p : Pl) (hp : (plL s)[k]? = some p) (n : Nat) (hn : n ≤ s.size) (hle : p.b ≤ n) (hhi : ∀ i q, k < i → (plL s)[i]? = some q → n < q.b) :
    Calls Try.prog 10 #[.pointer (some ⟨M, 0, none⟩), plV p, .int .i64 n] w fun e w' => e = .returned (.bool true) ∧ Below w.heap.size w w' := by
  have H1 : Hid (∀ W, Below w.heap.size w W → Calls Try.prog 11 #[.pointer (some ⟨M, 0, none⟩), .int .i64 n] W fun e w' => e = .returned (.tuple #[plV p, .int .i64 ((n : Int) - (p.b : Int)), .int .i64 0]) ∧ Below W.heap.size W w') := Lib.hid fun W hW =>
    byte_any W M s X Y C D fl (h.on hW) hs n hn k p hp hle hhi
  have hwr : IntKind.i64.wrap ((n : Int) - (p.b : Int)) = (n : Int) - (p.b : Int) := IntWalk.i64_in _ (by omega)
  have hb1 : n ≤ 65536 := by omega
  have HW := Lib.hid (And.intro hwr (And.intro hb1 hle))
  clear h hs hp hhi hn hwr hb1 hle
  unfold plV
  go_enter Try.func10, Try.ntmps10
  go_upto_region 1 with (fail)
  refine wp_abs (fun wx => Blk wx w.heap.size 29 (plA p) ∧ Below w.heap.size w wx) ⟨Blk.new _ _ _, (Below.refl _ _).alloc (Nat.le_refl _) _⟩ ?_
  rintro w1 ⟨hv, hb⟩
  have HB := Lib.hid (And.intro hv hb)
  clear hv hb
  go_wp2_with fail
  refine (H1.out _ HB.out.2).mono ?_
  rintro e v1 ⟨rfl, hb⟩
  have HV := Lib.hid (And.intro (HB.out.1.below hb HB.out.1.lt) (HB.out.2.trans (hb.mono HB.out.2.size)))
  clear hb HB H1
  unfold plV
  go_upto_region 2 with (fail)
  obtain ⟨g, hg⟩ : ∃ g, v1.heap.size = g := ⟨_, rfl⟩
  refine wp_abs (fun wx => Blk wx v1.heap.size 29 (plA p) ∧ Blk wx w.heap.size 29 (plA p) ∧ Below w.heap.size w wx) ⟨Blk.new _ _ _, HV.out.1.alloc _, HV.out.2.alloc HV.out.2.size _⟩ ?_
  rw [hg]
  clear hg HV
  rintro w2 ⟨hv, hc, hb⟩
  have HB := Lib.hid hb
  clear hb
  have d0 : w2.cell? ⟨g, 0, none⟩ = some (.int .i64 p.b) := hv.cell 0
  have d1 : w2.cell? ⟨g, 1, none⟩ = some (.int .i64 p.r) := hv.cell 1
  have d2 : w2.cell? ⟨g, 2, none⟩ = some (.int .i64 p.u) := hv.cell 2
  have d3 : w2.cell? ⟨g, 3, none⟩ = some (.int .i64 p.l) := hv.cell 3
  have d4 : w2.cell? ⟨g, 4, none⟩ = some (.int .i64 p.c) := hv.cell 4
  have c0 : w2.cell? ⟨w.heap.size, 0, none⟩ = some (.int .i64 p.b) := hc.cell 0
  have c1 : w2.cell? ⟨w.heap.size, 1, none⟩ = some (.int .i64 p.r) := hc.cell 1
  have c2 : w2.cell? ⟨w.heap.size, 2, none⟩ = some (.int .i64 p.u) := hc.cell 2
  have c3 : w2.cell? ⟨w.heap.size, 3, none⟩ = some (.int .i64 p.l) := hc.cell 3
  have c4 : w2.cell? ⟨w.heap.size, 4, none⟩ = some (.int .i64 p.c) := hc.cell 4
  clear hv hc
  obtain ⟨hwr, hb1, hle⟩ := HW.out
  go_wp2
  go_ret
  exact ⟨rfl, HB.out⟩

end Go.Proofs.Ytialpfmaekagjaa
