/- The law SyllableReads, walked. -/
import Derived.Test.YtogofchpocoebaaW22
import Derived.Test.YtogofchpocoebaaW10
import Derived.Test.YtogofchpocoebaaW11
namespace Go.Proofs.Ytogofchpocoebaa
open Go.RowKit Go.Maps

set_option maxHeartbeats 8000000 in
set_option maxRecDepth 100000 in
theorem syllableReads_any (s : ByteArray) (w : World) (hs : s.size ≤ maxLen) :
    Calls Try.prog 21 #[.string s] w fun e w' => e = .returned (.bool true) ∧ Below w.heap.size w w' := by
  go_enter Try.func21, Try.ntmps21
  go_wp2_with fail
  refine (works11_any _).mono ?_
  rintro e w1 ⟨rfl, hb⟩
  have H1 := Lib.hid hb
  clear hb
  have HRF := Lib.hid (fun W => refSread_any s W hs)
  have HRD := Lib.hid (fun W => sread_any s W hs)
  unfold SrPost at HRF
  generalize srL s.data.toList = R at *
  obtain ⟨l, ss, E, X⟩ := R
  dsimp only at HRF HRD
  go_wp2_with fail
  refine (HRD.out _).mono ?_
  rintro e w2 ⟨v0, v1, rfl, h0, h1, hb⟩
  obtain ⟨A, c, rfl⟩ := own_slice h0
  obtain ⟨D, d, rfl⟩ := own_slice h1
  have H2 := Lib.hid (And.intro (H1.out.trans (hb.mono H1.out.size)) (And.intro ((own_rd h0).more (Nat.zero_le _) (Nat.le_refl _)) ((own_rd h1).more (Nat.zero_le _) (Nat.le_refl _))))
  have HC := Lib.hid (And.intro (own_cap h0) (own_cap h1))
  clear hb h0 h1 H1
  go_upto_region 4 with (fail)
  refine wp_abs (fun wx => Below w2.heap.size w2 wx ∧ Blk wx w2.heap.size 68 #[.int .i64 E, .int .i64 X]) ⟨(Below.refl _ _).alloc (Nat.le_refl _) _, Blk.new _ _ _⟩ ?_
  rintro w3 ⟨hb, hX⟩
  have H3 := Lib.hid (And.intro (H2.out.1.trans (hb.mono H2.out.1.size)) (And.intro (H2.out.2.1.up hb hb.size) (And.intro (H2.out.2.2.up hb hb.size) hX)))
  clear hb hX H2
  generalize w2.heap.size = b1 at *
  go_wp2_with fail
  refine (HRF.out _).mono ?_
  rintro e w4 ⟨v0, v1, rfl, h0, h1, hb⟩
  obtain ⟨A4, c4, rfl⟩ := own_slice h0
  obtain ⟨D4, d4, rfl⟩ := own_slice h1
  have H4 := Lib.hid (And.intro (H3.out.1.trans (hb.mono H3.out.1.size)) (And.intro (H3.out.2.1.up hb hb.size) (And.intro (H3.out.2.2.1.up hb hb.size) (And.intro (H3.out.2.2.2.below hb H3.out.2.2.2.lt) (And.intro ((own_rd h0).more (Nat.zero_le _) (Nat.le_refl _)) ((own_rd h1).more (Nat.zero_le _) (Nat.le_refl _)))))))
  clear hb h0 h1 H3
  go_upto_region 5 with (fail)
  refine wp_abs (fun wx => Below w4.heap.size w4 wx ∧ Blk wx w4.heap.size 68 #[.int .i64 E, .int .i64 X]) ⟨(Below.refl _ _).alloc (Nat.le_refl _) _, Blk.new _ _ _⟩ ?_
  rintro w5 ⟨hb, hX⟩
  have z0 : w5.cell? ⟨w4.heap.size, 0, none⟩ = some (.int .i64 E) := hX.cell 0
  have z1 : w5.cell? ⟨w4.heap.size, 1, none⟩ = some (.int .i64 X) := hX.cell 1
  have hB1 := H4.out.2.2.2.1.below hb H4.out.2.2.2.1.lt
  have y0 : w5.cell? ⟨b1, 0, none⟩ = some (.int .i64 E) := hB1.cell 0
  have y1 : w5.cell? ⟨b1, 1, none⟩ = some (.int .i64 X) := hB1.cell 1
  have H5 := Lib.hid (And.intro (H4.out.1.trans (hb.mono H4.out.1.size)) (And.intro (H4.out.2.1.up hb hb.size) (And.intro (H4.out.2.2.1.up hb hb.size) (And.intro (H4.out.2.2.2.2.1.up hb hb.size) (H4.out.2.2.2.2.2.up hb hb.size)))))
  clear hb hX H4 hB1
  go_wp2_with fail
  refine (equalH_any A A4 _ c _ c4 0 0 _ _ l l _ H5.out.2.1 H5.out.2.2.2.1 (by have := HC.out.1; omega) (by have := HC.out.1; omega) (Nat.le_refl _) (Nat.le_refl _)).mono ?_
  rintro e w6 ⟨rfl, hb⟩
  rw [decide_eq_true (rfl : l = l)]
  have H6 := Lib.hid (And.intro (H5.out.1.trans (hb.mono H5.out.1.size)) (And.intro (H5.out.2.2.1.up hb hb.size) (H5.out.2.2.2.2.up hb hb.size)))
  clear hb H5 y0 y1 z0 z1
  go_wp2_with fail
  refine (equalS_any D D4 _ d _ d4 0 0 _ _ ss ss _ H6.out.2.1 H6.out.2.2 (by have := HC.out.2; omega) (by have := HC.out.2; omega) (Nat.le_refl _) (Nat.le_refl _)).mono ?_
  rintro e w7 ⟨rfl, hb⟩
  rw [decide_eq_true (rfl : ss = ss)]
  have H7 := Lib.hid (H6.out.1.trans (hb.mono H6.out.1.size))
  clear hb H6
  go_wp2_with fail
  refine (works11_any _).mono ?_
  rintro e w8 ⟨rfl, hb⟩
  have H8 := Lib.hid (H7.out.trans (hb.mono H7.out.size))
  clear hb H7
  go_wp2
  go_ret
  exact ⟨rfl, H8.out⟩
end Go.Proofs.Ytogofchpocoebaa
