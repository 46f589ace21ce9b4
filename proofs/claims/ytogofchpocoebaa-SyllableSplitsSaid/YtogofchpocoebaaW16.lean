/- The law SyllableStress, walked. -/
import Derived.Test.YtogofchpocoebaaW10
import Derived.Test.YtogofchpocoebaaW12
import Derived.Test.YtogofchpocoebaaW13
import Derived.Test.YtogofchpocoebaaW15
import Derived.Test.YtogofchpocoebaaS3
namespace Go.Proofs.Ytogofchpocoebaa
open Go.RowKit Go.Maps

/-- memory while the law SyllableStress runs: its arguments and the copy -/
structure SuSt (w0 : World) (A D X : Option Addr) (n m : Nat) (l lo : List Sy) (W : World) : Prop where
  below : Below w0.heap.size w0 W
  r0 : Rd W 0 W.heap.size 5 A n (sys l)
  r2 : Rd W 0 W.heap.size 5 D m (sys lo)
  r1 : Rd W 0 W.heap.size 5 X n (sys l)
theorem SuSt.on {w0 : World} {A D X : Option Addr} {n m : Nat} {l lo : List Sy} {W W' : World} (h : SuSt w0 A D X n m l lo W) (hb : Below W.heap.size W W') : SuSt w0 A D X n m l lo W' :=
  ⟨h.below.trans (hb.mono h.below.size), h.r0.up hb hb.size, h.r2.up hb hb.size, h.r1.up hb hb.size⟩

set_option maxHeartbeats 16000000 in
set_option maxRecDepth 100000 in
theorem syllableStress_any (A D : Option Addr) (n c m d : Nat) (l lo : List Sy) (rule : Int) (w : World) (h : Rd w 0 w.heap.size 5 A n (sys l)) (h2 : Rd w 0 w.heap.size 5 D m (sys lo)) (hn : n * 40 ≤ 140737488351232) (hm : m * 40 ≤ 140737488351232) :
    Calls Try.prog 26 #[.slice A n c, .slice D m d, .int .i64 rule] w fun e w' => e = .returned (.bool true) ∧ Below w.heap.size w w' := by
  obtain ⟨i0, hi, hz0, hz1, hz2⟩ := info_parts info37
  have HI := Lib.hid (And.intro hi (And.intro hz0 (And.intro hz1 hz2)))
  clear hi hz0 hz1 hz2
  have H := Lib.hid (And.intro h h2)
  have HL := Lib.hid h.len_sy
  have HN := Lib.hid (show n ≤ maxLen ∧ m ≤ maxLen ∧ n ≤ 140737488355327 ∧ n ≤ 140737488355328 by unfold maxLen; omega)
  clear h h2

  go_enter Try.func26, Try.ntmps26
  go_wp2_with fail
  refine (works11_any _).mono ?_
  rintro e w1 ⟨rfl, hb⟩
  have H1 := Lib.hid (And.intro hb (And.intro (H.out.1.up hb hb.size) (H.out.2.up hb hb.size)))
  clear hb
  go_wp2_with fail
  refine (cloneS_any A n c 0 _ l _ H1.out.2.1 hn).mono ?_
  rintro e w2 ⟨A', C', rfl, ho, hb⟩
  have H2 := Lib.hid (And.intro (H1.out.1.trans (hb.mono H1.out.1.size)) (And.intro hb (And.intro ho hb.size)))
  clear hb ho
  go_wp2_with (at_builtin; go_must (refine wpList_append_rd _ rfl _ _ 23 rfl w1.heap.size 37 i0 (.agg #[.int .i64 0, .int .i64 0, .int .i64 0, .int .i64 0, .bool false]) 5 40 Try.underlying23 HI.out.1 HI.out.2.1 HI.out.2.2.1 HI.out.2.2.2 rfl (by decide) _ _ _ rfl (H2.out.2.2.1.alloc _) _ _ _ 1 1 _ rfl (rd_new _ _ _ _ rfl) (by simp [Value.oneCell']) (by unfold maxLen; omega) (by omega) (by have := H2.out.2.2.2; simp; omega) ?_; intro v4 w4 _ hown hgrow _; obtain ⟨g4, c4, rfl, _, _⟩ := hown.form (by omega); have hcap := (own_cap hown).1; have hb4 : Below w1.heap.size w2 w4 := ((Below.refl _ w2).alloc H2.out.2.2.2 _).grown hgrow (by have := H2.out.2.2.2; simp; omega) (fun k hk => (H2.out.2.2.1.lt k hk).1); have hb1 := H2.out.2.1.trans hb4; have hS : SuSt w A D (some ⟨g4, 0, none⟩) n m l lo w4 := ⟨H1.out.1.trans (hb1.mono H1.out.1.size), H1.out.2.1.up hb1 hb1.size, H1.out.2.2.up hb1 hb1.size, (rd_front (own_rd hown) (sys_len l ▸ HL.out ▸ rfl) (by omega)).more (Nat.zero_le _) (Nat.le_refl _)⟩; have HS := Lib.hid hS; clear hown hgrow hS hb4 hb1))
  refine (stress_any _ n c4 0 _ l rule _ HS.out.r1 (Nat.le_refl _)).mono ?_
  rintro e w5 ⟨v5, rfl, ho5, hb⟩
  obtain ⟨D5, d5, rfl⟩ := own_slice ho5
  have hr5 := (own_rd ho5).more (Nat.zero_le _) (Nat.le_refl _)
  have HC5 := Lib.hid (own_cap ho5)
  have H5 := Lib.hid (And.intro (HS.out.on hb) hr5)
  clear hb HS H2 H1 ho5 hr5
  go_wp2_with fail
  refine (refStress_any A n c 0 _ l rule _ H5.out.1.r0 (Nat.le_refl _) HN.out.1).mono ?_
  rintro e w6 ⟨v6, rfl, ho6, hb⟩
  obtain ⟨D6, d6, rfl⟩ := own_slice ho6
  have hr6 := (own_rd ho6).more (Nat.zero_le _) (Nat.le_refl _)
  have HC6 := Lib.hid (own_cap ho6)
  have H6 := Lib.hid (And.intro (H5.out.1.on hb) (And.intro (H5.out.2.up hb hb.size) hr6))
  clear hb H5 ho6 hr6
  generalize stE l rule = E at *
  go_wp2_with fail
  refine (pattern_any _ n c4 0 _ l _ H6.out.1.r1 (Nat.le_refl _) HN.out.2.2.1).mono ?_
  rintro e w7 ⟨rfl, hb⟩
  have H7 := Lib.hid (And.intro (H6.out.1.on hb) (And.intro (H6.out.2.1.up hb hb.size) (H6.out.2.2.up hb hb.size)))
  clear hb H6
  go_wp2_with fail
  refine (refPattern_any A n c 0 _ l _ H7.out.1.r0 (Nat.le_refl _) HN.out.2.2.1).mono ?_
  rintro e w8 ⟨rfl, hb⟩
  have H8 := Lib.hid (And.intro (H7.out.1.on hb) (And.intro (H7.out.2.1.up hb hb.size) (H7.out.2.2.up hb hb.size)))
  clear hb H7
  generalize bts (ptT l) = PT at *
  generalize ptE l = PE at *
  go_wp2_with fail
  refine (equalS_any D5 D6 _ d5 _ d6 0 0 _ _ _ _ _ H8.out.2.1 H8.out.2.2 (by have := HC5.out; omega) (by have := HC6.out; omega) (Nat.le_refl _) (Nat.le_refl _)).mono ?_
  rintro e w9 ⟨rfl, hb⟩
  rw [decide_eq_true (rfl : stL l rule = stL l rule)]
  have H9 := Lib.hid (H8.out.1.on hb)
  clear hb H8 HC5 HC6
  generalize (stL l rule).length = SL at *
  go_wp2_with fail
  refine (weight_any _ n c4 0 _ l _ H9.out.r1 (Nat.le_refl _) HN.out.2.2.2).mono ?_
  rintro e w10 ⟨rfl, hb⟩
  have H10 := Lib.hid (H9.out.on hb)
  clear hb H9
  go_wp2_with fail
  refine (refWeight_any A n c 0 _ l _ H10.out.r0 (Nat.le_refl _) HN.out.2.2.2).mono ?_
  rintro e w11 ⟨rfl, hb⟩
  have H11 := Lib.hid (H10.out.on hb)
  clear hb H10
  generalize wtK l n = WT at *
  go_wp2_with fail
  refine (main_any _ n c4 0 _ l _ H11.out.r1 (Nat.le_refl _) HN.out.2.2.2).mono ?_
  rintro e w12 ⟨rfl, hb⟩
  have H12 := Lib.hid (H11.out.on hb)
  clear hb H11
  go_wp2_with fail
  refine (refMain_any A n c 0 _ l _ H12.out.r0 (Nat.le_refl _) HN.out.2.2.2).mono ?_
  rintro e w13 ⟨rfl, hb⟩
  have H13 := Lib.hid (H12.out.on hb)
  clear hb H12
  generalize mnF l = MN at *
  go_wp2_with fail
  refine (alike_any _ D n c4 m d 0 0 _ _ l lo _ H13.out.r1 H13.out.r2 HN.out.1 (Nat.le_refl _) (Nat.le_refl _)).mono ?_
  rintro e w14 ⟨rfl, hb⟩
  have H14 := Lib.hid (H13.out.on hb)
  clear hb H13
  go_wp2_with fail
  refine (refAlike_any A D n c m d 0 0 _ _ l lo _ H14.out.r0 H14.out.r2 HN.out.1 (Nat.le_refl _) (Nat.le_refl _)).mono ?_
  rintro e w15 ⟨rfl, hb⟩
  have H15 := Lib.hid (H14.out.on hb)
  clear hb H14
  generalize alikeF l lo = AL at *
  go_wp2_with fail
  refine (equalS_any _ A n c4 n c 0 0 _ _ l l _ H15.out.r1 H15.out.r0 HN.out.1 HN.out.1 (Nat.le_refl _) (Nat.le_refl _)).mono ?_
  rintro e w16 ⟨rfl, hb⟩
  have H16 := Lib.hid (H15.out.on hb)
  clear hb H15
  rw [decide_eq_true (rfl : l = l)]
  go_wp2_with fail
  refine (works11_any _).mono ?_
  rintro e w17 ⟨rfl, hb⟩
  have H17 := Lib.hid (H16.out.on hb)
  clear hb H16
  go_wp2
  go_ret
  exact ⟨rfl, H17.out.below⟩
end Go.Proofs.Ytogofchpocoebaa
