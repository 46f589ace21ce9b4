/- The law SyllableSplits, walked. -/
import Derived.Test.YtogofchpocoebaaW26
import Derived.Test.YtogofchpocoebaaW16
import Derived.Test.YtogofchpocoebaaS3
namespace Go.Proofs.Ytogofchpocoebaa
open Go.RowKit Go.Maps

/-- memory while the law SyllableSplits runs: its arguments and the copy -/
structure SsSt (w0 : World) (A S X : Option Addr) (n m : Nat) (l : List Ph) (st : List Int) (W : World) : Prop where
  below : Below w0.heap.size w0 W
  r0 : Rd W 0 W.heap.size 3 A n (phs l)
  r2 : Rd W 0 W.heap.size 1 S m (ints st)
  r1 : Rd W 0 W.heap.size 3 X n (phs l)
theorem SsSt.on {w0 : World} {A S X : Option Addr} {n m : Nat} {l : List Ph} {st : List Int} {W W' : World} (h : SsSt w0 A S X n m l st W) (hb : Below W.heap.size W W') : SsSt w0 A S X n m l st W' :=
  ⟨h.below.trans (hb.mono h.below.size), h.r0.up hb hb.size, h.r2.up hb hb.size, h.r1.up hb hb.size⟩

set_option maxHeartbeats 16000000 in
set_option maxRecDepth 100000 in
theorem syllableSplits_any (A S : Option Addr) (n c m d : Nat) (N : Int) (l : List Ph) (st : List Int) (rule : Int) (w : World) (h : Rd w 0 w.heap.size 3 A n (phs l)) (h2 : Rd w 0 w.heap.size 1 S m (ints st)) (hf : ∀ p ∈ l, fitP p) (hnc : n ≤ c) (hn : n * 12 ≤ 140737488351232) (hm : m * 8 ≤ 140737488351232) :
    Calls Try.prog 24 #[.slice A n c, .int .i64 N, .slice S m d, .int .i64 rule] w fun e w' => e = .returned (.bool true) ∧ Below w.heap.size w w' := by
  obtain ⟨i0, hi, hz0, hz1, hz2⟩ := info_parts info43'
  have HI := Lib.hid (And.intro hi (And.intro hz0 (And.intro hz1 hz2)))
  obtain ⟨j0, hj, jz0, jz1, jz2⟩ := info_parts info3a
  have HJ := Lib.hid (And.intro hj (And.intro jz0 (And.intro jz1 jz2)))
  clear hi hz0 hz1 hz2 hj jz0 jz1 jz2
  have HF := Lib.hid hf
  have H := Lib.hid (And.intro h h2)
  have HL := Lib.hid (And.intro h.len_ph h2.len_int)
  have HN := Lib.hid (show n ≤ maxLen ∧ m ≤ maxLen by unfold maxLen; omega)
  obtain ⟨hh, hhe, hhn⟩ : ∃ hh : Nat, min (max N 0) (n : Int) = (hh : Int) ∧ hh ≤ n := ⟨(min (max N 0) (n : Int)).toNat, by omega, by omega⟩
  clear hf h h2
  go_enter Try.func24, Try.ntmps24
  go_wp2_with fail
  refine (works11_any _).mono ?_
  rintro e w1 ⟨rfl, hb⟩
  have H1 := Lib.hid (And.intro hb (And.intro (H.out.1.up hb hb.size) (H.out.2.up hb hb.size)))
  clear hb
  go_wp2_with fail
  refine (cloneH_any A n c 0 _ l _ H1.out.2.1 hn).mono ?_
  rintro e w2 ⟨A', C', rfl, ho, hb⟩
  have H2 := Lib.hid (And.intro (H1.out.1.trans (hb.mono H1.out.1.size)) (And.intro hb (And.intro ho hb.size)))
  clear hb ho
  go_wp2_with (at_builtin; go_must (refine wpList_append_rd _ rfl _ _ 22 rfl w1.heap.size 43 i0 (.agg #[.int .i32 0, .bool false, .int .i32 0]) 3 12 Try.underlying22 HI.out.1 HI.out.2.1 HI.out.2.2.1 HI.out.2.2.2 rfl (by decide) _ _ _ rfl (H2.out.2.2.1.alloc _) _ _ _ 1 1 _ rfl (rd_new _ _ _ _ rfl) (by simp [Value.oneCell']) (by unfold maxLen; omega) (by omega) (by have := H2.out.2.2.2; simp; omega) ?_; intro v4 w4 _ hown hgrow _; obtain ⟨g4, c4, rfl, _, _⟩ := hown.form (by omega); have hcap := (own_cap hown).1; have hb4 : Below w1.heap.size w2 w4 := ((Below.refl _ w2).alloc H2.out.2.2.2 _).grown hgrow (by have := H2.out.2.2.2; simp; omega) (fun k hk => (H2.out.2.2.1.lt k hk).1); have hb1 := H2.out.2.1.trans hb4; have hS : SsSt w A S (some ⟨g4, 0, none⟩) n m l st w4 := ⟨H1.out.1.trans (hb1.mono H1.out.1.size), H1.out.2.1.up hb1 hb1.size, H1.out.2.2.up hb1 hb1.size, (rd_front (own_rd hown) (phs_len l ▸ HL.out.1 ▸ rfl) (by omega)).more (Nat.zero_le _) (Nat.le_refl _)⟩; have HS := Lib.hid hS; clear hown hgrow hS hb4 hb1))
  clear H2 H1
  refine (split_any _ n c4 0 _ l _ HS.out.r1 (Nat.le_refl _) (by omega) HF.out).mono ?_
  rintro e w5 ⟨v5, rfl, ho5, hb⟩
  obtain ⟨D5, d5, rfl⟩ := own_slice ho5
  have HC5 := Lib.hid (own_cap ho5)
  have H5 := Lib.hid (And.intro (HS.out.on hb) ((own_rd ho5).more (Nat.zero_le _) (Nat.le_refl _)))
  clear hb HS ho5
  go_wp2_with fail
  refine (refSplit_any A n c 0 _ l _ H5.out.1.r0 (Nat.le_refl _) HN.out.1 hnc).mono ?_
  rintro e w6 ⟨v6, rfl, ho6, hb⟩
  obtain ⟨D6, d6, rfl⟩ := own_slice ho6
  have HC6 := Lib.hid (own_cap ho6)
  have H6 := Lib.hid (And.intro (H5.out.1.on hb) (And.intro (H5.out.2.up hb hb.size) ((own_rd ho6).more (Nat.zero_le _) (Nat.le_refl _))))
  clear hb H5 ho6
  generalize spE l = E1 at *
  generalize spL l = s1 at *
  go_wp2_with fail
  refine (cloneI_any' S m d 0 _ st _ H6.out.1.r2 hm).mono ?_
  rintro e w7 ⟨A', C', rfl, ho, hb⟩
  have H7 := Lib.hid (And.intro hb (And.intro ho hb.size))
  clear hb ho
  go_wp2_with (at_builtin; go_must (refine wpList_append_rd _ rfl _ _ 71 rfl w6.heap.size 3 j0 (.int .i64 0) 1 8 Try.underlying71 HJ.out.1 HJ.out.2.1 HJ.out.2.2.1 HJ.out.2.2.2 rfl (by decide) _ _ _ rfl (H7.out.2.1.alloc _) _ _ _ 1 1 _ rfl (rd_new _ _ _ _ rfl) (by simp [Value.oneCell']) (by unfold maxLen; omega) (by omega) (by have := H7.out.2.2; simp; omega) ?_; intro v8 w8 _ hown hgrow _; obtain ⟨g8, c8, rfl, _, _⟩ := hown.form (by omega); have hcap8 := (own_cap hown).1; have hb8 : Below w6.heap.size w7 w8 := ((Below.refl _ w7).alloc H7.out.2.2 _).grown hgrow (by have := H7.out.2.2; simp; omega) (fun k hk => (H7.out.2.1.lt k hk).1); have hb1 := H7.out.1.trans hb8; have HS8 := Lib.hid (And.intro (H6.out.1.on hb1) (And.intro (And.intro (H6.out.2.1.up hb1 hb1.size) (H6.out.2.2.up hb1 hb1.size)) ((rd_front (n := m) (own_rd hown) (by rw [ints_len, HL.out.2, Nat.mul_one]) (by omega)).more (Nat.zero_le _) (Nat.le_refl _)))); clear hown hgrow hb8 hb1))
  clear H7 H6
  refine (lay_any _ (some ⟨g8, 0, none⟩) n c4 m c8 l st rule _ HS8.out.1.r1 HS8.out.2.2 (by omega) HN.out.1 HF.out).mono ?_
  rintro e w9 ⟨v9, rfl, ho9, hb⟩
  obtain ⟨D9, d9, rfl⟩ := own_slice ho9
  have HC9 := Lib.hid (own_cap ho9)
  have H9 := Lib.hid (And.intro (HS8.out.1.on hb) (And.intro (And.intro (HS8.out.2.1.1.up hb hb.size) (HS8.out.2.1.2.up hb hb.size)) ((own_rd ho9).more (Nat.zero_le _) (Nat.le_refl _))))
  clear hb HS8 ho9
  go_wp2_with fail
  refine (refLay_any A S n c m d l st rule _ H9.out.1.r0 H9.out.1.r2 hnc HN.out.1).mono ?_
  rintro e w10 ⟨v10, rfl, ho10, hb⟩
  obtain ⟨D10, d10, rfl⟩ := own_slice ho10
  have HC10 := Lib.hid (own_cap ho10)
  have H10 := Lib.hid (And.intro (H9.out.1.on hb) (And.intro (And.intro (H9.out.2.1.1.up hb hb.size) (H9.out.2.1.2.up hb hb.size)) (And.intro (H9.out.2.2.up hb hb.size) ((own_rd ho10).more (Nat.zero_le _) (Nat.le_refl _)))))
  clear hb H9 ho10
  generalize (layR l st rule).1 = s2 at *
  generalize (layR l st rule).2 = E2 at *
  have z1 : (0 : Int) ≤ (hh : Int) := by omega
  have z2 : (hh : Int) ≤ (c4 : Int) := by omega
  go_upto_region 9 with (fail)
  go_wp2_with fail
  refine (equalS_any D5 D6 _ d5 _ d6 0 0 _ _ s1 s1 _ H10.out.2.1.1 H10.out.2.1.2 (by have := HC5.out; omega) (by have := HC6.out; omega) (Nat.le_refl _) (Nat.le_refl _)).mono ?_
  rintro e w11 ⟨rfl, hb⟩
  rw [decide_eq_true (rfl : s1 = s1)]
  have H11 := Lib.hid (And.intro (H10.out.1.on hb) (And.intro (H10.out.2.2.1.up hb hb.size) (H10.out.2.2.2.up hb hb.size)))
  clear hb H10
  go_wp2_with fail
  refine (equalS_any D9 D10 _ d9 _ d10 0 0 _ _ s2 s2 _ H11.out.2.1 H11.out.2.2 (by have := HC9.out; omega) (by have := HC10.out; omega) (Nat.le_refl _) (Nat.le_refl _)).mono ?_
  rintro e w12 ⟨rfl, hb⟩
  rw [decide_eq_true (rfl : s2 = s2)]
  have H12 := Lib.hid (H11.out.1.on hb)
  clear hb H11
  have HT := Lib.hid (show ∀ (W : World) (_ : SsSt w A S (some ⟨g4, 0, none⟩) n m l st W), Rd W 0 W.heap.size 3 (some ⟨g4, 0, none⟩) hh (phs (l.take hh)) from fun W h => by
    have h1 := h.r1
    rw [← List.take_append_drop hh l, phs_append] at h1
    exact rd_front h1 (by rw [phs_len, List.length_take]; have := HL.out.1; omega) hhn)
  have HFT := Lib.hid (show ∀ p ∈ l.take hh, fitP p from fun p hp => HF.out p (List.mem_of_mem_take hp))
  go_wp2_with fail
  refine (onset_any (some ⟨g4, 0, none⟩) hh c4 0 _ (l.take hh) _ (HT.out _ H12.out) (Nat.le_refl _) (by have := HN.out.1; omega) HFT.out).mono ?_
  rintro e w13 ⟨rfl, hb⟩
  have H13 := Lib.hid (H12.out.on hb)
  clear hb H12
  go_wp2_with fail
  refine (refOnset_any (some ⟨g4, 0, none⟩) hh c4 0 _ (l.take hh) _ (HT.out _ H13.out) (Nat.le_refl _) (by have := HN.out.1; omega)).mono ?_
  rintro e w14 ⟨rfl, hb⟩
  have H14 := Lib.hid (H13.out.on hb)
  clear hb H13
  generalize onsetF (l.take hh) = on at *
  go_wp2_with fail
  refine (equalH_any (some ⟨g4, 0, none⟩) A n c4 n c 0 0 _ _ l l _ H14.out.r1 H14.out.r0 HN.out.1 HN.out.1 (Nat.le_refl _) (Nat.le_refl _)).mono ?_
  rintro e w15 ⟨rfl, hb⟩
  rw [decide_eq_true (rfl : l = l)]
  have H15 := Lib.hid (H14.out.on hb)
  clear hb H14
  go_wp2_with fail
  refine (works11_any _).mono ?_
  rintro e w16 ⟨rfl, hb⟩
  have H16 := Lib.hid (H15.out.on hb).below
  clear hb H15
  go_wp2
  go_ret
  exact ⟨rfl, H16.out⟩
end Go.Proofs.Ytogofchpocoebaa
