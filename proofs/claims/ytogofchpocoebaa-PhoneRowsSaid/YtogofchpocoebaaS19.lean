/- The law PhoneRows, walked. -/
import Derived.Test.YtogofchpocoebaaS18
import Derived.Test.YtogofchpocoebaaR4
namespace Go.Proofs.Ytogofchpocoebaa
open Go.RowKit Go.Maps

/-- memory while the law runs: both rows, their copies -/
structure RoSt (w0 : World) (A B X Y : Option Addr) (la lb : Nat) (a b : List Ph) (W : World) : Prop where
  below : Below w0.heap.size w0 W
  ra : Rd W 0 W.heap.size 3 A la (phs a)
  rb : Rd W 0 W.heap.size 3 B lb (phs b)
  rx : Rd W 0 W.heap.size 3 X la (phs a)
  ry : Rd W 0 W.heap.size 3 Y lb (phs b)
theorem RoSt.on {w0 : World} {A B X Y : Option Addr} {la lb : Nat} {a b : List Ph} {W W' : World} (h : RoSt w0 A B X Y la lb a b W) (hb : Below W.heap.size W W') : RoSt w0 A B X Y la lb a b W' :=
  ⟨h.below.trans (hb.mono h.below.size), h.ra.up hb hb.size, h.rb.up hb hb.size, h.rx.up hb hb.size, h.ry.up hb hb.size⟩
theorem alGo_len (a b : List Ph) : ∀ (f i k : Nat), (alGo a b f i k).length ≤ f := by
  intro f
  induction f with
  | zero => intro i k; exact Nat.le_refl _
  | succ f ih =>
    intro i k
    unfold alGo
    split
    · split
      · simp only [List.length_cons]; have := ih (i + 1) (k + 1); omega
      · split
        · simp only [List.length_cons]; have := ih (i + 1) k; omega
        · simp only [List.length_cons]; have := ih i (k + 1); omega
    · simp
/-- what Align hands over -/
def alR (a b : List Ph) : List (Int × Int) := if dsE a b = 0 then alL a b else []
theorem alR_len (a b : List Ph) : (alR a b).length ≤ a.length + b.length + 1 := by
  unfold alR
  split
  · exact alGo_len a b _ 0 0
  · simp

set_option maxHeartbeats 8000000 in
set_option maxRecDepth 100000 in
theorem phoneRows_any (A B : Option Addr) (la ca lb cb : Nat) (a b : List Ph) (most : Int) (w : World) (ha : Rd w 0 w.heap.size 3 A la (phs a)) (hb : Rd w 0 w.heap.size 3 B lb (phs b)) (fa : ∀ p ∈ a, fitP p) (fb : ∀ p ∈ b, fitP p) (hna : la * 12 ≤ 140737488351232) (hnb : lb * 12 ≤ 140737488351232) :
    Calls Try.prog 11 #[.slice A la ca, .slice B lb cb, .int .i64 most] w fun e w' => e = .returned (.bool true) ∧ Below w.heap.size w w' := by
  obtain ⟨i0, hi, hz0, hz1, hz2⟩ := info_parts info43'
  have HI := Lib.hid (And.intro hi (And.intro hz0 (And.intro hz1 hz2)))
  clear hi hz0 hz1 hz2
  have HF := Lib.hid (And.intro fa fb)
  have H := Lib.hid (And.intro ha hb)
  have HLA := Lib.hid ha.len_ph
  have HLB := Lib.hid hb.len_ph
  have HNA := Lib.hid (show la ≤ maxLen by unfold maxLen; omega)
  have HNB := Lib.hid (show lb ≤ maxLen by unfold maxLen; omega)
  have HWE := Lib.hid (show wiE a b most = if dsE a b = 0 then if most < 0 then 2 else 0 else dsE a b from rfl)
  have HWB := Lib.hid (show wiB a b most = (decide (dsE a b = 0) && decide (0 ≤ most) && decide (costF a b ≤ most)) from rfl)
  have HWV := Lib.hid (show wiV a b most = if wiB a b most then costF a b else 0 from rfl)
  have HDV := Lib.hid (show dsV a b = if dsE a b = 0 then costF a b else 0 from rfl)
  clear fa fb ha hb
  go_enter Try.func11, Try.ntmps11
  go_wp2_with fail
  refine (works_any _).mono ?_
  rintro e w1 ⟨rfl, hb⟩
  have H1 := Lib.hid (And.intro hb (And.intro (H.out.1.up hb hb.size) (H.out.2.up hb hb.size)))
  clear hb
  go_wp2_with fail
  refine (cloneH_any A la ca 0 _ a _ H1.out.2.1 hna).mono ?_
  rintro e w2 ⟨A', C', rfl, ho, hb⟩
  have H2 := Lib.hid (And.intro (H1.out.1.trans (hb.mono H1.out.1.size)) (And.intro hb (And.intro ho hb.size)))
  clear hb ho
  go_upto_region 4 with (at_builtin; go_must (refine wpList_append_rd _ rfl _ _ 22 rfl w1.heap.size 43 i0 (.agg #[.int .i32 0, .bool false, .int .i32 0]) 3 12 Try.underlying22 HI.out.1 HI.out.2.1 HI.out.2.2.1 HI.out.2.2.2 rfl (by decide) _ _ _ rfl (H2.out.2.2.1.alloc _) _ _ _ 1 1 _ rfl (rd_new _ _ _ _ rfl) (by simp [Value.oneCell']) (by unfold maxLen; omega) (by omega) (by have := H2.out.2.2.2; simp; omega) ?_; intro v4 w4 _ hown hgrow _; obtain ⟨g4, c4, rfl, _, _⟩ := hown.form (by omega); have hcap := (own_cap hown).1; have hb4 : Below w1.heap.size w2 w4 := ((Below.refl _ w2).alloc H2.out.2.2.2 _).grown hgrow (by have := H2.out.2.2.2; simp; omega) (fun k hk => (H2.out.2.2.1.lt k hk).1); have hb1 := H2.out.2.1.trans hb4; have hS : PpSt w A (some ⟨g4, 0, none⟩) la a w4 := ⟨H1.out.1.trans (hb1.mono H1.out.1.size), H1.out.2.1.up hb1 hb1.size, (rd_front (own_rd hown) (phs_len a ▸ HLA.out ▸ rfl) (by omega)).more (Nat.zero_le _) (Nat.le_refl _)⟩; have HS := Lib.hid (And.intro hS (H1.out.2.2.up hb1 hb1.size)); clear hown hgrow hS hb4 hb1))
  have HSa := Lib.hid HS.out
  have hcapa := hcap
  clear HS hcap H2 H1
  generalize hxa : (some ⟨g4, 0, none⟩ : Option Addr) = X at *
  go_wp2_with fail
  refine (cloneH_any B lb cb 0 _ b _ HSa.out.2 hnb).mono ?_
  rintro e w5 ⟨B', D', rfl, ho, hb⟩
  have H5 := Lib.hid (And.intro (HSa.out.1.on hb) (And.intro hb (And.intro ho (And.intro hb.size (HSa.out.2.up hb hb.size)))))
  clear hb ho
  go_upto_region 5 with (at_builtin; go_must (refine wpList_append_rd _ rfl _ _ 22 rfl w4.heap.size 43 i0 (.agg #[.int .i32 0, .bool false, .int .i32 0]) 3 12 Try.underlying22 HI.out.1 HI.out.2.1 HI.out.2.2.1 HI.out.2.2.2 rfl (by decide) _ _ _ rfl (H5.out.2.2.1.alloc _) _ _ _ 1 1 _ rfl (rd_new _ _ _ _ rfl) (by simp [Value.oneCell']) (by unfold maxLen; omega) (by omega) (by have := H5.out.2.2.2.1; simp; omega) ?_; intro v7 w7 _ hown hgrow _; obtain ⟨g7, c7, rfl, _, _⟩ := hown.form (by omega); have hcap := (own_cap hown).1; have hb7 : Below w4.heap.size w5 w7 := ((Below.refl _ w5).alloc H5.out.2.2.2.1 _).grown hgrow (by have := H5.out.2.2.2.1; simp; omega) (fun k hk => (H5.out.2.2.1.lt k hk).1); have hb1 := H5.out.2.1.trans hb7; have hS : RoSt w A B X (some ⟨g7, 0, none⟩) la lb a b w7 := ⟨(HSa.out.1.on hb1).below, (HSa.out.1.on hb1).r0, HSa.out.2.up hb1 hb1.size, (HSa.out.1.on hb1).r1, (rd_front (own_rd hown) (phs_len b ▸ HLB.out ▸ rfl) (by omega)).more (Nat.zero_le _) (Nat.le_refl _)⟩; have HS := Lib.hid hS; clear hown hgrow hS hb7 hb1))
  clear HSa H5
  generalize hya : (some ⟨g7, 0, none⟩ : Option Addr) = Y at *
  go_wp2_with fail
  refine (distance_any X Y la _ lb _ 0 0 a b _ HS.out.rx HS.out.ry HF.out.1 HF.out.2).mono ?_
  rintro e w8 ⟨rfl, hb⟩
  have H8 := Lib.hid (HS.out.on hb)
  clear hb HS
  go_wp2_with fail
  refine (refDistance_any A B la ca lb cb 0 _ 0 _ a b _ H8.out.ra H8.out.rb (Nat.le_refl _) (Nat.le_refl _)).mono ?_
  rintro e w9 ⟨rfl, hb⟩
  have H9 := Lib.hid (H8.out.on hb)
  clear hb H8
  go_wp2_with fail
  refine (align_any X Y la _ lb _ 0 0 a b _ H9.out.rx H9.out.ry HF.out.1 HF.out.2).mono ?_
  rintro e wA ⟨vA, rfl, hoA', hb⟩
  have hoA : wA.ownsRow w9.heap.size 95 2 vA (alR a b).length (prs (alR a b)) := hoA'
  clear hoA'
  obtain ⟨PA, cA, rfl⟩ := own_slice hoA
  have HA := Lib.hid (And.intro (H9.out.on hb) (own_rd hoA))
  clear hb H9 hoA
  go_wp2_with fail
  refine (refAlign_any A B la ca lb cb 0 _ 0 _ a b _ HA.out.1.ra HA.out.1.rb (Nat.le_refl _) (Nat.le_refl _)).mono ?_
  rintro e wB ⟨vB, rfl, hoB', hb⟩
  have hoB : wB.ownsRow wA.heap.size 95 2 vB (alR a b).length (prs (alR a b)) := hoB'
  clear hoB'
  obtain ⟨PB, cB, rfl⟩ := own_slice hoB
  have HB := Lib.hid (And.intro (HA.out.1.on hb) (And.intro (HA.out.2.up hb hb.size) (own_rd hoB)))
  clear hb HA hoB
  go_wp2_with fail
  refine (within_any X Y la _ lb _ 0 0 a b most _ HB.out.1.rx HB.out.1.ry HF.out.1 HF.out.2).mono ?_
  rintro e wC ⟨rfl, hb⟩
  have HC := Lib.hid (And.intro (HB.out.1.on hb) (And.intro (HB.out.2.1.up hb hb.size) (HB.out.2.2.up hb hb.size)))
  clear hb HB
  have hal : (alR a b).length ≤ maxLen := by
    have := alR_len a b
    have h1 := HLA.out
    have h2 := HLB.out
    unfold maxLen
    omega
  have HAL := Lib.hid hal
  clear hal
  generalize alR a b = P at *
  have n1 : ∀ x : Int, (x != x) = false := fun x => by simp
  generalize dsE a b = E at *
  generalize dsV a b = V at *
  generalize wiE a b most = we at *
  generalize wiB a b most = wb at *
  generalize wiV a b most = wv at *
  generalize costF a b = cf at *
  go_wp2_with fail
  refine (pairsEq_any PA PB P.length cA cB _ _ _ _ P _ HC.out.2.1 HC.out.2.2 HAL.out (Nat.le_refl _) (Nat.le_refl _)).mono ?_
  rintro e wD ⟨rfl, hb⟩
  have HD := Lib.hid (HC.out.1.on hb)
  clear hb HC
  go_wp2_with fail
  refine (equalH_any X A la _ la ca _ _ _ _ a a _ HD.out.rx HD.out.ra HNA.out HNA.out (Nat.le_refl _) (Nat.le_refl _)).mono ?_
  rw [decide_eq_true (rfl : a = a)]
  rintro e wE ⟨rfl, hb⟩
  have HE := Lib.hid (HD.out.on hb)
  clear hb HD
  go_wp2_with fail
  refine (equalH_any Y B lb _ lb cb _ _ _ _ b b _ HE.out.ry HE.out.rb HNB.out HNB.out (Nat.le_refl _) (Nat.le_refl _)).mono ?_
  rw [decide_eq_true (rfl : b = b)]
  rintro e wF ⟨rfl, hb⟩
  have HG := Lib.hid (HE.out.on hb)
  clear hb HE
  by_cases hE : E = 0
  · have hEb : (E == 0) = true := by rw [hE]; rfl
    have hEn : (E != 0) = false := by rw [hE]; rfl
    have e1 := HWE.out
    have e2 := HWB.out
    have e3 := HWV.out
    have e4 := HDV.out
    rw [if_pos hE] at e1 e4
    rw [decide_eq_true hE, Bool.true_and] at e2
    by_cases hm : most < 0
    · have hmd : decide (most < 0) = true := by simpa using hm
      rw [if_pos hm] at e1
      rw [decide_eq_false (show ¬ 0 ≤ most by omega), Bool.false_and] at e2
      rw [e2] at e3
      subst e1 e2 e3
      clear HWE HWB HWV HDV e4
      go_wp2_with fail
      refine (works_any _).mono ?_
      rintro e wZ ⟨rfl, hb⟩
      have HZ := Lib.hid (HG.out.below.trans (hb.mono HG.out.below.size))
      clear hb HG
      go_wp2
      go_ret
      exact ⟨rfl, HZ.out⟩
    · have hmd : decide (most < 0) = false := by simpa using hm
      rw [if_neg hm] at e1
      rw [decide_eq_true (show 0 ≤ most by omega), Bool.true_and] at e2
      by_cases hc : cf ≤ most
      · have hcd : decide (cf ≤ most) = true := by simpa using hc
        have hcg : decide (most < cf) = false := by simp; omega
        rw [hcd] at e2
        rw [e2] at e3
        subst e1 e2
        replace e3 : wv = cf := e3
        subst e3 e4
        clear HWE HWB HWV HDV
        go_wp2_with fail
        refine (works_any _).mono ?_
        rintro e wZ ⟨rfl, hb⟩
        have HZ := Lib.hid (HG.out.below.trans (hb.mono HG.out.below.size))
        clear hb HG
        go_wp2
        go_ret
        exact ⟨rfl, HZ.out⟩
      · have hcd : decide (cf ≤ most) = false := by simpa using hc
        have hcg : decide (most < cf) = true := by simp; omega
        rw [hcd] at e2
        rw [e2] at e3
        subst e1 e2
        replace e3 : wv = 0 := e3
        subst e3 e4
        clear HWE HWB HWV HDV
        go_wp2_with fail
        refine (works_any _).mono ?_
        rintro e wZ ⟨rfl, hb⟩
        have HZ := Lib.hid (HG.out.below.trans (hb.mono HG.out.below.size))
        clear hb HG
        go_wp2
        go_ret
        exact ⟨rfl, HZ.out⟩
  · have hEb : (E == 0) = false := by simpa using hE
    have hEn : (E != 0) = true := by simpa using hE
    have e1 := HWE.out
    have e2 := HWB.out
    have e3 := HWV.out
    rw [if_neg hE] at e1
    rw [decide_eq_false hE, Bool.false_and, Bool.false_and] at e2
    rw [e2] at e3
    subst e1 e2
    replace e3 : wv = 0 := e3
    subst e3
    clear HWE HWB HWV HDV
    go_wp2_with fail
    refine (works_any _).mono ?_
    rintro e wZ ⟨rfl, hb⟩
    have HZ := Lib.hid (HG.out.below.trans (hb.mono HG.out.below.size))
    clear hb HG
    go_wp2
    go_ret
    exact ⟨rfl, HZ.out⟩
end Go.Proofs.Ytogofchpocoebaa
