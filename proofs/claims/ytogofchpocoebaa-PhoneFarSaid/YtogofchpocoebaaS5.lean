/- The law PhoneFar, walked. -/
import Derived.Test.YtogofchpocoebaaS4
import Derived.Test.YtogofchpocoebaaP2
namespace Go.Proofs.Ytogofchpocoebaa
open Go.RowKit Go.Maps

/-- memory while the law runs: the four rows -/
structure FrSt (w0 : World) (A B C D : Option Addr) (la lb lc ld : Nat) (a b c d : List Ph) (W : World) : Prop where
  ra : Rd W 0 w0.heap.size 3 A la (phs a)
  rb : Rd W 0 w0.heap.size 3 B lb (phs b)
  rc : Rd W 0 w0.heap.size 3 C lc (phs c)
  rd : Rd W 0 w0.heap.size 3 D ld (phs d)
  below : Below w0.heap.size w0 W
theorem FrSt.on {w0 : World} {A B C D : Option Addr} {la lb lc ld : Nat} {a b c d : List Ph} {W W' : World} (h : FrSt w0 A B C D la lb lc ld a b c d W) (hb : Below w0.heap.size W W') : FrSt w0 A B C D la lb lc ld a b c d W' :=
  ⟨h.ra.below hb (Nat.le_refl _), h.rb.below hb (Nat.le_refl _), h.rc.below hb (Nat.le_refl _), h.rd.below hb (Nat.le_refl _), h.below.trans hb⟩
theorem FrSt.up {w0 : World} {A B C D : Option Addr} {la lb lc ld : Nat} {a b c d : List Ph} {W W' : World} (h : FrSt w0 A B C D la lb lc ld a b c d W) (hb : Below W.heap.size W W') : FrSt w0 A B C D la lb lc ld a b c d W' :=
  h.on (hb.mono h.below.size)

theorem ds_ok {a b : List Ph} (h : dsE a b = 0) : a.length ≤ 128 ∧ b.length ≤ 128 ∧ a.all isF = true ∧ b.all isF = true := by
  unfold dsE at h
  split at h
  · cases h
  · split at h
    · rename_i h1 h2
      simp only [Bool.and_eq_true] at h2
      exact ⟨by omega, by omega, h2.1, h2.2⟩
    · cases h
theorem ds_mk {a b : List Ph} (h1 : a.length ≤ 128) (h2 : b.length ≤ 128) (h3 : a.all isF = true) (h4 : b.all isF = true) : dsE a b = 0 ∧ dsV a b = costF a b := by
  have : dsE a b = 0 := by unfold dsE; rw [if_neg (by omega), h3, h4]; rfl
  exact ⟨this, by unfold dsV; rw [if_pos this]⟩
theorem all_tab {a : List Ph} (h : a.all isF = true) : ∀ p ∈ a, (tabF p.1).isSome = true := fun p hp => (isF_tab (List.all_eq_true.1 h p hp)).1
theorem all_cat {a b : List Ph} (h : a.all isF = true) (k : b.all isF = true) : (a ++ b).all isF = true := by rw [List.all_append, h, k]; rfl
theorem fit_cat {a b : List Ph} (h : ∀ p ∈ a, fitP p) (k : ∀ p ∈ b, fitP p) : ∀ p ∈ a ++ b, fitP p := fun p hp => by
  rcases List.mem_append.1 hp with hp | hp
  · exact h p hp
  · exact k p hp
theorem cost_hi128 {a b : List Ph} (h1 : a.length ≤ 128) (h2 : b.length ≤ 128) : 0 ≤ costF a b ∧ costF a b ≤ 5120 := by
  have := cost_hi a b
  have := cost_nn' a b
  omega
theorem cost_iff {a b : List Ph} (h3 : a.all isF = true) (h4 : b.all isF = true) : (costF a b == 0) = decide (a = b) := by
  by_cases h : a = b
  · subst h
    simp [cost_self]
  · have : costF a b ≠ 0 := fun h0 => h (cost_zero a b (all_tab h3) (all_tab h4) h0)
    simp [h, this]
/-- what the law says of the costs -/
theorem far_facts {a b c d : List Ph} (_h : dsE a b = 0) (_k : dsE c d = 0) : costF b a = costF a b ∧ costF a c ≤ costF a b + costF b c ∧ costF (a ++ c) (b ++ d) ≤ costF a b + costF c d ∧ costF (c ++ a) (c ++ b) ≤ costF a b ∧ costF (a ++ c) (b ++ c) ≤ costF a b := by
  refine ⟨cost_comm _ _, cost_apart _ _ _, cost_cat _ _ _ _, ?_, ?_⟩
  · have := cost_cat c c a b
    rw [cost_self] at this
    omega
  · have := cost_cat a b c c
    rw [cost_self] at this
    omega

set_option maxHeartbeats 16000000 in
set_option maxRecDepth 100000 in
theorem phoneFar_any (A B C D : Option Addr) (la ca lb cb lc cc ld cd : Nat) (a b c d : List Ph) (w : World) (ra : Rd w 0 w.heap.size 3 A la (phs a)) (rb : Rd w 0 w.heap.size 3 B lb (phs b)) (rc : Rd w 0 w.heap.size 3 C lc (phs c)) (rd : Rd w 0 w.heap.size 3 D ld (phs d))
    (fa : ∀ p ∈ a, fitP p) (fb : ∀ p ∈ b, fitP p) (fc : ∀ p ∈ c, fitP p) (fd : ∀ p ∈ d, fitP p) (za : la ≤ 11728124029600) (zb : lb ≤ 11728124029600) (zc : lc ≤ 11728124029600) (zd : ld ≤ 11728124029600) :
    Calls Try.prog 10 #[.slice A la ca, .slice B lb cb, .slice C lc cc, .slice D ld cd] w fun e w' => e = .returned (.bool true) ∧ Below w.heap.size w w' := by
  have FT := Lib.hid (And.intro fa (And.intro fb (And.intro fc fd)))
  have LN := Lib.hid (And.intro ra.len_ph (And.intro rb.len_ph (And.intro rc.len_ph rd.len_ph)))
  have H0 := Lib.hid (show FrSt w A B C D la lb lc ld a b c d w from ⟨ra, rb, rc, rd, Below.refl _ _⟩)
  clear ra rb rc rd fa fb fc fd
  go_enter Try.func10, Try.ntmps10
  go_wp2_with fail
  refine (works_any _).mono ?_
  rintro e w1 ⟨rfl, hb⟩
  have H1 := Lib.hid (H0.out.up hb)
  clear hb H0
  go_wp2_with fail
  refine (distance_any A B la ca lb cb 0 0 a b w1 (H1.out.ra.more (Nat.zero_le _) H1.out.below.size) (H1.out.rb.more (Nat.zero_le _) H1.out.below.size) FT.out.1 FT.out.2.1).mono ?_
  rintro e w2 ⟨rfl, hb⟩
  have H2 := Lib.hid (H1.out.up hb)
  clear hb H1
  go_wp2_with fail
  refine (distance_any B A lb cb la ca 0 0 b a w2 (H2.out.rb.more (Nat.zero_le _) H2.out.below.size) (H2.out.ra.more (Nat.zero_le _) H2.out.below.size) FT.out.2.1 FT.out.1).mono ?_
  rintro e w3 ⟨rfl, hb⟩
  have H3 := Lib.hid (H2.out.up hb)
  clear hb H2
  go_wp2_with fail
  refine (distance_any B C lb cb lc cc 0 0 b c w3 (H3.out.rb.more (Nat.zero_le _) H3.out.below.size) (H3.out.rc.more (Nat.zero_le _) H3.out.below.size) FT.out.2.1 FT.out.2.2.1).mono ?_
  rintro e w4 ⟨rfl, hb⟩
  have H4 := Lib.hid (H3.out.up hb)
  clear hb H3
  go_wp2_with fail
  refine (distance_any A C la ca lc cc 0 0 a c w4 (H4.out.ra.more (Nat.zero_le _) H4.out.below.size) (H4.out.rc.more (Nat.zero_le _) H4.out.below.size) FT.out.1 FT.out.2.2.1).mono ?_
  rintro e w5 ⟨rfl, hb⟩
  have H5 := Lib.hid (H4.out.up hb)
  clear hb H4
  go_wp2_with fail
  refine (distance_any C D lc cc ld cd 0 0 c d w5 (H5.out.rc.more (Nat.zero_le _) H5.out.below.size) (H5.out.rd.more (Nat.zero_le _) H5.out.below.size) FT.out.2.2.1 FT.out.2.2.2).mono ?_
  rintro e w6 ⟨rfl, hb⟩
  have H6 := Lib.hid (H5.out.up hb)
  clear hb H5
  have E1 := Lib.hid (And.intro (Eq.refl (dsE a b)) (Eq.refl (dsV a b)))
  generalize he1 : dsE a b = e1 at *
  generalize hv1 : dsV a b = x1 at *
  have E2 := Lib.hid (And.intro (Eq.refl (dsE b a)) (Eq.refl (dsV b a)))
  generalize he2 : dsE b a = e2 at *
  generalize hv2 : dsV b a = x2 at *
  have E3 := Lib.hid (And.intro (Eq.refl (dsE b c)) (Eq.refl (dsV b c)))
  generalize he3 : dsE b c = e3 at *
  generalize hv3 : dsV b c = x3 at *
  have E4 := Lib.hid (And.intro (Eq.refl (dsE a c)) (Eq.refl (dsV a c)))
  generalize he4 : dsE a c = e4 at *
  generalize hv4 : dsV a c = x4 at *
  have E5 := Lib.hid (And.intro (Eq.refl (dsE c d)) (Eq.refl (dsV c d)))
  generalize he5 : dsE c d = e5 at *
  generalize hv5 : dsV c d = x5 at *
  have HE := Lib.hid (And.intro he1 (And.intro he2 (And.intro he3 (And.intro he4 he5))))
  have HV := Lib.hid (And.intro hv1 (And.intro hv2 (And.intro hv3 (And.intro hv4 hv5))))
  clear he1 he2 he3 he4 he5 hv1 hv2 hv3 hv4 hv5 E1 E2 E3 E4 E5
  by_cases q1 : e1 = 0
  case neg =>
    have g1 : (e1 != 0) = true := by simpa using q1
    go_wp2_with fail
    refine (works_any _).mono ?_
    rintro e w7 ⟨rfl, hb⟩
    have H7 := Lib.hid (H6.out.up hb)
    clear hb
    go_wp2
    go_ret
    exact ⟨rfl, H7.out.below⟩
  have g1 : (e1 != 0) = false := by simp [q1]
  by_cases q2 : e2 = 0
  case neg =>
    have g2 : (e2 != 0) = true := by simpa using q2
    go_wp2_with fail
    refine (works_any _).mono ?_
    rintro e w7 ⟨rfl, hb⟩
    have H7 := Lib.hid (H6.out.up hb)
    clear hb
    go_wp2
    go_ret
    exact ⟨rfl, H7.out.below⟩
  have g2 : (e2 != 0) = false := by simp [q2]
  by_cases q3 : e3 = 0
  case neg =>
    have g3 : (e3 != 0) = true := by simpa using q3
    go_wp2_with fail
    refine (works_any _).mono ?_
    rintro e w7 ⟨rfl, hb⟩
    have H7 := Lib.hid (H6.out.up hb)
    clear hb
    go_wp2
    go_ret
    exact ⟨rfl, H7.out.below⟩
  have g3 : (e3 != 0) = false := by simp [q3]
  by_cases q4 : e4 = 0
  case neg =>
    have g4 : (e4 != 0) = true := by simpa using q4
    go_wp2_with fail
    refine (works_any _).mono ?_
    rintro e w7 ⟨rfl, hb⟩
    have H7 := Lib.hid (H6.out.up hb)
    clear hb
    go_wp2
    go_ret
    exact ⟨rfl, H7.out.below⟩
  have g4 : (e4 != 0) = false := by simp [q4]
  by_cases q5 : e5 = 0
  case neg =>
    have g5 : (e5 != 0) = true := by simpa using q5
    go_wp2_with fail
    refine (works_any _).mono ?_
    rintro e w7 ⟨rfl, hb⟩
    have H7 := Lib.hid (H6.out.up hb)
    clear hb
    go_wp2
    go_ret
    exact ⟨rfl, H7.out.below⟩
  have g5 : (e5 != 0) = false := by simp [q5]
  have hab : dsE a b = 0 := HE.out.1.trans q1
  have hcd : dsE c d = 0 := HE.out.2.2.2.2.trans q5
  clear q1 q2 q3 q4 q5
  obtain ⟨o1, o2, o3, o4⟩ := ds_ok hab
  obtain ⟨o5, o6, o7, o8⟩ := ds_ok hcd
  have OK := Lib.hid (And.intro o1 (And.intro o2 (And.intro o3 (And.intro o4 (And.intro o5 (And.intro o6 (And.intro o7 o8)))))))
  have ff := far_facts hab hcd
  have v1 : x1 = costF a b := HV.out.1.symm.trans (ds_mk o1 o2 o3 o4).2
  have v2 : x2 = costF a b := (HV.out.2.1.symm.trans (ds_mk o2 o1 o4 o3).2).trans ff.1
  have v3 : x3 = costF b c := HV.out.2.2.1.symm.trans (ds_mk o2 o5 o4 o7).2
  have v4 : x4 = costF a c := HV.out.2.2.2.1.symm.trans (ds_mk o1 o5 o3 o7).2
  have v5 : x5 = costF c d := HV.out.2.2.2.2.symm.trans (ds_mk o5 o6 o7 o8).2
  have b1 := cost_hi128 o1 o2
  have b3 := cost_hi128 o2 o5
  have b5 := cost_hi128 o5 o6
  have hq := cost_iff o3 o4
  have la1 : la ≤ 128 := by have := LN.out.1; omega
  rw [← v1] at b1 hq ff
  rw [← v3] at b3 ff
  rw [← v5] at b5 ff
  rw [← v4] at ff
  have h12 : x1 = x2 := v1.trans v2.symm
  subst h12
  have FF := Lib.hid (And.intro ff.2 (And.intro b1 (And.intro b3 b5)))
  have VV := Lib.hid (And.intro v1 (And.intro v3 (And.intro v4 v5)))
  have n1 : (x1 != x1) = false := by simp
  have n2 : decide (x1 + x3 < x4) = false := by simp; exact ff.2.1
  have n3 : IntKind.i64.wrap (x1 + x3) = x1 + x3 := IntWalk.i64_in _ (by omega)
  clear hab hcd o1 o2 o3 o4 o5 o6 o7 o8 ff v1 v2 v3 v4 v5 b1 b3 b5 HE HV
  have HQ := Lib.hid hq
  clear hq
  go_wp2_with fail
  refine (equalH_any A B la ca lb cb 0 0 _ _ a b w6 H6.out.ra H6.out.rb (by unfold maxLen; omega) (by unfold maxLen; omega) H6.out.below.size H6.out.below.size).mono ?_
  rintro e w7 ⟨rfl, hb⟩
  have H7 := Lib.hid (H6.out.up hb)
  clear hb H6
  generalize decide (a = b) = dab at *
  have n5 : ((x1 == 0) != dab) = false := by rw [HQ.out]; simp
  go_wp2_with fail
  refine (distance_any A none la ca 0 0 0 0 a [] w7 (H7.out.ra.more (Nat.zero_le _) H7.out.below.size) Rd.nil FT.out.1 (by simp)).mono ?_
  rintro e w8 ⟨rfl, hb⟩
  have H8 := Lib.hid (H7.out.up hb)
  clear hb H7 n1 n2 n3 n5 g1 g2 g3 g4 g5
  have hz := ds_mk (a := a) (b := []) OK.out.1 (by simp) OK.out.2.2.1 rfl
  rw [hz.1, hz.2, cost_alone]
  clear hz
  generalize hS : (a.map loneF).sum = sA at *
  have HSA := Lib.hid hS
  clear hS
  go_wp2
  go_loopw [21, 23, 24, 25, 108] (fun v21 _ _ _ v108 wr => ∃ k : Nat, k ≤ la ∧ v108 = .int .i64 k ∧ v21 = .int .i64 (((a.take k).map loneF).sum) ∧ Hid (FrSt w A B C D la lb lc ld a b c d wr)) (fun _ _ _ _ v _ => la - (intOf v).toNat)
  case atStart => exact ⟨0, by omega, rfl, by simp, H8⟩
  case round =>
    clear H8
    obtain ⟨k, hk, rfl, rfl, HR⟩ := hrel
    have hs := cost_hi128 (a := a.take k) (b := []) (by rw [List.length_take]; have := OK.out.1; omega) (by simp)
    rw [cost_alone] at hs
    by_cases hlt : k < la
    · obtain ⟨gb, go, hl, rfl, hL, hB, y0, y1, y2⟩ := HR.out.ra.ph hlt
      have hsn : ((a.take (k + 1)).map loneF).sum = ((a.take k).map loneF).sum + loneF a[k] := by rw [List.take_succ_eq_append_getElem hl, List.map_append, List.sum_append]; simp
      have hF : isF a[k] = true := List.all_eq_true.1 OK.out.2.2.1 _ (List.getElem_mem hl)
      have hfit := FT.out.1 _ (List.getElem_mem hl)
      generalize a[k] = p at *
      generalize ((a.take k).map loneF).sum = s at *
      have hp := lone_pos p
      have hp2 : loneF p ≤ 20 := by
        have := cost_hi [p] []
        rw [cost_alone] at this
        simp at this
        exact this
      have HSN := Lib.hid hsn
      have HFP := Lib.hid (And.intro hF hfit)
      clear hsn hF hfit hL hB
      have i1 : (0 : Int) ≤ (k : Int) := by omega
      have i2 : (k : Int) < (la : Int) := by omega
      go_upto_region 17 with (fail)
      refine wp_abs (fun wx => FrSt w (some ⟨gb, go, none⟩) B C D la lb lc ld a b c d wx ∧ Blk wx wr.heap.size 43 #[.int .i32 p.1, .bool p.2.1, .int .i32 p.2.2]) ⟨HR.out.up ((Below.refl _ _).alloc (Nat.le_refl _) _), Blk.new _ _ _⟩ ?_
      clear y0 y1 y2
      generalize wr.heap.size = pb at *
      rintro wx ⟨hS, hX⟩
      have c0 : wx.cell? ⟨pb, 0, none⟩ = some (.int .i32 p.1) := hX.cell 0
      have c1 : wx.cell? ⟨pb, 1, none⟩ = some (.bool p.2.1) := hX.cell 1
      have c2 : wx.cell? ⟨pb, 2, none⟩ = some (.int .i32 p.2.2) := hX.cell 2
      have HX := Lib.hid hS
      clear hS hX
      go_wp2_with fail
      refine (Lone_any p _ HFP.out.2.1).mono ?_
      rintro e wz ⟨rfl, hb⟩
      have HZ := Lib.hid (HX.out.up hb)
      clear hb HX c0 c1 c2
      rw [show loneV p = loneF p by unfold loneV; rw [HFP.out.1]; rfl, show loneE p = 0 by unfold loneE; rw [HFP.out.1]; rfl]
      generalize loneF p = lp at *
      go_wp2
      go_roundw
      case rel => exact ⟨k + 1, by omega, by go_num, by rw [HSN.out], HZ⟩
      case measure => simp [intOf]; omega
    · obtain rfl : k = la := by omega
      have hsa : ((a.take k).map loneF).sum = sA := by rw [List.take_of_length_le (by have := LN.out.1; omega)]; exact HSA.out
      rw [hsa] at *
      clear hsa hs
      have n6 : (sA != sA) = false := by simp

      by_cases r0 : 128 < k + lc
      case pos =>
        have m0 : decide ((128 : Int) < (k : Int) + (lc : Int)) = true := by simp; omega
        go_wp2_with fail
        refine (works_any _).mono ?_
        rintro e w90 ⟨rfl, hb⟩
        have H90 := Lib.hid (HR.out.up hb)
        clear hb
        go_wp2
        go_ret
        exact ⟨rfl, H90.out.below⟩
      have m0 : decide ((128 : Int) < (k : Int) + (lc : Int)) = false := by simp; omega
      by_cases r1 : 128 < lb + ld
      case pos =>
        have m1 : decide ((128 : Int) < (lb : Int) + (ld : Int)) = true := by simp; omega
        go_wp2_with fail
        refine (works_any _).mono ?_
        rintro e w91 ⟨rfl, hb⟩
        have H91 := Lib.hid (HR.out.up hb)
        clear hb
        go_wp2
        go_ret
        exact ⟨rfl, H91.out.below⟩
      have m1 : decide ((128 : Int) < (lb : Int) + (ld : Int)) = false := by simp; omega
      by_cases r2 : 128 < lb + lc
      case pos =>
        have m2 : decide ((128 : Int) < (lb : Int) + (lc : Int)) = true := by simp; omega
        go_wp2_with fail
        refine (works_any _).mono ?_
        rintro e w92 ⟨rfl, hb⟩
        have H92 := Lib.hid (HR.out.up hb)
        clear hb
        go_wp2
        go_ret
        exact ⟨rfl, H92.out.below⟩
      have m2 : decide ((128 : Int) < (lb : Int) + (lc : Int)) = false := by simp; omega
      go_wp2_with fail
      refine (concat_any wr.heap.size A C k ca lc cc a c _ (Blk.new _ _ _) ((HR.out.ra.below ((Below.refl _ _).alloc HR.out.below.size _) (Nat.le_refl _)).more (Nat.zero_le _) (by have := HR.out.below.size; simp; omega)) ((HR.out.rc.below ((Below.refl _ _).alloc HR.out.below.size _) (Nat.le_refl _)).more (Nat.zero_le _) (by have := HR.out.below.size; simp; omega)) (by omega)).mono ?_
      rintro e wp0 ⟨X0, CX0, rfl, hX0, hb⟩
      have hb1 : Below wr.heap.size wr wp0 := ((Below.refl _ _).alloc (Nat.le_refl _) _).trans (hb.mono (by simp))
      have HP0 := Lib.hid (HR.out.up hb1)
      have HX0 := Lib.hid hX0
      clear hb hb1 hX0
      go_wp2_with fail
      refine (concat_any wp0.heap.size B D lb cb ld cd b d _ (Blk.new _ _ _) ((HP0.out.rb.below ((Below.refl _ _).alloc HP0.out.below.size _) (Nat.le_refl _)).more (Nat.zero_le _) (by have := HP0.out.below.size; simp; omega)) ((HP0.out.rd.below ((Below.refl _ _).alloc HP0.out.below.size _) (Nat.le_refl _)).more (Nat.zero_le _) (by have := HP0.out.below.size; simp; omega)) (by omega)).mono ?_
      rintro e wq0 ⟨Y0, CY0, rfl, hY0, hb⟩
      have hb1 : Below wp0.heap.size wp0 wq0 := ((Below.refl _ _).alloc (Nat.le_refl _) _).trans (hb.mono (by simp))
      have HQ0 := Lib.hid (HP0.out.up hb1)
      have HXX0 := Lib.hid (HX0.out.up hb1 hb1.size)
      have HY0 := Lib.hid hY0
      clear hb hb1 hY0 HX0 HP0
      go_wp2_with fail
      refine (distance_any X0 Y0 (k + lc) CX0 (lb + ld) CY0 _ _ (a ++ c) (b ++ d) wq0 HXX0.out HY0.out (fit_cat FT.out.1 FT.out.2.2.1) (fit_cat FT.out.2.1 FT.out.2.2.2)).mono ?_
      rintro e wn0 ⟨rfl, hb⟩
      have HN0 := Lib.hid (HQ0.out.up hb)
      clear hb HQ0 HXX0 HY0
      have hz := ds_mk (a := (a ++ c)) (b := (b ++ d)) (by rw [List.length_append]; have := LN.out; omega) (by rw [List.length_append]; have := LN.out; omega) (all_cat OK.out.2.2.1 OK.out.2.2.2.2.2.2.1) (all_cat OK.out.2.2.2.1 OK.out.2.2.2.2.2.2.2)
      rw [hz.1, hz.2]
      clear hz
      have f0 : decide (costF (a ++ c) (b ++ d) ≤ x1 + x5) = true := by simp only [decide_eq_true_eq]; exact FF.out.1.2.1
      generalize costF (a ++ c) (b ++ d) = z0 at *
      go_wp2_with fail
      refine (concat_any wn0.heap.size C A lc cc k ca c a _ (Blk.new _ _ _) ((HN0.out.rc.below ((Below.refl _ _).alloc HN0.out.below.size _) (Nat.le_refl _)).more (Nat.zero_le _) (by have := HN0.out.below.size; simp; omega)) ((HN0.out.ra.below ((Below.refl _ _).alloc HN0.out.below.size _) (Nat.le_refl _)).more (Nat.zero_le _) (by have := HN0.out.below.size; simp; omega)) (by omega)).mono ?_
      rintro e wp1 ⟨X1, CX1, rfl, hX1, hb⟩
      have hb1 : Below wn0.heap.size wn0 wp1 := ((Below.refl _ _).alloc (Nat.le_refl _) _).trans (hb.mono (by simp))
      have HP1 := Lib.hid (HN0.out.up hb1)
      have HX1 := Lib.hid hX1
      clear hb hb1 hX1 HN0
      go_wp2_with fail
      refine (concat_any wp1.heap.size C B lc cc lb cb c b _ (Blk.new _ _ _) ((HP1.out.rc.below ((Below.refl _ _).alloc HP1.out.below.size _) (Nat.le_refl _)).more (Nat.zero_le _) (by have := HP1.out.below.size; simp; omega)) ((HP1.out.rb.below ((Below.refl _ _).alloc HP1.out.below.size _) (Nat.le_refl _)).more (Nat.zero_le _) (by have := HP1.out.below.size; simp; omega)) (by omega)).mono ?_
      rintro e wq1 ⟨Y1, CY1, rfl, hY1, hb⟩
      have hb1 : Below wp1.heap.size wp1 wq1 := ((Below.refl _ _).alloc (Nat.le_refl _) _).trans (hb.mono (by simp))
      have HQ1 := Lib.hid (HP1.out.up hb1)
      have HXX1 := Lib.hid (HX1.out.up hb1 hb1.size)
      have HY1 := Lib.hid hY1
      clear hb hb1 hY1 HX1 HP1
      go_wp2_with fail
      refine (distance_any X1 Y1 (lc + k) CX1 (lc + lb) CY1 _ _ (c ++ a) (c ++ b) wq1 HXX1.out HY1.out (fit_cat FT.out.2.2.1 FT.out.1) (fit_cat FT.out.2.2.1 FT.out.2.1)).mono ?_
      rintro e wn1 ⟨rfl, hb⟩
      have HN1 := Lib.hid (HQ1.out.up hb)
      clear hb HQ1 HXX1 HY1
      have hz := ds_mk (a := (c ++ a)) (b := (c ++ b)) (by rw [List.length_append]; have := LN.out; omega) (by rw [List.length_append]; have := LN.out; omega) (all_cat OK.out.2.2.2.2.2.2.1 OK.out.2.2.1) (all_cat OK.out.2.2.2.2.2.2.1 OK.out.2.2.2.1)
      rw [hz.1, hz.2]
      clear hz
      have f1 : decide (costF (c ++ a) (c ++ b) ≤ x1) = true := by simp only [decide_eq_true_eq]; exact FF.out.1.2.2.1
      generalize costF (c ++ a) (c ++ b) = z1 at *
      go_wp2_with fail
      refine (concat_any wn1.heap.size A C k ca lc cc a c _ (Blk.new _ _ _) ((HN1.out.ra.below ((Below.refl _ _).alloc HN1.out.below.size _) (Nat.le_refl _)).more (Nat.zero_le _) (by have := HN1.out.below.size; simp; omega)) ((HN1.out.rc.below ((Below.refl _ _).alloc HN1.out.below.size _) (Nat.le_refl _)).more (Nat.zero_le _) (by have := HN1.out.below.size; simp; omega)) (by omega)).mono ?_
      rintro e wp2 ⟨X2, CX2, rfl, hX2, hb⟩
      have hb1 : Below wn1.heap.size wn1 wp2 := ((Below.refl _ _).alloc (Nat.le_refl _) _).trans (hb.mono (by simp))
      have HP2 := Lib.hid (HN1.out.up hb1)
      have HX2 := Lib.hid hX2
      clear hb hb1 hX2 HN1
      go_wp2_with fail
      refine (concat_any wp2.heap.size B C lb cb lc cc b c _ (Blk.new _ _ _) ((HP2.out.rb.below ((Below.refl _ _).alloc HP2.out.below.size _) (Nat.le_refl _)).more (Nat.zero_le _) (by have := HP2.out.below.size; simp; omega)) ((HP2.out.rc.below ((Below.refl _ _).alloc HP2.out.below.size _) (Nat.le_refl _)).more (Nat.zero_le _) (by have := HP2.out.below.size; simp; omega)) (by omega)).mono ?_
      rintro e wq2 ⟨Y2, CY2, rfl, hY2, hb⟩
      have hb1 : Below wp2.heap.size wp2 wq2 := ((Below.refl _ _).alloc (Nat.le_refl _) _).trans (hb.mono (by simp))
      have HQ2 := Lib.hid (HP2.out.up hb1)
      have HXX2 := Lib.hid (HX2.out.up hb1 hb1.size)
      have HY2 := Lib.hid hY2
      clear hb hb1 hY2 HX2 HP2
      go_wp2_with fail
      refine (distance_any X2 Y2 (k + lc) CX2 (lb + lc) CY2 _ _ (a ++ c) (b ++ c) wq2 HXX2.out HY2.out (fit_cat FT.out.1 FT.out.2.2.1) (fit_cat FT.out.2.1 FT.out.2.2.1)).mono ?_
      rintro e wn2 ⟨rfl, hb⟩
      have HN2 := Lib.hid (HQ2.out.up hb)
      clear hb HQ2 HXX2 HY2
      have hz := ds_mk (a := (a ++ c)) (b := (b ++ c)) (by rw [List.length_append]; have := LN.out; omega) (by rw [List.length_append]; have := LN.out; omega) (all_cat OK.out.2.2.1 OK.out.2.2.2.2.2.2.1) (all_cat OK.out.2.2.2.1 OK.out.2.2.2.2.2.2.1)
      rw [hz.1, hz.2]
      clear hz
      have f2 : decide (costF (a ++ c) (b ++ c) ≤ x1) = true := by simp only [decide_eq_true_eq]; exact FF.out.1.2.2.2
      generalize costF (a ++ c) (b ++ c) = z2 at *
      have b1 := FF.out.2.1
      have b5 := FF.out.2.2.2
      have n7 : IntKind.i64.wrap (x1 + x5) = x1 + x5 := IntWalk.i64_in _ (by omega)
      go_wp2_with fail
      refine (works_any _).mono ?_
      rintro e w9z ⟨rfl, hb⟩
      have H9z := Lib.hid (HN2.out.up hb)
      clear hb
      go_wp2
      go_ret
      exact ⟨rfl, H9z.out.below⟩
end Go.Proofs.Ytogofchpocoebaa
