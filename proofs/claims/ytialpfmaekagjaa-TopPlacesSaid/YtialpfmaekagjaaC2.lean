/- class.Kind and Of. -/
import Derived.Test.YtialpfmaekagjaaC1
namespace Go.Proofs.Ytialpfmaekagjaa
open Go.RowKit
section
set_option maxHeartbeats 2000000
theorem letter_range (r : Int) (h : letterF r = true) : 65 ≤ r ∧ r ≤ 1119 := by
  unfold letterF greatF smallF at h
  by_cases h1 : 65 ≤ r
  · by_cases h2 : r ≤ 1119
    · exact ⟨h1, h2⟩
    · exfalso
      have : ∀ c : Int, c ≤ 1119 → decide (r ≤ c) = false := fun c hc => by simp; omega
      have e : ∀ c : Int, c ≤ 1119 → (r == c) = false := fun c hc => by simp; omega
      simp [this, e] at h
  · exfalso
    have : ∀ c : Int, 65 ≤ c → decide (c ≤ r) = false := fun c hc => by simp; omega
    have e : ∀ c : Int, 65 ≤ c → (r == c) = false := fun c hc => by simp; omega
    simp [this, e] at h
theorem kind_lo (r : Int) (h2 : r ≤ -1) (hl : letterF r = false) (w : World) : Calls Try.prog 44 #[.int .i32 r] w fun e w' => e = .returned (.int .i64 (kindF r)) ∧ w' = w := by
  have d0 : decide (r < 0) = true := by simp; omega
  have d1 : decide (55296 ≤ r) = false := by simp; omega
  have d2 : decide (r ≤ 57343) = true := by simp; omega
  have d3 : decide (1114111 < r) = false := by simp; omega
  have d4 : decide (48 ≤ r) = false := by simp; omega
  have d5 : decide (r ≤ 57) = true := by simp; omega
  have d6 : decide (768 ≤ r) = false := by simp; omega
  have d7 : decide (r ≤ 879) = true := by simp; omega
  have d8 : decide (8192 ≤ r) = false := by simp; omega
  have d9 : decide (r ≤ 8202) = true := by simp; omega
  have d10 : decide (8216 ≤ r) = false := by simp; omega
  have d11 : decide (r ≤ 8223) = true := by simp; omega
  have d12 : decide (r < 32) = true := by simp; omega
  have d13 : decide (127 ≤ r) = false := by simp; omega
  have d14 : decide (r ≤ 159) = true := by simp; omega
  have d15 : decide (8203 ≤ r) = false := by simp; omega
  have d16 : decide (r ≤ 8207) = true := by simp; omega
  have e0 : (r == 10) = false := by simp; omega
  have e1 : (r == 13) = false := by simp; omega
  have e2 : (r == 9) = false := by simp; omega
  have e3 : (r == 32) = false := by simp; omega
  have e4 : (r == 160) = false := by simp; omega
  have e5 : (r == 8239) = false := by simp; omega
  have e6 : (r == 8287) = false := by simp; omega
  have e7 : (r == 12288) = false := by simp; omega
  have e8 : (r == 45) = false := by simp; omega
  have e9 : (r == 8208) = false := by simp; omega
  have e10 : (r == 8209) = false := by simp; omega
  have e11 : (r == 8210) = false := by simp; omega
  have e12 : (r == 8211) = false := by simp; omega
  have e13 : (r == 8212) = false := by simp; omega
  have e14 : (r == 8213) = false := by simp; omega
  have e15 : (r == 34) = false := by simp; omega
  have e16 : (r == 39) = false := by simp; omega
  have e17 : (r == 171) = false := by simp; omega
  have e18 : (r == 187) = false := by simp; omega
  have e19 : (r == 8249) = false := by simp; omega
  have e20 : (r == 8250) = false := by simp; omega
  have e21 : (r == 33) = false := by simp; omega
  have e22 : (r == 44) = false := by simp; omega
  have e23 : (r == 46) = false := by simp; omega
  have e24 : (r == 58) = false := by simp; omega
  have e25 : (r == 59) = false := by simp; omega
  have e26 : (r == 63) = false := by simp; omega
  have e27 : (r == 161) = false := by simp; omega
  have e28 : (r == 183) = false := by simp; omega
  have e29 : (r == 191) = false := by simp; omega
  have e30 : (r == 8230) = false := by simp; omega
  have e31 : (r == 65279) = false := by simp; omega
  have HV := Lib.hid (show kindF r = 0 from by unfold kindF; simp only [d0, d1, d2, d3, d4, d5, d6, d7, d8, d9, d10, d11, d12, d13, d14, d15, d16, e0, e1, e2, e3, e4, e5, e6, e7, e8, e9, e10, e11, e12, e13, e14, e15, e16, e17, e18, e19, e20, e21, e22, e23, e24, e25, e26, e27, e28, e29, e30, e31, hl, Bool.and_true, Bool.or_false, if_true, if_false, Bool.false_eq_true])
  clear h2
  go_enter Try.func44, Try.ntmps44
  go_wp2
  go_ret
  exact ⟨by rw [HV.out]; rfl, rfl⟩
theorem kind_0 (r : Int) (h1 : 0 ≤ r) (h2 : r ≤ 8) (hl : letterF r = false) (w : World) : Calls Try.prog 44 #[.int .i32 r] w fun e w' => e = .returned (.int .i64 (kindF r)) ∧ w' = w := by
  have d0 : decide (r < 0) = false := by simp; omega
  have d1 : decide (55296 ≤ r) = false := by simp; omega
  have d2 : decide (r ≤ 57343) = true := by simp; omega
  have d3 : decide (1114111 < r) = false := by simp; omega
  have d4 : decide (48 ≤ r) = false := by simp; omega
  have d5 : decide (r ≤ 57) = true := by simp; omega
  have d6 : decide (768 ≤ r) = false := by simp; omega
  have d7 : decide (r ≤ 879) = true := by simp; omega
  have d8 : decide (8192 ≤ r) = false := by simp; omega
  have d9 : decide (r ≤ 8202) = true := by simp; omega
  have d10 : decide (8216 ≤ r) = false := by simp; omega
  have d11 : decide (r ≤ 8223) = true := by simp; omega
  have d12 : decide (r < 32) = true := by simp; omega
  have d13 : decide (127 ≤ r) = false := by simp; omega
  have d14 : decide (r ≤ 159) = true := by simp; omega
  have d15 : decide (8203 ≤ r) = false := by simp; omega
  have d16 : decide (r ≤ 8207) = true := by simp; omega
  have e0 : (r == 10) = false := by simp; omega
  have e1 : (r == 13) = false := by simp; omega
  have e2 : (r == 9) = false := by simp; omega
  have e3 : (r == 32) = false := by simp; omega
  have e4 : (r == 160) = false := by simp; omega
  have e5 : (r == 8239) = false := by simp; omega
  have e6 : (r == 8287) = false := by simp; omega
  have e7 : (r == 12288) = false := by simp; omega
  have e8 : (r == 45) = false := by simp; omega
  have e9 : (r == 8208) = false := by simp; omega
  have e10 : (r == 8209) = false := by simp; omega
  have e11 : (r == 8210) = false := by simp; omega
  have e12 : (r == 8211) = false := by simp; omega
  have e13 : (r == 8212) = false := by simp; omega
  have e14 : (r == 8213) = false := by simp; omega
  have e15 : (r == 34) = false := by simp; omega
  have e16 : (r == 39) = false := by simp; omega
  have e17 : (r == 171) = false := by simp; omega
  have e18 : (r == 187) = false := by simp; omega
  have e19 : (r == 8249) = false := by simp; omega
  have e20 : (r == 8250) = false := by simp; omega
  have e21 : (r == 33) = false := by simp; omega
  have e22 : (r == 44) = false := by simp; omega
  have e23 : (r == 46) = false := by simp; omega
  have e24 : (r == 58) = false := by simp; omega
  have e25 : (r == 59) = false := by simp; omega
  have e26 : (r == 63) = false := by simp; omega
  have e27 : (r == 161) = false := by simp; omega
  have e28 : (r == 183) = false := by simp; omega
  have e29 : (r == 191) = false := by simp; omega
  have e30 : (r == 8230) = false := by simp; omega
  have e31 : (r == 65279) = false := by simp; omega
  have HV := Lib.hid (show kindF r = 9 from by unfold kindF; simp only [d0, d1, d2, d3, d4, d5, d6, d7, d8, d9, d10, d11, d12, d13, d14, d15, d16, e0, e1, e2, e3, e4, e5, e6, e7, e8, e9, e10, e11, e12, e13, e14, e15, e16, e17, e18, e19, e20, e21, e22, e23, e24, e25, e26, e27, e28, e29, e30, e31, hl, Bool.and_true, Bool.or_false, if_true, if_false, Bool.false_eq_true])
  clear h1 h2
  go_enter Try.func44, Try.ntmps44
  go_wp2_with fail
  refine (letter_no r hl _).mono ?_
  rintro e w' ⟨rfl, ew⟩
  subst ew
  go_wp2_with fail
  refine (mark_is r false (by unfold markF; simp only [d6, d7, Bool.and_true]) _).mono ?_
  rintro e w' ⟨rfl, ew⟩
  subst ew
  go_wp2
  go_ret
  exact ⟨by rw [HV.out]; rfl, rfl⟩
theorem kind_9 (r : Int) (h1 : 9 ≤ r) (h2 : r ≤ 9) (hl : letterF r = false) (w : World) : Calls Try.prog 44 #[.int .i32 r] w fun e w' => e = .returned (.int .i64 (kindF r)) ∧ w' = w := by
  obtain rfl : r = 9 := by omega
  have HV := Lib.hid (show kindF 9 = 5 from by decide +kernel)
  clear h1 h2
  go_enter Try.func44, Try.ntmps44
  go_wp2_with fail
  refine (letter_no 9 hl _).mono ?_
  rintro e w' ⟨rfl, ew⟩
  subst ew
  go_wp2_with fail
  refine (mark_is 9 false (by decide +kernel) _).mono ?_
  rintro e w' ⟨rfl, ew⟩
  subst ew
  go_wp2
  go_ret
  exact ⟨by rw [HV.out]; rfl, rfl⟩
theorem kind_10 (r : Int) (h1 : 10 ≤ r) (h2 : r ≤ 10) (hl : letterF r = false) (w : World) : Calls Try.prog 44 #[.int .i32 r] w fun e w' => e = .returned (.int .i64 (kindF r)) ∧ w' = w := by
  obtain rfl : r = 10 := by omega
  have HV := Lib.hid (show kindF 10 = 4 from by decide +kernel)
  clear h1 h2
  go_enter Try.func44, Try.ntmps44
  go_wp2_with fail
  refine (letter_no 10 hl _).mono ?_
  rintro e w' ⟨rfl, ew⟩
  subst ew
  go_wp2_with fail
  refine (mark_is 10 false (by decide +kernel) _).mono ?_
  rintro e w' ⟨rfl, ew⟩
  subst ew
  go_wp2
  go_ret
  exact ⟨by rw [HV.out]; rfl, rfl⟩
theorem kind_11 (r : Int) (h1 : 11 ≤ r) (h2 : r ≤ 12) (hl : letterF r = false) (w : World) : Calls Try.prog 44 #[.int .i32 r] w fun e w' => e = .returned (.int .i64 (kindF r)) ∧ w' = w := by
  have d0 : decide (r < 0) = false := by simp; omega
  have d1 : decide (55296 ≤ r) = false := by simp; omega
  have d2 : decide (r ≤ 57343) = true := by simp; omega
  have d3 : decide (1114111 < r) = false := by simp; omega
  have d4 : decide (48 ≤ r) = false := by simp; omega
  have d5 : decide (r ≤ 57) = true := by simp; omega
  have d6 : decide (768 ≤ r) = false := by simp; omega
  have d7 : decide (r ≤ 879) = true := by simp; omega
  have d8 : decide (8192 ≤ r) = false := by simp; omega
  have d9 : decide (r ≤ 8202) = true := by simp; omega
  have d10 : decide (8216 ≤ r) = false := by simp; omega
  have d11 : decide (r ≤ 8223) = true := by simp; omega
  have d12 : decide (r < 32) = true := by simp; omega
  have d13 : decide (127 ≤ r) = false := by simp; omega
  have d14 : decide (r ≤ 159) = true := by simp; omega
  have d15 : decide (8203 ≤ r) = false := by simp; omega
  have d16 : decide (r ≤ 8207) = true := by simp; omega
  have e0 : (r == 10) = false := by simp; omega
  have e1 : (r == 13) = false := by simp; omega
  have e2 : (r == 9) = false := by simp; omega
  have e3 : (r == 32) = false := by simp; omega
  have e4 : (r == 160) = false := by simp; omega
  have e5 : (r == 8239) = false := by simp; omega
  have e6 : (r == 8287) = false := by simp; omega
  have e7 : (r == 12288) = false := by simp; omega
  have e8 : (r == 45) = false := by simp; omega
  have e9 : (r == 8208) = false := by simp; omega
  have e10 : (r == 8209) = false := by simp; omega
  have e11 : (r == 8210) = false := by simp; omega
  have e12 : (r == 8211) = false := by simp; omega
  have e13 : (r == 8212) = false := by simp; omega
  have e14 : (r == 8213) = false := by simp; omega
  have e15 : (r == 34) = false := by simp; omega
  have e16 : (r == 39) = false := by simp; omega
  have e17 : (r == 171) = false := by simp; omega
  have e18 : (r == 187) = false := by simp; omega
  have e19 : (r == 8249) = false := by simp; omega
  have e20 : (r == 8250) = false := by simp; omega
  have e21 : (r == 33) = false := by simp; omega
  have e22 : (r == 44) = false := by simp; omega
  have e23 : (r == 46) = false := by simp; omega
  have e24 : (r == 58) = false := by simp; omega
  have e25 : (r == 59) = false := by simp; omega
  have e26 : (r == 63) = false := by simp; omega
  have e27 : (r == 161) = false := by simp; omega
  have e28 : (r == 183) = false := by simp; omega
  have e29 : (r == 191) = false := by simp; omega
  have e30 : (r == 8230) = false := by simp; omega
  have e31 : (r == 65279) = false := by simp; omega
  have HV := Lib.hid (show kindF r = 9 from by unfold kindF; simp only [d0, d1, d2, d3, d4, d5, d6, d7, d8, d9, d10, d11, d12, d13, d14, d15, d16, e0, e1, e2, e3, e4, e5, e6, e7, e8, e9, e10, e11, e12, e13, e14, e15, e16, e17, e18, e19, e20, e21, e22, e23, e24, e25, e26, e27, e28, e29, e30, e31, hl, Bool.and_true, Bool.or_false, if_true, if_false, Bool.false_eq_true])
  clear h1 h2
  go_enter Try.func44, Try.ntmps44
  go_wp2_with fail
  refine (letter_no r hl _).mono ?_
  rintro e w' ⟨rfl, ew⟩
  subst ew
  go_wp2_with fail
  refine (mark_is r false (by unfold markF; simp only [d6, d7, Bool.and_true]) _).mono ?_
  rintro e w' ⟨rfl, ew⟩
  subst ew
  go_wp2
  go_ret
  exact ⟨by rw [HV.out]; rfl, rfl⟩
theorem kind_13 (r : Int) (h1 : 13 ≤ r) (h2 : r ≤ 13) (hl : letterF r = false) (w : World) : Calls Try.prog 44 #[.int .i32 r] w fun e w' => e = .returned (.int .i64 (kindF r)) ∧ w' = w := by
  obtain rfl : r = 13 := by omega
  have HV := Lib.hid (show kindF 13 = 4 from by decide +kernel)
  clear h1 h2
  go_enter Try.func44, Try.ntmps44
  go_wp2_with fail
  refine (letter_no 13 hl _).mono ?_
  rintro e w' ⟨rfl, ew⟩
  subst ew
  go_wp2_with fail
  refine (mark_is 13 false (by decide +kernel) _).mono ?_
  rintro e w' ⟨rfl, ew⟩
  subst ew
  go_wp2
  go_ret
  exact ⟨by rw [HV.out]; rfl, rfl⟩
theorem kind_14 (r : Int) (h1 : 14 ≤ r) (h2 : r ≤ 31) (hl : letterF r = false) (w : World) : Calls Try.prog 44 #[.int .i32 r] w fun e w' => e = .returned (.int .i64 (kindF r)) ∧ w' = w := by
  have d0 : decide (r < 0) = false := by simp; omega
  have d1 : decide (55296 ≤ r) = false := by simp; omega
  have d2 : decide (r ≤ 57343) = true := by simp; omega
  have d3 : decide (1114111 < r) = false := by simp; omega
  have d4 : decide (48 ≤ r) = false := by simp; omega
  have d5 : decide (r ≤ 57) = true := by simp; omega
  have d6 : decide (768 ≤ r) = false := by simp; omega
  have d7 : decide (r ≤ 879) = true := by simp; omega
  have d8 : decide (8192 ≤ r) = false := by simp; omega
  have d9 : decide (r ≤ 8202) = true := by simp; omega
  have d10 : decide (8216 ≤ r) = false := by simp; omega
  have d11 : decide (r ≤ 8223) = true := by simp; omega
  have d12 : decide (r < 32) = true := by simp; omega
  have d13 : decide (127 ≤ r) = false := by simp; omega
  have d14 : decide (r ≤ 159) = true := by simp; omega
  have d15 : decide (8203 ≤ r) = false := by simp; omega
  have d16 : decide (r ≤ 8207) = true := by simp; omega
  have e0 : (r == 10) = false := by simp; omega
  have e1 : (r == 13) = false := by simp; omega
  have e2 : (r == 9) = false := by simp; omega
  have e3 : (r == 32) = false := by simp; omega
  have e4 : (r == 160) = false := by simp; omega
  have e5 : (r == 8239) = false := by simp; omega
  have e6 : (r == 8287) = false := by simp; omega
  have e7 : (r == 12288) = false := by simp; omega
  have e8 : (r == 45) = false := by simp; omega
  have e9 : (r == 8208) = false := by simp; omega
  have e10 : (r == 8209) = false := by simp; omega
  have e11 : (r == 8210) = false := by simp; omega
  have e12 : (r == 8211) = false := by simp; omega
  have e13 : (r == 8212) = false := by simp; omega
  have e14 : (r == 8213) = false := by simp; omega
  have e15 : (r == 34) = false := by simp; omega
  have e16 : (r == 39) = false := by simp; omega
  have e17 : (r == 171) = false := by simp; omega
  have e18 : (r == 187) = false := by simp; omega
  have e19 : (r == 8249) = false := by simp; omega
  have e20 : (r == 8250) = false := by simp; omega
  have e21 : (r == 33) = false := by simp; omega
  have e22 : (r == 44) = false := by simp; omega
  have e23 : (r == 46) = false := by simp; omega
  have e24 : (r == 58) = false := by simp; omega
  have e25 : (r == 59) = false := by simp; omega
  have e26 : (r == 63) = false := by simp; omega
  have e27 : (r == 161) = false := by simp; omega
  have e28 : (r == 183) = false := by simp; omega
  have e29 : (r == 191) = false := by simp; omega
  have e30 : (r == 8230) = false := by simp; omega
  have e31 : (r == 65279) = false := by simp; omega
  have HV := Lib.hid (show kindF r = 9 from by unfold kindF; simp only [d0, d1, d2, d3, d4, d5, d6, d7, d8, d9, d10, d11, d12, d13, d14, d15, d16, e0, e1, e2, e3, e4, e5, e6, e7, e8, e9, e10, e11, e12, e13, e14, e15, e16, e17, e18, e19, e20, e21, e22, e23, e24, e25, e26, e27, e28, e29, e30, e31, hl, Bool.and_true, Bool.or_false, if_true, if_false, Bool.false_eq_true])
  clear h1 h2
  go_enter Try.func44, Try.ntmps44
  go_wp2_with fail
  refine (letter_no r hl _).mono ?_
  rintro e w' ⟨rfl, ew⟩
  subst ew
  go_wp2_with fail
  refine (mark_is r false (by unfold markF; simp only [d6, d7, Bool.and_true]) _).mono ?_
  rintro e w' ⟨rfl, ew⟩
  subst ew
  go_wp2
  go_ret
  exact ⟨by rw [HV.out]; rfl, rfl⟩
theorem kind_32 (r : Int) (h1 : 32 ≤ r) (h2 : r ≤ 32) (hl : letterF r = false) (w : World) : Calls Try.prog 44 #[.int .i32 r] w fun e w' => e = .returned (.int .i64 (kindF r)) ∧ w' = w := by
  obtain rfl : r = 32 := by omega
  have HV := Lib.hid (show kindF 32 = 5 from by decide +kernel)
  clear h1 h2
  go_enter Try.func44, Try.ntmps44
  go_wp2_with fail
  refine (letter_no 32 hl _).mono ?_
  rintro e w' ⟨rfl, ew⟩
  subst ew
  go_wp2_with fail
  refine (mark_is 32 false (by decide +kernel) _).mono ?_
  rintro e w' ⟨rfl, ew⟩
  subst ew
  go_wp2
  go_ret
  exact ⟨by rw [HV.out]; rfl, rfl⟩
theorem kind_33 (r : Int) (h1 : 33 ≤ r) (h2 : r ≤ 33) (hl : letterF r = false) (w : World) : Calls Try.prog 44 #[.int .i32 r] w fun e w' => e = .returned (.int .i64 (kindF r)) ∧ w' = w := by
  obtain rfl : r = 33 := by omega
  have HV := Lib.hid (show kindF 33 = 8 from by decide +kernel)
  clear h1 h2
  go_enter Try.func44, Try.ntmps44
  go_wp2_with fail
  refine (letter_no 33 hl _).mono ?_
  rintro e w' ⟨rfl, ew⟩
  subst ew
  go_wp2_with fail
  refine (mark_is 33 false (by decide +kernel) _).mono ?_
  rintro e w' ⟨rfl, ew⟩
  subst ew
  go_wp2
  go_ret
  exact ⟨by rw [HV.out]; rfl, rfl⟩
theorem kind_34 (r : Int) (h1 : 34 ≤ r) (h2 : r ≤ 34) (hl : letterF r = false) (w : World) : Calls Try.prog 44 #[.int .i32 r] w fun e w' => e = .returned (.int .i64 (kindF r)) ∧ w' = w := by
  obtain rfl : r = 34 := by omega
  have HV := Lib.hid (show kindF 34 = 7 from by decide +kernel)
  clear h1 h2
  go_enter Try.func44, Try.ntmps44
  go_wp2_with fail
  refine (letter_no 34 hl _).mono ?_
  rintro e w' ⟨rfl, ew⟩
  subst ew
  go_wp2_with fail
  refine (mark_is 34 false (by decide +kernel) _).mono ?_
  rintro e w' ⟨rfl, ew⟩
  subst ew
  go_wp2
  go_ret
  exact ⟨by rw [HV.out]; rfl, rfl⟩
theorem kind_35 (r : Int) (h1 : 35 ≤ r) (h2 : r ≤ 38) (hl : letterF r = false) (w : World) : Calls Try.prog 44 #[.int .i32 r] w fun e w' => e = .returned (.int .i64 (kindF r)) ∧ w' = w := by
  have d0 : decide (r < 0) = false := by simp; omega
  have d1 : decide (55296 ≤ r) = false := by simp; omega
  have d2 : decide (r ≤ 57343) = true := by simp; omega
  have d3 : decide (1114111 < r) = false := by simp; omega
  have d4 : decide (48 ≤ r) = false := by simp; omega
  have d5 : decide (r ≤ 57) = true := by simp; omega
  have d6 : decide (768 ≤ r) = false := by simp; omega
  have d7 : decide (r ≤ 879) = true := by simp; omega
  have d8 : decide (8192 ≤ r) = false := by simp; omega
  have d9 : decide (r ≤ 8202) = true := by simp; omega
  have d10 : decide (8216 ≤ r) = false := by simp; omega
  have d11 : decide (r ≤ 8223) = true := by simp; omega
  have d12 : decide (r < 32) = false := by simp; omega
  have d13 : decide (127 ≤ r) = false := by simp; omega
  have d14 : decide (r ≤ 159) = true := by simp; omega
  have d15 : decide (8203 ≤ r) = false := by simp; omega
  have d16 : decide (r ≤ 8207) = true := by simp; omega
  have e0 : (r == 10) = false := by simp; omega
  have e1 : (r == 13) = false := by simp; omega
  have e2 : (r == 9) = false := by simp; omega
  have e3 : (r == 32) = false := by simp; omega
  have e4 : (r == 160) = false := by simp; omega
  have e5 : (r == 8239) = false := by simp; omega
  have e6 : (r == 8287) = false := by simp; omega
  have e7 : (r == 12288) = false := by simp; omega
  have e8 : (r == 45) = false := by simp; omega
  have e9 : (r == 8208) = false := by simp; omega
  have e10 : (r == 8209) = false := by simp; omega
  have e11 : (r == 8210) = false := by simp; omega
  have e12 : (r == 8211) = false := by simp; omega
  have e13 : (r == 8212) = false := by simp; omega
  have e14 : (r == 8213) = false := by simp; omega
  have e15 : (r == 34) = false := by simp; omega
  have e16 : (r == 39) = false := by simp; omega
  have e17 : (r == 171) = false := by simp; omega
  have e18 : (r == 187) = false := by simp; omega
  have e19 : (r == 8249) = false := by simp; omega
  have e20 : (r == 8250) = false := by simp; omega
  have e21 : (r == 33) = false := by simp; omega
  have e22 : (r == 44) = false := by simp; omega
  have e23 : (r == 46) = false := by simp; omega
  have e24 : (r == 58) = false := by simp; omega
  have e25 : (r == 59) = false := by simp; omega
  have e26 : (r == 63) = false := by simp; omega
  have e27 : (r == 161) = false := by simp; omega
  have e28 : (r == 183) = false := by simp; omega
  have e29 : (r == 191) = false := by simp; omega
  have e30 : (r == 8230) = false := by simp; omega
  have e31 : (r == 65279) = false := by simp; omega
  have HV := Lib.hid (show kindF r = 10 from by unfold kindF; simp only [d0, d1, d2, d3, d4, d5, d6, d7, d8, d9, d10, d11, d12, d13, d14, d15, d16, e0, e1, e2, e3, e4, e5, e6, e7, e8, e9, e10, e11, e12, e13, e14, e15, e16, e17, e18, e19, e20, e21, e22, e23, e24, e25, e26, e27, e28, e29, e30, e31, hl, Bool.and_true, Bool.or_false, if_false, Bool.false_eq_true])
  clear h1 h2
  go_enter Try.func44, Try.ntmps44
  go_wp2_with fail
  refine (letter_no r hl _).mono ?_
  rintro e w' ⟨rfl, ew⟩
  subst ew
  go_wp2_with fail
  refine (mark_is r false (by unfold markF; simp only [d6, d7, Bool.and_true]) _).mono ?_
  rintro e w' ⟨rfl, ew⟩
  subst ew
  go_wp2
  go_ret
  exact ⟨by rw [HV.out]; rfl, rfl⟩
theorem kind_39 (r : Int) (h1 : 39 ≤ r) (h2 : r ≤ 39) (hl : letterF r = false) (w : World) : Calls Try.prog 44 #[.int .i32 r] w fun e w' => e = .returned (.int .i64 (kindF r)) ∧ w' = w := by
  obtain rfl : r = 39 := by omega
  have HV := Lib.hid (show kindF 39 = 7 from by decide +kernel)
  clear h1 h2
  go_enter Try.func44, Try.ntmps44
  go_wp2_with fail
  refine (letter_no 39 hl _).mono ?_
  rintro e w' ⟨rfl, ew⟩
  subst ew
  go_wp2_with fail
  refine (mark_is 39 false (by decide +kernel) _).mono ?_
  rintro e w' ⟨rfl, ew⟩
  subst ew
  go_wp2
  go_ret
  exact ⟨by rw [HV.out]; rfl, rfl⟩
theorem kind_40 (r : Int) (h1 : 40 ≤ r) (h2 : r ≤ 43) (hl : letterF r = false) (w : World) : Calls Try.prog 44 #[.int .i32 r] w fun e w' => e = .returned (.int .i64 (kindF r)) ∧ w' = w := by
  have d0 : decide (r < 0) = false := by simp; omega
  have d1 : decide (55296 ≤ r) = false := by simp; omega
  have d2 : decide (r ≤ 57343) = true := by simp; omega
  have d3 : decide (1114111 < r) = false := by simp; omega
  have d4 : decide (48 ≤ r) = false := by simp; omega
  have d5 : decide (r ≤ 57) = true := by simp; omega
  have d6 : decide (768 ≤ r) = false := by simp; omega
  have d7 : decide (r ≤ 879) = true := by simp; omega
  have d8 : decide (8192 ≤ r) = false := by simp; omega
  have d9 : decide (r ≤ 8202) = true := by simp; omega
  have d10 : decide (8216 ≤ r) = false := by simp; omega
  have d11 : decide (r ≤ 8223) = true := by simp; omega
  have d12 : decide (r < 32) = false := by simp; omega
  have d13 : decide (127 ≤ r) = false := by simp; omega
  have d14 : decide (r ≤ 159) = true := by simp; omega
  have d15 : decide (8203 ≤ r) = false := by simp; omega
  have d16 : decide (r ≤ 8207) = true := by simp; omega
  have e0 : (r == 10) = false := by simp; omega
  have e1 : (r == 13) = false := by simp; omega
  have e2 : (r == 9) = false := by simp; omega
  have e3 : (r == 32) = false := by simp; omega
  have e4 : (r == 160) = false := by simp; omega
  have e5 : (r == 8239) = false := by simp; omega
  have e6 : (r == 8287) = false := by simp; omega
  have e7 : (r == 12288) = false := by simp; omega
  have e8 : (r == 45) = false := by simp; omega
  have e9 : (r == 8208) = false := by simp; omega
  have e10 : (r == 8209) = false := by simp; omega
  have e11 : (r == 8210) = false := by simp; omega
  have e12 : (r == 8211) = false := by simp; omega
  have e13 : (r == 8212) = false := by simp; omega
  have e14 : (r == 8213) = false := by simp; omega
  have e15 : (r == 34) = false := by simp; omega
  have e16 : (r == 39) = false := by simp; omega
  have e17 : (r == 171) = false := by simp; omega
  have e18 : (r == 187) = false := by simp; omega
  have e19 : (r == 8249) = false := by simp; omega
  have e20 : (r == 8250) = false := by simp; omega
  have e21 : (r == 33) = false := by simp; omega
  have e22 : (r == 44) = false := by simp; omega
  have e23 : (r == 46) = false := by simp; omega
  have e24 : (r == 58) = false := by simp; omega
  have e25 : (r == 59) = false := by simp; omega
  have e26 : (r == 63) = false := by simp; omega
  have e27 : (r == 161) = false := by simp; omega
  have e28 : (r == 183) = false := by simp; omega
  have e29 : (r == 191) = false := by simp; omega
  have e30 : (r == 8230) = false := by simp; omega
  have e31 : (r == 65279) = false := by simp; omega
  have HV := Lib.hid (show kindF r = 10 from by unfold kindF; simp only [d0, d1, d2, d3, d4, d5, d6, d7, d8, d9, d10, d11, d12, d13, d14, d15, d16, e0, e1, e2, e3, e4, e5, e6, e7, e8, e9, e10, e11, e12, e13, e14, e15, e16, e17, e18, e19, e20, e21, e22, e23, e24, e25, e26, e27, e28, e29, e30, e31, hl, Bool.and_true, Bool.or_false, if_false, Bool.false_eq_true])
  clear h1 h2
  go_enter Try.func44, Try.ntmps44
  go_wp2_with fail
  refine (letter_no r hl _).mono ?_
  rintro e w' ⟨rfl, ew⟩
  subst ew
  go_wp2_with fail
  refine (mark_is r false (by unfold markF; simp only [d6, d7, Bool.and_true]) _).mono ?_
  rintro e w' ⟨rfl, ew⟩
  subst ew
  go_wp2
  go_ret
  exact ⟨by rw [HV.out]; rfl, rfl⟩
theorem kind_44 (r : Int) (h1 : 44 ≤ r) (h2 : r ≤ 44) (hl : letterF r = false) (w : World) : Calls Try.prog 44 #[.int .i32 r] w fun e w' => e = .returned (.int .i64 (kindF r)) ∧ w' = w := by
  obtain rfl : r = 44 := by omega
  have HV := Lib.hid (show kindF 44 = 8 from by decide +kernel)
  clear h1 h2
  go_enter Try.func44, Try.ntmps44
  go_wp2_with fail
  refine (letter_no 44 hl _).mono ?_
  rintro e w' ⟨rfl, ew⟩
  subst ew
  go_wp2_with fail
  refine (mark_is 44 false (by decide +kernel) _).mono ?_
  rintro e w' ⟨rfl, ew⟩
  subst ew
  go_wp2
  go_ret
  exact ⟨by rw [HV.out]; rfl, rfl⟩
theorem kind_45 (r : Int) (h1 : 45 ≤ r) (h2 : r ≤ 45) (hl : letterF r = false) (w : World) : Calls Try.prog 44 #[.int .i32 r] w fun e w' => e = .returned (.int .i64 (kindF r)) ∧ w' = w := by
  obtain rfl : r = 45 := by omega
  have HV := Lib.hid (show kindF 45 = 6 from by decide +kernel)
  clear h1 h2
  go_enter Try.func44, Try.ntmps44
  go_wp2_with fail
  refine (letter_no 45 hl _).mono ?_
  rintro e w' ⟨rfl, ew⟩
  subst ew
  go_wp2_with fail
  refine (mark_is 45 false (by decide +kernel) _).mono ?_
  rintro e w' ⟨rfl, ew⟩
  subst ew
  go_wp2
  go_ret
  exact ⟨by rw [HV.out]; rfl, rfl⟩
theorem kind_46 (r : Int) (h1 : 46 ≤ r) (h2 : r ≤ 46) (hl : letterF r = false) (w : World) : Calls Try.prog 44 #[.int .i32 r] w fun e w' => e = .returned (.int .i64 (kindF r)) ∧ w' = w := by
  obtain rfl : r = 46 := by omega
  have HV := Lib.hid (show kindF 46 = 8 from by decide +kernel)
  clear h1 h2
  go_enter Try.func44, Try.ntmps44
  go_wp2_with fail
  refine (letter_no 46 hl _).mono ?_
  rintro e w' ⟨rfl, ew⟩
  subst ew
  go_wp2_with fail
  refine (mark_is 46 false (by decide +kernel) _).mono ?_
  rintro e w' ⟨rfl, ew⟩
  subst ew
  go_wp2
  go_ret
  exact ⟨by rw [HV.out]; rfl, rfl⟩
theorem kind_47 (r : Int) (h1 : 47 ≤ r) (h2 : r ≤ 47) (hl : letterF r = false) (w : World) : Calls Try.prog 44 #[.int .i32 r] w fun e w' => e = .returned (.int .i64 (kindF r)) ∧ w' = w := by
  obtain rfl : r = 47 := by omega
  have HV := Lib.hid (show kindF 47 = 10 from by decide +kernel)
  clear h1 h2
  go_enter Try.func44, Try.ntmps44
  go_wp2_with fail
  refine (letter_no 47 hl _).mono ?_
  rintro e w' ⟨rfl, ew⟩
  subst ew
  go_wp2_with fail
  refine (mark_is 47 false (by decide +kernel) _).mono ?_
  rintro e w' ⟨rfl, ew⟩
  subst ew
  go_wp2
  go_ret
  exact ⟨by rw [HV.out]; rfl, rfl⟩
theorem kind_48 (r : Int) (h1 : 48 ≤ r) (h2 : r ≤ 57) (hl : letterF r = false) (w : World) : Calls Try.prog 44 #[.int .i32 r] w fun e w' => e = .returned (.int .i64 (kindF r)) ∧ w' = w := by
  have d0 : decide (r < 0) = false := by simp; omega
  have d1 : decide (55296 ≤ r) = false := by simp; omega
  have d2 : decide (r ≤ 57343) = true := by simp; omega
  have d3 : decide (1114111 < r) = false := by simp; omega
  have d4 : decide (48 ≤ r) = true := by simp; omega
  have d5 : decide (r ≤ 57) = true := by simp; omega
  have d6 : decide (768 ≤ r) = false := by simp; omega
  have d7 : decide (r ≤ 879) = true := by simp; omega
  have d8 : decide (8192 ≤ r) = false := by simp; omega
  have d9 : decide (r ≤ 8202) = true := by simp; omega
  have d10 : decide (8216 ≤ r) = false := by simp; omega
  have d11 : decide (r ≤ 8223) = true := by simp; omega
  have d12 : decide (r < 32) = false := by simp; omega
  have d13 : decide (127 ≤ r) = false := by simp; omega
  have d14 : decide (r ≤ 159) = true := by simp; omega
  have d15 : decide (8203 ≤ r) = false := by simp; omega
  have d16 : decide (r ≤ 8207) = true := by simp; omega
  have e0 : (r == 10) = false := by simp; omega
  have e1 : (r == 13) = false := by simp; omega
  have e2 : (r == 9) = false := by simp; omega
  have e3 : (r == 32) = false := by simp; omega
  have e4 : (r == 160) = false := by simp; omega
  have e5 : (r == 8239) = false := by simp; omega
  have e6 : (r == 8287) = false := by simp; omega
  have e7 : (r == 12288) = false := by simp; omega
  have e8 : (r == 45) = false := by simp; omega
  have e9 : (r == 8208) = false := by simp; omega
  have e10 : (r == 8209) = false := by simp; omega
  have e11 : (r == 8210) = false := by simp; omega
  have e12 : (r == 8211) = false := by simp; omega
  have e13 : (r == 8212) = false := by simp; omega
  have e14 : (r == 8213) = false := by simp; omega
  have e15 : (r == 34) = false := by simp; omega
  have e16 : (r == 39) = false := by simp; omega
  have e17 : (r == 171) = false := by simp; omega
  have e18 : (r == 187) = false := by simp; omega
  have e19 : (r == 8249) = false := by simp; omega
  have e20 : (r == 8250) = false := by simp; omega
  have e21 : (r == 33) = false := by simp; omega
  have e22 : (r == 44) = false := by simp; omega
  have e23 : (r == 46) = false := by simp; omega
  have e24 : (r == 58) = false := by simp; omega
  have e25 : (r == 59) = false := by simp; omega
  have e26 : (r == 63) = false := by simp; omega
  have e27 : (r == 161) = false := by simp; omega
  have e28 : (r == 183) = false := by simp; omega
  have e29 : (r == 191) = false := by simp; omega
  have e30 : (r == 8230) = false := by simp; omega
  have e31 : (r == 65279) = false := by simp; omega
  have HV := Lib.hid (show kindF r = 3 from by unfold kindF; simp only [d0, d1, d2, d3, d4, d5, d6, d7, d8, d9, d10, d11, d12, d13, d14, d15, d16, e0, e1, e2, e3, e4, e5, e6, e7, e8, e9, e10, e11, e12, e13, e14, e15, e16, e17, e18, e19, e20, e21, e22, e23, e24, e25, e26, e27, e28, e29, e30, e31, hl, Bool.and_true, Bool.or_false, if_true, if_false, Bool.false_eq_true])
  clear h1 h2
  go_enter Try.func44, Try.ntmps44
  go_wp2_with fail
  refine (letter_no r hl _).mono ?_
  rintro e w' ⟨rfl, ew⟩
  subst ew
  go_wp2_with fail
  refine (mark_is r false (by unfold markF; simp only [d6, d7, Bool.and_true]) _).mono ?_
  rintro e w' ⟨rfl, ew⟩
  subst ew
  go_wp2
  go_ret
  exact ⟨by rw [HV.out]; rfl, rfl⟩
theorem kind_58 (r : Int) (h1 : 58 ≤ r) (h2 : r ≤ 58) (hl : letterF r = false) (w : World) : Calls Try.prog 44 #[.int .i32 r] w fun e w' => e = .returned (.int .i64 (kindF r)) ∧ w' = w := by
  obtain rfl : r = 58 := by omega
  have HV := Lib.hid (show kindF 58 = 8 from by decide +kernel)
  clear h1 h2
  go_enter Try.func44, Try.ntmps44
  go_wp2_with fail
  refine (letter_no 58 hl _).mono ?_
  rintro e w' ⟨rfl, ew⟩
  subst ew
  go_wp2_with fail
  refine (mark_is 58 false (by decide +kernel) _).mono ?_
  rintro e w' ⟨rfl, ew⟩
  subst ew
  go_wp2
  go_ret
  exact ⟨by rw [HV.out]; rfl, rfl⟩
theorem kind_59 (r : Int) (h1 : 59 ≤ r) (h2 : r ≤ 59) (hl : letterF r = false) (w : World) : Calls Try.prog 44 #[.int .i32 r] w fun e w' => e = .returned (.int .i64 (kindF r)) ∧ w' = w := by
  obtain rfl : r = 59 := by omega
  have HV := Lib.hid (show kindF 59 = 8 from by decide +kernel)
  clear h1 h2
  go_enter Try.func44, Try.ntmps44
  go_wp2_with fail
  refine (letter_no 59 hl _).mono ?_
  rintro e w' ⟨rfl, ew⟩
  subst ew
  go_wp2_with fail
  refine (mark_is 59 false (by decide +kernel) _).mono ?_
  rintro e w' ⟨rfl, ew⟩
  subst ew
  go_wp2
  go_ret
  exact ⟨by rw [HV.out]; rfl, rfl⟩
theorem kind_60 (r : Int) (h1 : 60 ≤ r) (h2 : r ≤ 62) (hl : letterF r = false) (w : World) : Calls Try.prog 44 #[.int .i32 r] w fun e w' => e = .returned (.int .i64 (kindF r)) ∧ w' = w := by
  have d0 : decide (r < 0) = false := by simp; omega
  have d1 : decide (55296 ≤ r) = false := by simp; omega
  have d2 : decide (r ≤ 57343) = true := by simp; omega
  have d3 : decide (1114111 < r) = false := by simp; omega
  have d4 : decide (48 ≤ r) = true := by simp; omega
  have d5 : decide (r ≤ 57) = false := by simp; omega
  have d6 : decide (768 ≤ r) = false := by simp; omega
  have d7 : decide (r ≤ 879) = true := by simp; omega
  have d8 : decide (8192 ≤ r) = false := by simp; omega
  have d9 : decide (r ≤ 8202) = true := by simp; omega
  have d10 : decide (8216 ≤ r) = false := by simp; omega
  have d11 : decide (r ≤ 8223) = true := by simp; omega
  have d12 : decide (r < 32) = false := by simp; omega
  have d13 : decide (127 ≤ r) = false := by simp; omega
  have d14 : decide (r ≤ 159) = true := by simp; omega
  have d15 : decide (8203 ≤ r) = false := by simp; omega
  have d16 : decide (r ≤ 8207) = true := by simp; omega
  have e0 : (r == 10) = false := by simp; omega
  have e1 : (r == 13) = false := by simp; omega
  have e2 : (r == 9) = false := by simp; omega
  have e3 : (r == 32) = false := by simp; omega
  have e4 : (r == 160) = false := by simp; omega
  have e5 : (r == 8239) = false := by simp; omega
  have e6 : (r == 8287) = false := by simp; omega
  have e7 : (r == 12288) = false := by simp; omega
  have e8 : (r == 45) = false := by simp; omega
  have e9 : (r == 8208) = false := by simp; omega
  have e10 : (r == 8209) = false := by simp; omega
  have e11 : (r == 8210) = false := by simp; omega
  have e12 : (r == 8211) = false := by simp; omega
  have e13 : (r == 8212) = false := by simp; omega
  have e14 : (r == 8213) = false := by simp; omega
  have e15 : (r == 34) = false := by simp; omega
  have e16 : (r == 39) = false := by simp; omega
  have e17 : (r == 171) = false := by simp; omega
  have e18 : (r == 187) = false := by simp; omega
  have e19 : (r == 8249) = false := by simp; omega
  have e20 : (r == 8250) = false := by simp; omega
  have e21 : (r == 33) = false := by simp; omega
  have e22 : (r == 44) = false := by simp; omega
  have e23 : (r == 46) = false := by simp; omega
  have e24 : (r == 58) = false := by simp; omega
  have e25 : (r == 59) = false := by simp; omega
  have e26 : (r == 63) = false := by simp; omega
  have e27 : (r == 161) = false := by simp; omega
  have e28 : (r == 183) = false := by simp; omega
  have e29 : (r == 191) = false := by simp; omega
  have e30 : (r == 8230) = false := by simp; omega
  have e31 : (r == 65279) = false := by simp; omega
  have HV := Lib.hid (show kindF r = 10 from by unfold kindF; simp only [d0, d1, d2, d3, d4, d5, d6, d7, d8, d9, d10, d11, d12, d13, d14, d15, d16, e0, e1, e2, e3, e4, e5, e6, e7, e8, e9, e10, e11, e12, e13, e14, e15, e16, e17, e18, e19, e20, e21, e22, e23, e24, e25, e26, e27, e28, e29, e30, e31, hl, Bool.and_true, Bool.and_false, Bool.or_false, if_false, Bool.false_eq_true])
  clear h1 h2
  go_enter Try.func44, Try.ntmps44
  go_wp2_with fail
  refine (letter_no r hl _).mono ?_
  rintro e w' ⟨rfl, ew⟩
  subst ew
  go_wp2_with fail
  refine (mark_is r false (by unfold markF; simp only [d6, d7, Bool.and_true]) _).mono ?_
  rintro e w' ⟨rfl, ew⟩
  subst ew
  go_wp2
  go_ret
  exact ⟨by rw [HV.out]; rfl, rfl⟩
theorem kind_63 (r : Int) (h1 : 63 ≤ r) (h2 : r ≤ 63) (hl : letterF r = false) (w : World) : Calls Try.prog 44 #[.int .i32 r] w fun e w' => e = .returned (.int .i64 (kindF r)) ∧ w' = w := by
  obtain rfl : r = 63 := by omega
  have HV := Lib.hid (show kindF 63 = 8 from by decide +kernel)
  clear h1 h2
  go_enter Try.func44, Try.ntmps44
  go_wp2_with fail
  refine (letter_no 63 hl _).mono ?_
  rintro e w' ⟨rfl, ew⟩
  subst ew
  go_wp2_with fail
  refine (mark_is 63 false (by decide +kernel) _).mono ?_
  rintro e w' ⟨rfl, ew⟩
  subst ew
  go_wp2
  go_ret
  exact ⟨by rw [HV.out]; rfl, rfl⟩
theorem kind_64 (r : Int) (h1 : 64 ≤ r) (h2 : r ≤ 126) (hl : letterF r = false) (w : World) : Calls Try.prog 44 #[.int .i32 r] w fun e w' => e = .returned (.int .i64 (kindF r)) ∧ w' = w := by
  have d0 : decide (r < 0) = false := by simp; omega
  have d1 : decide (55296 ≤ r) = false := by simp; omega
  have d2 : decide (r ≤ 57343) = true := by simp; omega
  have d3 : decide (1114111 < r) = false := by simp; omega
  have d4 : decide (48 ≤ r) = true := by simp; omega
  have d5 : decide (r ≤ 57) = false := by simp; omega
  have d6 : decide (768 ≤ r) = false := by simp; omega
  have d7 : decide (r ≤ 879) = true := by simp; omega
  have d8 : decide (8192 ≤ r) = false := by simp; omega
  have d9 : decide (r ≤ 8202) = true := by simp; omega
  have d10 : decide (8216 ≤ r) = false := by simp; omega
  have d11 : decide (r ≤ 8223) = true := by simp; omega
  have d12 : decide (r < 32) = false := by simp; omega
  have d13 : decide (127 ≤ r) = false := by simp; omega
  have d14 : decide (r ≤ 159) = true := by simp; omega
  have d15 : decide (8203 ≤ r) = false := by simp; omega
  have d16 : decide (r ≤ 8207) = true := by simp; omega
  have e0 : (r == 10) = false := by simp; omega
  have e1 : (r == 13) = false := by simp; omega
  have e2 : (r == 9) = false := by simp; omega
  have e3 : (r == 32) = false := by simp; omega
  have e4 : (r == 160) = false := by simp; omega
  have e5 : (r == 8239) = false := by simp; omega
  have e6 : (r == 8287) = false := by simp; omega
  have e7 : (r == 12288) = false := by simp; omega
  have e8 : (r == 45) = false := by simp; omega
  have e9 : (r == 8208) = false := by simp; omega
  have e10 : (r == 8209) = false := by simp; omega
  have e11 : (r == 8210) = false := by simp; omega
  have e12 : (r == 8211) = false := by simp; omega
  have e13 : (r == 8212) = false := by simp; omega
  have e14 : (r == 8213) = false := by simp; omega
  have e15 : (r == 34) = false := by simp; omega
  have e16 : (r == 39) = false := by simp; omega
  have e17 : (r == 171) = false := by simp; omega
  have e18 : (r == 187) = false := by simp; omega
  have e19 : (r == 8249) = false := by simp; omega
  have e20 : (r == 8250) = false := by simp; omega
  have e21 : (r == 33) = false := by simp; omega
  have e22 : (r == 44) = false := by simp; omega
  have e23 : (r == 46) = false := by simp; omega
  have e24 : (r == 58) = false := by simp; omega
  have e25 : (r == 59) = false := by simp; omega
  have e26 : (r == 63) = false := by simp; omega
  have e27 : (r == 161) = false := by simp; omega
  have e28 : (r == 183) = false := by simp; omega
  have e29 : (r == 191) = false := by simp; omega
  have e30 : (r == 8230) = false := by simp; omega
  have e31 : (r == 65279) = false := by simp; omega
  have HV := Lib.hid (show kindF r = 10 from by unfold kindF; simp only [d0, d1, d2, d3, d4, d5, d6, d7, d8, d9, d10, d11, d12, d13, d14, d15, d16, e0, e1, e2, e3, e4, e5, e6, e7, e8, e9, e10, e11, e12, e13, e14, e15, e16, e17, e18, e19, e20, e21, e22, e23, e24, e25, e26, e27, e28, e29, e30, e31, hl, Bool.and_true, Bool.and_false, Bool.or_false, if_false, Bool.false_eq_true])
  clear h1 h2
  go_enter Try.func44, Try.ntmps44
  go_wp2_with fail
  refine (letter_no r hl _).mono ?_
  rintro e w' ⟨rfl, ew⟩
  subst ew
  go_wp2_with fail
  refine (mark_is r false (by unfold markF; simp only [d6, d7, Bool.and_true]) _).mono ?_
  rintro e w' ⟨rfl, ew⟩
  subst ew
  go_wp2
  go_ret
  exact ⟨by rw [HV.out]; rfl, rfl⟩
theorem kind_127 (r : Int) (h1 : 127 ≤ r) (h2 : r ≤ 159) (hl : letterF r = false) (w : World) : Calls Try.prog 44 #[.int .i32 r] w fun e w' => e = .returned (.int .i64 (kindF r)) ∧ w' = w := by
  have d0 : decide (r < 0) = false := by simp; omega
  have d1 : decide (55296 ≤ r) = false := by simp; omega
  have d2 : decide (r ≤ 57343) = true := by simp; omega
  have d3 : decide (1114111 < r) = false := by simp; omega
  have d4 : decide (48 ≤ r) = true := by simp; omega
  have d5 : decide (r ≤ 57) = false := by simp; omega
  have d6 : decide (768 ≤ r) = false := by simp; omega
  have d7 : decide (r ≤ 879) = true := by simp; omega
  have d8 : decide (8192 ≤ r) = false := by simp; omega
  have d9 : decide (r ≤ 8202) = true := by simp; omega
  have d10 : decide (8216 ≤ r) = false := by simp; omega
  have d11 : decide (r ≤ 8223) = true := by simp; omega
  have d12 : decide (r < 32) = false := by simp; omega
  have d13 : decide (127 ≤ r) = true := by simp; omega
  have d14 : decide (r ≤ 159) = true := by simp; omega
  have d15 : decide (8203 ≤ r) = false := by simp; omega
  have d16 : decide (r ≤ 8207) = true := by simp; omega
  have e0 : (r == 10) = false := by simp; omega
  have e1 : (r == 13) = false := by simp; omega
  have e2 : (r == 9) = false := by simp; omega
  have e3 : (r == 32) = false := by simp; omega
  have e4 : (r == 160) = false := by simp; omega
  have e5 : (r == 8239) = false := by simp; omega
  have e6 : (r == 8287) = false := by simp; omega
  have e7 : (r == 12288) = false := by simp; omega
  have e8 : (r == 45) = false := by simp; omega
  have e9 : (r == 8208) = false := by simp; omega
  have e10 : (r == 8209) = false := by simp; omega
  have e11 : (r == 8210) = false := by simp; omega
  have e12 : (r == 8211) = false := by simp; omega
  have e13 : (r == 8212) = false := by simp; omega
  have e14 : (r == 8213) = false := by simp; omega
  have e15 : (r == 34) = false := by simp; omega
  have e16 : (r == 39) = false := by simp; omega
  have e17 : (r == 171) = false := by simp; omega
  have e18 : (r == 187) = false := by simp; omega
  have e19 : (r == 8249) = false := by simp; omega
  have e20 : (r == 8250) = false := by simp; omega
  have e21 : (r == 33) = false := by simp; omega
  have e22 : (r == 44) = false := by simp; omega
  have e23 : (r == 46) = false := by simp; omega
  have e24 : (r == 58) = false := by simp; omega
  have e25 : (r == 59) = false := by simp; omega
  have e26 : (r == 63) = false := by simp; omega
  have e27 : (r == 161) = false := by simp; omega
  have e28 : (r == 183) = false := by simp; omega
  have e29 : (r == 191) = false := by simp; omega
  have e30 : (r == 8230) = false := by simp; omega
  have e31 : (r == 65279) = false := by simp; omega
  have HV := Lib.hid (show kindF r = 9 from by unfold kindF; simp only [d0, d1, d2, d3, d4, d5, d6, d7, d8, d9, d10, d11, d12, d13, d14, d15, d16, e0, e1, e2, e3, e4, e5, e6, e7, e8, e9, e10, e11, e12, e13, e14, e15, e16, e17, e18, e19, e20, e21, e22, e23, e24, e25, e26, e27, e28, e29, e30, e31, hl, Bool.and_true, Bool.and_false, Bool.or_true, Bool.or_false, if_true, if_false, Bool.false_eq_true])
  clear h1 h2
  go_enter Try.func44, Try.ntmps44
  go_wp2_with fail
  refine (letter_no r hl _).mono ?_
  rintro e w' ⟨rfl, ew⟩
  subst ew
  go_wp2_with fail
  refine (mark_is r false (by unfold markF; simp only [d6, d7, Bool.and_true]) _).mono ?_
  rintro e w' ⟨rfl, ew⟩
  subst ew
  go_wp2
  go_ret
  exact ⟨by rw [HV.out]; rfl, rfl⟩
theorem kind_160 (r : Int) (h1 : 160 ≤ r) (h2 : r ≤ 160) (hl : letterF r = false) (w : World) : Calls Try.prog 44 #[.int .i32 r] w fun e w' => e = .returned (.int .i64 (kindF r)) ∧ w' = w := by
  obtain rfl : r = 160 := by omega
  have HV := Lib.hid (show kindF 160 = 5 from by decide +kernel)
  clear h1 h2
  go_enter Try.func44, Try.ntmps44
  go_wp2_with fail
  refine (letter_no 160 hl _).mono ?_
  rintro e w' ⟨rfl, ew⟩
  subst ew
  go_wp2_with fail
  refine (mark_is 160 false (by decide +kernel) _).mono ?_
  rintro e w' ⟨rfl, ew⟩
  subst ew
  go_wp2
  go_ret
  exact ⟨by rw [HV.out]; rfl, rfl⟩
theorem kind_161 (r : Int) (h1 : 161 ≤ r) (h2 : r ≤ 161) (hl : letterF r = false) (w : World) : Calls Try.prog 44 #[.int .i32 r] w fun e w' => e = .returned (.int .i64 (kindF r)) ∧ w' = w := by
  obtain rfl : r = 161 := by omega
  have HV := Lib.hid (show kindF 161 = 8 from by decide +kernel)
  clear h1 h2
  go_enter Try.func44, Try.ntmps44
  go_wp2_with fail
  refine (letter_no 161 hl _).mono ?_
  rintro e w' ⟨rfl, ew⟩
  subst ew
  go_wp2_with fail
  refine (mark_is 161 false (by decide +kernel) _).mono ?_
  rintro e w' ⟨rfl, ew⟩
  subst ew
  go_wp2
  go_ret
  exact ⟨by rw [HV.out]; rfl, rfl⟩
theorem kind_162 (r : Int) (h1 : 162 ≤ r) (h2 : r ≤ 170) (hl : letterF r = false) (w : World) : Calls Try.prog 44 #[.int .i32 r] w fun e w' => e = .returned (.int .i64 (kindF r)) ∧ w' = w := by
  have d0 : decide (r < 0) = false := by simp; omega
  have d1 : decide (55296 ≤ r) = false := by simp; omega
  have d2 : decide (r ≤ 57343) = true := by simp; omega
  have d3 : decide (1114111 < r) = false := by simp; omega
  have d4 : decide (48 ≤ r) = true := by simp; omega
  have d5 : decide (r ≤ 57) = false := by simp; omega
  have d6 : decide (768 ≤ r) = false := by simp; omega
  have d7 : decide (r ≤ 879) = true := by simp; omega
  have d8 : decide (8192 ≤ r) = false := by simp; omega
  have d9 : decide (r ≤ 8202) = true := by simp; omega
  have d10 : decide (8216 ≤ r) = false := by simp; omega
  have d11 : decide (r ≤ 8223) = true := by simp; omega
  have d12 : decide (r < 32) = false := by simp; omega
  have d13 : decide (127 ≤ r) = true := by simp; omega
  have d14 : decide (r ≤ 159) = false := by simp; omega
  have d15 : decide (8203 ≤ r) = false := by simp; omega
  have d16 : decide (r ≤ 8207) = true := by simp; omega
  have e0 : (r == 10) = false := by simp; omega
  have e1 : (r == 13) = false := by simp; omega
  have e2 : (r == 9) = false := by simp; omega
  have e3 : (r == 32) = false := by simp; omega
  have e4 : (r == 160) = false := by simp; omega
  have e5 : (r == 8239) = false := by simp; omega
  have e6 : (r == 8287) = false := by simp; omega
  have e7 : (r == 12288) = false := by simp; omega
  have e8 : (r == 45) = false := by simp; omega
  have e9 : (r == 8208) = false := by simp; omega
  have e10 : (r == 8209) = false := by simp; omega
  have e11 : (r == 8210) = false := by simp; omega
  have e12 : (r == 8211) = false := by simp; omega
  have e13 : (r == 8212) = false := by simp; omega
  have e14 : (r == 8213) = false := by simp; omega
  have e15 : (r == 34) = false := by simp; omega
  have e16 : (r == 39) = false := by simp; omega
  have e17 : (r == 171) = false := by simp; omega
  have e18 : (r == 187) = false := by simp; omega
  have e19 : (r == 8249) = false := by simp; omega
  have e20 : (r == 8250) = false := by simp; omega
  have e21 : (r == 33) = false := by simp; omega
  have e22 : (r == 44) = false := by simp; omega
  have e23 : (r == 46) = false := by simp; omega
  have e24 : (r == 58) = false := by simp; omega
  have e25 : (r == 59) = false := by simp; omega
  have e26 : (r == 63) = false := by simp; omega
  have e27 : (r == 161) = false := by simp; omega
  have e28 : (r == 183) = false := by simp; omega
  have e29 : (r == 191) = false := by simp; omega
  have e30 : (r == 8230) = false := by simp; omega
  have e31 : (r == 65279) = false := by simp; omega
  have HV := Lib.hid (show kindF r = 10 from by unfold kindF; simp only [d0, d1, d2, d3, d4, d5, d6, d7, d8, d9, d10, d11, d12, d13, d14, d15, d16, e0, e1, e2, e3, e4, e5, e6, e7, e8, e9, e10, e11, e12, e13, e14, e15, e16, e17, e18, e19, e20, e21, e22, e23, e24, e25, e26, e27, e28, e29, e30, e31, hl, Bool.and_true, Bool.and_false, Bool.or_false, if_false, Bool.false_eq_true])
  clear h1 h2
  go_enter Try.func44, Try.ntmps44
  go_wp2_with fail
  refine (letter_no r hl _).mono ?_
  rintro e w' ⟨rfl, ew⟩
  subst ew
  go_wp2_with fail
  refine (mark_is r false (by unfold markF; simp only [d6, d7, Bool.and_true]) _).mono ?_
  rintro e w' ⟨rfl, ew⟩
  subst ew
  go_wp2
  go_ret
  exact ⟨by rw [HV.out]; rfl, rfl⟩
theorem kind_171 (r : Int) (h1 : 171 ≤ r) (h2 : r ≤ 171) (hl : letterF r = false) (w : World) : Calls Try.prog 44 #[.int .i32 r] w fun e w' => e = .returned (.int .i64 (kindF r)) ∧ w' = w := by
  obtain rfl : r = 171 := by omega
  have HV := Lib.hid (show kindF 171 = 7 from by decide +kernel)
  clear h1 h2
  go_enter Try.func44, Try.ntmps44
  go_wp2_with fail
  refine (letter_no 171 hl _).mono ?_
  rintro e w' ⟨rfl, ew⟩
  subst ew
  go_wp2_with fail
  refine (mark_is 171 false (by decide +kernel) _).mono ?_
  rintro e w' ⟨rfl, ew⟩
  subst ew
  go_wp2
  go_ret
  exact ⟨by rw [HV.out]; rfl, rfl⟩
theorem kind_172 (r : Int) (h1 : 172 ≤ r) (h2 : r ≤ 182) (hl : letterF r = false) (w : World) : Calls Try.prog 44 #[.int .i32 r] w fun e w' => e = .returned (.int .i64 (kindF r)) ∧ w' = w := by
  have d0 : decide (r < 0) = false := by simp; omega
  have d1 : decide (55296 ≤ r) = false := by simp; omega
  have d2 : decide (r ≤ 57343) = true := by simp; omega
  have d3 : decide (1114111 < r) = false := by simp; omega
  have d4 : decide (48 ≤ r) = true := by simp; omega
  have d5 : decide (r ≤ 57) = false := by simp; omega
  have d6 : decide (768 ≤ r) = false := by simp; omega
  have d7 : decide (r ≤ 879) = true := by simp; omega
  have d8 : decide (8192 ≤ r) = false := by simp; omega
  have d9 : decide (r ≤ 8202) = true := by simp; omega
  have d10 : decide (8216 ≤ r) = false := by simp; omega
  have d11 : decide (r ≤ 8223) = true := by simp; omega
  have d12 : decide (r < 32) = false := by simp; omega
  have d13 : decide (127 ≤ r) = true := by simp; omega
  have d14 : decide (r ≤ 159) = false := by simp; omega
  have d15 : decide (8203 ≤ r) = false := by simp; omega
  have d16 : decide (r ≤ 8207) = true := by simp; omega
  have e0 : (r == 10) = false := by simp; omega
  have e1 : (r == 13) = false := by simp; omega
  have e2 : (r == 9) = false := by simp; omega
  have e3 : (r == 32) = false := by simp; omega
  have e4 : (r == 160) = false := by simp; omega
  have e5 : (r == 8239) = false := by simp; omega
  have e6 : (r == 8287) = false := by simp; omega
  have e7 : (r == 12288) = false := by simp; omega
  have e8 : (r == 45) = false := by simp; omega
  have e9 : (r == 8208) = false := by simp; omega
  have e10 : (r == 8209) = false := by simp; omega
  have e11 : (r == 8210) = false := by simp; omega
  have e12 : (r == 8211) = false := by simp; omega
  have e13 : (r == 8212) = false := by simp; omega
  have e14 : (r == 8213) = false := by simp; omega
  have e15 : (r == 34) = false := by simp; omega
  have e16 : (r == 39) = false := by simp; omega
  have e17 : (r == 171) = false := by simp; omega
  have e18 : (r == 187) = false := by simp; omega
  have e19 : (r == 8249) = false := by simp; omega
  have e20 : (r == 8250) = false := by simp; omega
  have e21 : (r == 33) = false := by simp; omega
  have e22 : (r == 44) = false := by simp; omega
  have e23 : (r == 46) = false := by simp; omega
  have e24 : (r == 58) = false := by simp; omega
  have e25 : (r == 59) = false := by simp; omega
  have e26 : (r == 63) = false := by simp; omega
  have e27 : (r == 161) = false := by simp; omega
  have e28 : (r == 183) = false := by simp; omega
  have e29 : (r == 191) = false := by simp; omega
  have e30 : (r == 8230) = false := by simp; omega
  have e31 : (r == 65279) = false := by simp; omega
  have HV := Lib.hid (show kindF r = 10 from by unfold kindF; simp only [d0, d1, d2, d3, d4, d5, d6, d7, d8, d9, d10, d11, d12, d13, d14, d15, d16, e0, e1, e2, e3, e4, e5, e6, e7, e8, e9, e10, e11, e12, e13, e14, e15, e16, e17, e18, e19, e20, e21, e22, e23, e24, e25, e26, e27, e28, e29, e30, e31, hl, Bool.and_true, Bool.and_false, Bool.or_false, if_false, Bool.false_eq_true])
  clear h1 h2
  go_enter Try.func44, Try.ntmps44
  go_wp2_with fail
  refine (letter_no r hl _).mono ?_
  rintro e w' ⟨rfl, ew⟩
  subst ew
  go_wp2_with fail
  refine (mark_is r false (by unfold markF; simp only [d6, d7, Bool.and_true]) _).mono ?_
  rintro e w' ⟨rfl, ew⟩
  subst ew
  go_wp2
  go_ret
  exact ⟨by rw [HV.out]; rfl, rfl⟩
theorem kind_183 (r : Int) (h1 : 183 ≤ r) (h2 : r ≤ 183) (hl : letterF r = false) (w : World) : Calls Try.prog 44 #[.int .i32 r] w fun e w' => e = .returned (.int .i64 (kindF r)) ∧ w' = w := by
  obtain rfl : r = 183 := by omega
  have HV := Lib.hid (show kindF 183 = 8 from by decide +kernel)
  clear h1 h2
  go_enter Try.func44, Try.ntmps44
  go_wp2_with fail
  refine (letter_no 183 hl _).mono ?_
  rintro e w' ⟨rfl, ew⟩
  subst ew
  go_wp2_with fail
  refine (mark_is 183 false (by decide +kernel) _).mono ?_
  rintro e w' ⟨rfl, ew⟩
  subst ew
  go_wp2
  go_ret
  exact ⟨by rw [HV.out]; rfl, rfl⟩
theorem kind_184 (r : Int) (h1 : 184 ≤ r) (h2 : r ≤ 186) (hl : letterF r = false) (w : World) : Calls Try.prog 44 #[.int .i32 r] w fun e w' => e = .returned (.int .i64 (kindF r)) ∧ w' = w := by
  have d0 : decide (r < 0) = false := by simp; omega
  have d1 : decide (55296 ≤ r) = false := by simp; omega
  have d2 : decide (r ≤ 57343) = true := by simp; omega
  have d3 : decide (1114111 < r) = false := by simp; omega
  have d4 : decide (48 ≤ r) = true := by simp; omega
  have d5 : decide (r ≤ 57) = false := by simp; omega
  have d6 : decide (768 ≤ r) = false := by simp; omega
  have d7 : decide (r ≤ 879) = true := by simp; omega
  have d8 : decide (8192 ≤ r) = false := by simp; omega
  have d9 : decide (r ≤ 8202) = true := by simp; omega
  have d10 : decide (8216 ≤ r) = false := by simp; omega
  have d11 : decide (r ≤ 8223) = true := by simp; omega
  have d12 : decide (r < 32) = false := by simp; omega
  have d13 : decide (127 ≤ r) = true := by simp; omega
  have d14 : decide (r ≤ 159) = false := by simp; omega
  have d15 : decide (8203 ≤ r) = false := by simp; omega
  have d16 : decide (r ≤ 8207) = true := by simp; omega
  have e0 : (r == 10) = false := by simp; omega
  have e1 : (r == 13) = false := by simp; omega
  have e2 : (r == 9) = false := by simp; omega
  have e3 : (r == 32) = false := by simp; omega
  have e4 : (r == 160) = false := by simp; omega
  have e5 : (r == 8239) = false := by simp; omega
  have e6 : (r == 8287) = false := by simp; omega
  have e7 : (r == 12288) = false := by simp; omega
  have e8 : (r == 45) = false := by simp; omega
  have e9 : (r == 8208) = false := by simp; omega
  have e10 : (r == 8209) = false := by simp; omega
  have e11 : (r == 8210) = false := by simp; omega
  have e12 : (r == 8211) = false := by simp; omega
  have e13 : (r == 8212) = false := by simp; omega
  have e14 : (r == 8213) = false := by simp; omega
  have e15 : (r == 34) = false := by simp; omega
  have e16 : (r == 39) = false := by simp; omega
  have e17 : (r == 171) = false := by simp; omega
  have e18 : (r == 187) = false := by simp; omega
  have e19 : (r == 8249) = false := by simp; omega
  have e20 : (r == 8250) = false := by simp; omega
  have e21 : (r == 33) = false := by simp; omega
  have e22 : (r == 44) = false := by simp; omega
  have e23 : (r == 46) = false := by simp; omega
  have e24 : (r == 58) = false := by simp; omega
  have e25 : (r == 59) = false := by simp; omega
  have e26 : (r == 63) = false := by simp; omega
  have e27 : (r == 161) = false := by simp; omega
  have e28 : (r == 183) = false := by simp; omega
  have e29 : (r == 191) = false := by simp; omega
  have e30 : (r == 8230) = false := by simp; omega
  have e31 : (r == 65279) = false := by simp; omega
  have HV := Lib.hid (show kindF r = 10 from by unfold kindF; simp only [d0, d1, d2, d3, d4, d5, d6, d7, d8, d9, d10, d11, d12, d13, d14, d15, d16, e0, e1, e2, e3, e4, e5, e6, e7, e8, e9, e10, e11, e12, e13, e14, e15, e16, e17, e18, e19, e20, e21, e22, e23, e24, e25, e26, e27, e28, e29, e30, e31, hl, Bool.and_true, Bool.and_false, Bool.or_false, if_false, Bool.false_eq_true])
  clear h1 h2
  go_enter Try.func44, Try.ntmps44
  go_wp2_with fail
  refine (letter_no r hl _).mono ?_
  rintro e w' ⟨rfl, ew⟩
  subst ew
  go_wp2_with fail
  refine (mark_is r false (by unfold markF; simp only [d6, d7, Bool.and_true]) _).mono ?_
  rintro e w' ⟨rfl, ew⟩
  subst ew
  go_wp2
  go_ret
  exact ⟨by rw [HV.out]; rfl, rfl⟩
theorem kind_187 (r : Int) (h1 : 187 ≤ r) (h2 : r ≤ 187) (hl : letterF r = false) (w : World) : Calls Try.prog 44 #[.int .i32 r] w fun e w' => e = .returned (.int .i64 (kindF r)) ∧ w' = w := by
  obtain rfl : r = 187 := by omega
  have HV := Lib.hid (show kindF 187 = 7 from by decide +kernel)
  clear h1 h2
  go_enter Try.func44, Try.ntmps44
  go_wp2_with fail
  refine (letter_no 187 hl _).mono ?_
  rintro e w' ⟨rfl, ew⟩
  subst ew
  go_wp2_with fail
  refine (mark_is 187 false (by decide +kernel) _).mono ?_
  rintro e w' ⟨rfl, ew⟩
  subst ew
  go_wp2
  go_ret
  exact ⟨by rw [HV.out]; rfl, rfl⟩
theorem kind_188 (r : Int) (h1 : 188 ≤ r) (h2 : r ≤ 190) (hl : letterF r = false) (w : World) : Calls Try.prog 44 #[.int .i32 r] w fun e w' => e = .returned (.int .i64 (kindF r)) ∧ w' = w := by
  have d0 : decide (r < 0) = false := by simp; omega
  have d1 : decide (55296 ≤ r) = false := by simp; omega
  have d2 : decide (r ≤ 57343) = true := by simp; omega
  have d3 : decide (1114111 < r) = false := by simp; omega
  have d4 : decide (48 ≤ r) = true := by simp; omega
  have d5 : decide (r ≤ 57) = false := by simp; omega
  have d6 : decide (768 ≤ r) = false := by simp; omega
  have d7 : decide (r ≤ 879) = true := by simp; omega
  have d8 : decide (8192 ≤ r) = false := by simp; omega
  have d9 : decide (r ≤ 8202) = true := by simp; omega
  have d10 : decide (8216 ≤ r) = false := by simp; omega
  have d11 : decide (r ≤ 8223) = true := by simp; omega
  have d12 : decide (r < 32) = false := by simp; omega
  have d13 : decide (127 ≤ r) = true := by simp; omega
  have d14 : decide (r ≤ 159) = false := by simp; omega
  have d15 : decide (8203 ≤ r) = false := by simp; omega
  have d16 : decide (r ≤ 8207) = true := by simp; omega
  have e0 : (r == 10) = false := by simp; omega
  have e1 : (r == 13) = false := by simp; omega
  have e2 : (r == 9) = false := by simp; omega
  have e3 : (r == 32) = false := by simp; omega
  have e4 : (r == 160) = false := by simp; omega
  have e5 : (r == 8239) = false := by simp; omega
  have e6 : (r == 8287) = false := by simp; omega
  have e7 : (r == 12288) = false := by simp; omega
  have e8 : (r == 45) = false := by simp; omega
  have e9 : (r == 8208) = false := by simp; omega
  have e10 : (r == 8209) = false := by simp; omega
  have e11 : (r == 8210) = false := by simp; omega
  have e12 : (r == 8211) = false := by simp; omega
  have e13 : (r == 8212) = false := by simp; omega
  have e14 : (r == 8213) = false := by simp; omega
  have e15 : (r == 34) = false := by simp; omega
  have e16 : (r == 39) = false := by simp; omega
  have e17 : (r == 171) = false := by simp; omega
  have e18 : (r == 187) = false := by simp; omega
  have e19 : (r == 8249) = false := by simp; omega
  have e20 : (r == 8250) = false := by simp; omega
  have e21 : (r == 33) = false := by simp; omega
  have e22 : (r == 44) = false := by simp; omega
  have e23 : (r == 46) = false := by simp; omega
  have e24 : (r == 58) = false := by simp; omega
  have e25 : (r == 59) = false := by simp; omega
  have e26 : (r == 63) = false := by simp; omega
  have e27 : (r == 161) = false := by simp; omega
  have e28 : (r == 183) = false := by simp; omega
  have e29 : (r == 191) = false := by simp; omega
  have e30 : (r == 8230) = false := by simp; omega
  have e31 : (r == 65279) = false := by simp; omega
  have HV := Lib.hid (show kindF r = 10 from by unfold kindF; simp only [d0, d1, d2, d3, d4, d5, d6, d7, d8, d9, d10, d11, d12, d13, d14, d15, d16, e0, e1, e2, e3, e4, e5, e6, e7, e8, e9, e10, e11, e12, e13, e14, e15, e16, e17, e18, e19, e20, e21, e22, e23, e24, e25, e26, e27, e28, e29, e30, e31, hl, Bool.and_true, Bool.and_false, Bool.or_false, if_false, Bool.false_eq_true])
  clear h1 h2
  go_enter Try.func44, Try.ntmps44
  go_wp2_with fail
  refine (letter_no r hl _).mono ?_
  rintro e w' ⟨rfl, ew⟩
  subst ew
  go_wp2_with fail
  refine (mark_is r false (by unfold markF; simp only [d6, d7, Bool.and_true]) _).mono ?_
  rintro e w' ⟨rfl, ew⟩
  subst ew
  go_wp2
  go_ret
  exact ⟨by rw [HV.out]; rfl, rfl⟩
theorem kind_191 (r : Int) (h1 : 191 ≤ r) (h2 : r ≤ 191) (hl : letterF r = false) (w : World) : Calls Try.prog 44 #[.int .i32 r] w fun e w' => e = .returned (.int .i64 (kindF r)) ∧ w' = w := by
  obtain rfl : r = 191 := by omega
  have HV := Lib.hid (show kindF 191 = 8 from by decide +kernel)
  clear h1 h2
  go_enter Try.func44, Try.ntmps44
  go_wp2_with fail
  refine (letter_no 191 hl _).mono ?_
  rintro e w' ⟨rfl, ew⟩
  subst ew
  go_wp2_with fail
  refine (mark_is 191 false (by decide +kernel) _).mono ?_
  rintro e w' ⟨rfl, ew⟩
  subst ew
  go_wp2
  go_ret
  exact ⟨by rw [HV.out]; rfl, rfl⟩
theorem kind_192 (r : Int) (h1 : 192 ≤ r) (h2 : r ≤ 767) (hl : letterF r = false) (w : World) : Calls Try.prog 44 #[.int .i32 r] w fun e w' => e = .returned (.int .i64 (kindF r)) ∧ w' = w := by
  have d0 : decide (r < 0) = false := by simp; omega
  have d1 : decide (55296 ≤ r) = false := by simp; omega
  have d2 : decide (r ≤ 57343) = true := by simp; omega
  have d3 : decide (1114111 < r) = false := by simp; omega
  have d4 : decide (48 ≤ r) = true := by simp; omega
  have d5 : decide (r ≤ 57) = false := by simp; omega
  have d6 : decide (768 ≤ r) = false := by simp; omega
  have d7 : decide (r ≤ 879) = true := by simp; omega
  have d8 : decide (8192 ≤ r) = false := by simp; omega
  have d9 : decide (r ≤ 8202) = true := by simp; omega
  have d10 : decide (8216 ≤ r) = false := by simp; omega
  have d11 : decide (r ≤ 8223) = true := by simp; omega
  have d12 : decide (r < 32) = false := by simp; omega
  have d13 : decide (127 ≤ r) = true := by simp; omega
  have d14 : decide (r ≤ 159) = false := by simp; omega
  have d15 : decide (8203 ≤ r) = false := by simp; omega
  have d16 : decide (r ≤ 8207) = true := by simp; omega
  have e0 : (r == 10) = false := by simp; omega
  have e1 : (r == 13) = false := by simp; omega
  have e2 : (r == 9) = false := by simp; omega
  have e3 : (r == 32) = false := by simp; omega
  have e4 : (r == 160) = false := by simp; omega
  have e5 : (r == 8239) = false := by simp; omega
  have e6 : (r == 8287) = false := by simp; omega
  have e7 : (r == 12288) = false := by simp; omega
  have e8 : (r == 45) = false := by simp; omega
  have e9 : (r == 8208) = false := by simp; omega
  have e10 : (r == 8209) = false := by simp; omega
  have e11 : (r == 8210) = false := by simp; omega
  have e12 : (r == 8211) = false := by simp; omega
  have e13 : (r == 8212) = false := by simp; omega
  have e14 : (r == 8213) = false := by simp; omega
  have e15 : (r == 34) = false := by simp; omega
  have e16 : (r == 39) = false := by simp; omega
  have e17 : (r == 171) = false := by simp; omega
  have e18 : (r == 187) = false := by simp; omega
  have e19 : (r == 8249) = false := by simp; omega
  have e20 : (r == 8250) = false := by simp; omega
  have e21 : (r == 33) = false := by simp; omega
  have e22 : (r == 44) = false := by simp; omega
  have e23 : (r == 46) = false := by simp; omega
  have e24 : (r == 58) = false := by simp; omega
  have e25 : (r == 59) = false := by simp; omega
  have e26 : (r == 63) = false := by simp; omega
  have e27 : (r == 161) = false := by simp; omega
  have e28 : (r == 183) = false := by simp; omega
  have e29 : (r == 191) = false := by simp; omega
  have e30 : (r == 8230) = false := by simp; omega
  have e31 : (r == 65279) = false := by simp; omega
  have HV := Lib.hid (show kindF r = 10 from by unfold kindF; simp only [d0, d1, d2, d3, d4, d5, d6, d7, d8, d9, d10, d11, d12, d13, d14, d15, d16, e0, e1, e2, e3, e4, e5, e6, e7, e8, e9, e10, e11, e12, e13, e14, e15, e16, e17, e18, e19, e20, e21, e22, e23, e24, e25, e26, e27, e28, e29, e30, e31, hl, Bool.and_true, Bool.and_false, Bool.or_false, if_false, Bool.false_eq_true])
  clear h1 h2
  go_enter Try.func44, Try.ntmps44
  go_wp2_with fail
  refine (letter_no r hl _).mono ?_
  rintro e w' ⟨rfl, ew⟩
  subst ew
  go_wp2_with fail
  refine (mark_is r false (by unfold markF; simp only [d6, d7, Bool.and_true]) _).mono ?_
  rintro e w' ⟨rfl, ew⟩
  subst ew
  go_wp2
  go_ret
  exact ⟨by rw [HV.out]; rfl, rfl⟩
theorem kind_768 (r : Int) (h1 : 768 ≤ r) (h2 : r ≤ 879) (hl : letterF r = false) (w : World) : Calls Try.prog 44 #[.int .i32 r] w fun e w' => e = .returned (.int .i64 (kindF r)) ∧ w' = w := by
  have d0 : decide (r < 0) = false := by simp; omega
  have d1 : decide (55296 ≤ r) = false := by simp; omega
  have d2 : decide (r ≤ 57343) = true := by simp; omega
  have d3 : decide (1114111 < r) = false := by simp; omega
  have d4 : decide (48 ≤ r) = true := by simp; omega
  have d5 : decide (r ≤ 57) = false := by simp; omega
  have d6 : decide (768 ≤ r) = true := by simp; omega
  have d7 : decide (r ≤ 879) = true := by simp; omega
  have d8 : decide (8192 ≤ r) = false := by simp; omega
  have d9 : decide (r ≤ 8202) = true := by simp; omega
  have d10 : decide (8216 ≤ r) = false := by simp; omega
  have d11 : decide (r ≤ 8223) = true := by simp; omega
  have d12 : decide (r < 32) = false := by simp; omega
  have d13 : decide (127 ≤ r) = true := by simp; omega
  have d14 : decide (r ≤ 159) = false := by simp; omega
  have d15 : decide (8203 ≤ r) = false := by simp; omega
  have d16 : decide (r ≤ 8207) = true := by simp; omega
  have e0 : (r == 10) = false := by simp; omega
  have e1 : (r == 13) = false := by simp; omega
  have e2 : (r == 9) = false := by simp; omega
  have e3 : (r == 32) = false := by simp; omega
  have e4 : (r == 160) = false := by simp; omega
  have e5 : (r == 8239) = false := by simp; omega
  have e6 : (r == 8287) = false := by simp; omega
  have e7 : (r == 12288) = false := by simp; omega
  have e8 : (r == 45) = false := by simp; omega
  have e9 : (r == 8208) = false := by simp; omega
  have e10 : (r == 8209) = false := by simp; omega
  have e11 : (r == 8210) = false := by simp; omega
  have e12 : (r == 8211) = false := by simp; omega
  have e13 : (r == 8212) = false := by simp; omega
  have e14 : (r == 8213) = false := by simp; omega
  have e15 : (r == 34) = false := by simp; omega
  have e16 : (r == 39) = false := by simp; omega
  have e17 : (r == 171) = false := by simp; omega
  have e18 : (r == 187) = false := by simp; omega
  have e19 : (r == 8249) = false := by simp; omega
  have e20 : (r == 8250) = false := by simp; omega
  have e21 : (r == 33) = false := by simp; omega
  have e22 : (r == 44) = false := by simp; omega
  have e23 : (r == 46) = false := by simp; omega
  have e24 : (r == 58) = false := by simp; omega
  have e25 : (r == 59) = false := by simp; omega
  have e26 : (r == 63) = false := by simp; omega
  have e27 : (r == 161) = false := by simp; omega
  have e28 : (r == 183) = false := by simp; omega
  have e29 : (r == 191) = false := by simp; omega
  have e30 : (r == 8230) = false := by simp; omega
  have e31 : (r == 65279) = false := by simp; omega
  have HV := Lib.hid (show kindF r = 2 from by unfold kindF; simp only [d0, d1, d2, d3, d4, d5, d6, d7, d8, d9, d10, d11, d12, d13, d14, d15, d16, e0, e1, e2, e3, e4, e5, e6, e7, e8, e9, e10, e11, e12, e13, e14, e15, e16, e17, e18, e19, e20, e21, e22, e23, e24, e25, e26, e27, e28, e29, e30, e31, hl, Bool.and_true, Bool.and_false, Bool.or_false, if_true, if_false, Bool.false_eq_true])
  clear h1 h2
  go_enter Try.func44, Try.ntmps44
  go_wp2_with fail
  refine (letter_no r hl _).mono ?_
  rintro e w' ⟨rfl, ew⟩
  subst ew
  go_wp2_with fail
  refine (mark_is r true (by unfold markF; simp only [d6, d7, Bool.and_true]) _).mono ?_
  rintro e w' ⟨rfl, ew⟩
  subst ew
  go_wp2
  go_ret
  exact ⟨by rw [HV.out]; rfl, rfl⟩
theorem kind_880 (r : Int) (h1 : 880 ≤ r) (h2 : r ≤ 8191) (hl : letterF r = false) (w : World) : Calls Try.prog 44 #[.int .i32 r] w fun e w' => e = .returned (.int .i64 (kindF r)) ∧ w' = w := by
  have d0 : decide (r < 0) = false := by simp; omega
  have d1 : decide (55296 ≤ r) = false := by simp; omega
  have d2 : decide (r ≤ 57343) = true := by simp; omega
  have d3 : decide (1114111 < r) = false := by simp; omega
  have d4 : decide (48 ≤ r) = true := by simp; omega
  have d5 : decide (r ≤ 57) = false := by simp; omega
  have d6 : decide (768 ≤ r) = true := by simp; omega
  have d7 : decide (r ≤ 879) = false := by simp; omega
  have d8 : decide (8192 ≤ r) = false := by simp; omega
  have d9 : decide (r ≤ 8202) = true := by simp; omega
  have d10 : decide (8216 ≤ r) = false := by simp; omega
  have d11 : decide (r ≤ 8223) = true := by simp; omega
  have d12 : decide (r < 32) = false := by simp; omega
  have d13 : decide (127 ≤ r) = true := by simp; omega
  have d14 : decide (r ≤ 159) = false := by simp; omega
  have d15 : decide (8203 ≤ r) = false := by simp; omega
  have d16 : decide (r ≤ 8207) = true := by simp; omega
  have e0 : (r == 10) = false := by simp; omega
  have e1 : (r == 13) = false := by simp; omega
  have e2 : (r == 9) = false := by simp; omega
  have e3 : (r == 32) = false := by simp; omega
  have e4 : (r == 160) = false := by simp; omega
  have e5 : (r == 8239) = false := by simp; omega
  have e6 : (r == 8287) = false := by simp; omega
  have e7 : (r == 12288) = false := by simp; omega
  have e8 : (r == 45) = false := by simp; omega
  have e9 : (r == 8208) = false := by simp; omega
  have e10 : (r == 8209) = false := by simp; omega
  have e11 : (r == 8210) = false := by simp; omega
  have e12 : (r == 8211) = false := by simp; omega
  have e13 : (r == 8212) = false := by simp; omega
  have e14 : (r == 8213) = false := by simp; omega
  have e15 : (r == 34) = false := by simp; omega
  have e16 : (r == 39) = false := by simp; omega
  have e17 : (r == 171) = false := by simp; omega
  have e18 : (r == 187) = false := by simp; omega
  have e19 : (r == 8249) = false := by simp; omega
  have e20 : (r == 8250) = false := by simp; omega
  have e21 : (r == 33) = false := by simp; omega
  have e22 : (r == 44) = false := by simp; omega
  have e23 : (r == 46) = false := by simp; omega
  have e24 : (r == 58) = false := by simp; omega
  have e25 : (r == 59) = false := by simp; omega
  have e26 : (r == 63) = false := by simp; omega
  have e27 : (r == 161) = false := by simp; omega
  have e28 : (r == 183) = false := by simp; omega
  have e29 : (r == 191) = false := by simp; omega
  have e30 : (r == 8230) = false := by simp; omega
  have e31 : (r == 65279) = false := by simp; omega
  have HV := Lib.hid (show kindF r = 10 from by unfold kindF; simp only [d0, d1, d2, d3, d4, d5, d6, d7, d8, d9, d10, d11, d12, d13, d14, d15, d16, e0, e1, e2, e3, e4, e5, e6, e7, e8, e9, e10, e11, e12, e13, e14, e15, e16, e17, e18, e19, e20, e21, e22, e23, e24, e25, e26, e27, e28, e29, e30, e31, hl, Bool.and_true, Bool.and_false, Bool.or_false, if_false, Bool.false_eq_true])
  clear h1 h2
  go_enter Try.func44, Try.ntmps44
  go_wp2_with fail
  refine (letter_no r hl _).mono ?_
  rintro e w' ⟨rfl, ew⟩
  subst ew
  go_wp2_with fail
  refine (mark_is r false (by unfold markF; simp only [d6, d7, Bool.and_false]) _).mono ?_
  rintro e w' ⟨rfl, ew⟩
  subst ew
  go_wp2
  go_ret
  exact ⟨by rw [HV.out]; rfl, rfl⟩
theorem kind_8192 (r : Int) (h1 : 8192 ≤ r) (h2 : r ≤ 8202) (hl : letterF r = false) (w : World) : Calls Try.prog 44 #[.int .i32 r] w fun e w' => e = .returned (.int .i64 (kindF r)) ∧ w' = w := by
  have d0 : decide (r < 0) = false := by simp; omega
  have d1 : decide (55296 ≤ r) = false := by simp; omega
  have d2 : decide (r ≤ 57343) = true := by simp; omega
  have d3 : decide (1114111 < r) = false := by simp; omega
  have d4 : decide (48 ≤ r) = true := by simp; omega
  have d5 : decide (r ≤ 57) = false := by simp; omega
  have d6 : decide (768 ≤ r) = true := by simp; omega
  have d7 : decide (r ≤ 879) = false := by simp; omega
  have d8 : decide (8192 ≤ r) = true := by simp; omega
  have d9 : decide (r ≤ 8202) = true := by simp; omega
  have d10 : decide (8216 ≤ r) = false := by simp; omega
  have d11 : decide (r ≤ 8223) = true := by simp; omega
  have d12 : decide (r < 32) = false := by simp; omega
  have d13 : decide (127 ≤ r) = true := by simp; omega
  have d14 : decide (r ≤ 159) = false := by simp; omega
  have d15 : decide (8203 ≤ r) = false := by simp; omega
  have d16 : decide (r ≤ 8207) = true := by simp; omega
  have e0 : (r == 10) = false := by simp; omega
  have e1 : (r == 13) = false := by simp; omega
  have e2 : (r == 9) = false := by simp; omega
  have e3 : (r == 32) = false := by simp; omega
  have e4 : (r == 160) = false := by simp; omega
  have e5 : (r == 8239) = false := by simp; omega
  have e6 : (r == 8287) = false := by simp; omega
  have e7 : (r == 12288) = false := by simp; omega
  have e8 : (r == 45) = false := by simp; omega
  have e9 : (r == 8208) = false := by simp; omega
  have e10 : (r == 8209) = false := by simp; omega
  have e11 : (r == 8210) = false := by simp; omega
  have e12 : (r == 8211) = false := by simp; omega
  have e13 : (r == 8212) = false := by simp; omega
  have e14 : (r == 8213) = false := by simp; omega
  have e15 : (r == 34) = false := by simp; omega
  have e16 : (r == 39) = false := by simp; omega
  have e17 : (r == 171) = false := by simp; omega
  have e18 : (r == 187) = false := by simp; omega
  have e19 : (r == 8249) = false := by simp; omega
  have e20 : (r == 8250) = false := by simp; omega
  have e21 : (r == 33) = false := by simp; omega
  have e22 : (r == 44) = false := by simp; omega
  have e23 : (r == 46) = false := by simp; omega
  have e24 : (r == 58) = false := by simp; omega
  have e25 : (r == 59) = false := by simp; omega
  have e26 : (r == 63) = false := by simp; omega
  have e27 : (r == 161) = false := by simp; omega
  have e28 : (r == 183) = false := by simp; omega
  have e29 : (r == 191) = false := by simp; omega
  have e30 : (r == 8230) = false := by simp; omega
  have e31 : (r == 65279) = false := by simp; omega
  have HV := Lib.hid (show kindF r = 5 from by unfold kindF; simp only [d0, d1, d2, d3, d4, d5, d6, d7, d8, d9, d10, d11, d12, d13, d14, d15, d16, e0, e1, e2, e3, e4, e5, e6, e7, e8, e9, e10, e11, e12, e13, e14, e15, e16, e17, e18, e19, e20, e21, e22, e23, e24, e25, e26, e27, e28, e29, e30, e31, hl, Bool.and_true, Bool.and_false, Bool.or_false, if_true, if_false, Bool.false_eq_true])
  clear h1 h2
  go_enter Try.func44, Try.ntmps44
  go_wp2_with fail
  refine (letter_no r hl _).mono ?_
  rintro e w' ⟨rfl, ew⟩
  subst ew
  go_wp2_with fail
  refine (mark_is r false (by unfold markF; simp only [d6, d7, Bool.and_false]) _).mono ?_
  rintro e w' ⟨rfl, ew⟩
  subst ew
  go_wp2
  go_ret
  exact ⟨by rw [HV.out]; rfl, rfl⟩
theorem kind_8203 (r : Int) (h1 : 8203 ≤ r) (h2 : r ≤ 8207) (hl : letterF r = false) (w : World) : Calls Try.prog 44 #[.int .i32 r] w fun e w' => e = .returned (.int .i64 (kindF r)) ∧ w' = w := by
  have d0 : decide (r < 0) = false := by simp; omega
  have d1 : decide (55296 ≤ r) = false := by simp; omega
  have d2 : decide (r ≤ 57343) = true := by simp; omega
  have d3 : decide (1114111 < r) = false := by simp; omega
  have d4 : decide (48 ≤ r) = true := by simp; omega
  have d5 : decide (r ≤ 57) = false := by simp; omega
  have d6 : decide (768 ≤ r) = true := by simp; omega
  have d7 : decide (r ≤ 879) = false := by simp; omega
  have d8 : decide (8192 ≤ r) = true := by simp; omega
  have d9 : decide (r ≤ 8202) = false := by simp; omega
  have d10 : decide (8216 ≤ r) = false := by simp; omega
  have d11 : decide (r ≤ 8223) = true := by simp; omega
  have d12 : decide (r < 32) = false := by simp; omega
  have d13 : decide (127 ≤ r) = true := by simp; omega
  have d14 : decide (r ≤ 159) = false := by simp; omega
  have d15 : decide (8203 ≤ r) = true := by simp; omega
  have d16 : decide (r ≤ 8207) = true := by simp; omega
  have e0 : (r == 10) = false := by simp; omega
  have e1 : (r == 13) = false := by simp; omega
  have e2 : (r == 9) = false := by simp; omega
  have e3 : (r == 32) = false := by simp; omega
  have e4 : (r == 160) = false := by simp; omega
  have e5 : (r == 8239) = false := by simp; omega
  have e6 : (r == 8287) = false := by simp; omega
  have e7 : (r == 12288) = false := by simp; omega
  have e8 : (r == 45) = false := by simp; omega
  have e9 : (r == 8208) = false := by simp; omega
  have e10 : (r == 8209) = false := by simp; omega
  have e11 : (r == 8210) = false := by simp; omega
  have e12 : (r == 8211) = false := by simp; omega
  have e13 : (r == 8212) = false := by simp; omega
  have e14 : (r == 8213) = false := by simp; omega
  have e15 : (r == 34) = false := by simp; omega
  have e16 : (r == 39) = false := by simp; omega
  have e17 : (r == 171) = false := by simp; omega
  have e18 : (r == 187) = false := by simp; omega
  have e19 : (r == 8249) = false := by simp; omega
  have e20 : (r == 8250) = false := by simp; omega
  have e21 : (r == 33) = false := by simp; omega
  have e22 : (r == 44) = false := by simp; omega
  have e23 : (r == 46) = false := by simp; omega
  have e24 : (r == 58) = false := by simp; omega
  have e25 : (r == 59) = false := by simp; omega
  have e26 : (r == 63) = false := by simp; omega
  have e27 : (r == 161) = false := by simp; omega
  have e28 : (r == 183) = false := by simp; omega
  have e29 : (r == 191) = false := by simp; omega
  have e30 : (r == 8230) = false := by simp; omega
  have e31 : (r == 65279) = false := by simp; omega
  have HV := Lib.hid (show kindF r = 9 from by unfold kindF; simp only [d0, d1, d2, d3, d4, d5, d6, d7, d8, d9, d10, d11, d12, d13, d14, d15, d16, e0, e1, e2, e3, e4, e5, e6, e7, e8, e9, e10, e11, e12, e13, e14, e15, e16, e17, e18, e19, e20, e21, e22, e23, e24, e25, e26, e27, e28, e29, e30, e31, hl, Bool.and_true, Bool.and_false, Bool.or_true, Bool.or_false, if_true, if_false, Bool.false_eq_true])
  clear h1 h2
  go_enter Try.func44, Try.ntmps44
  go_wp2_with fail
  refine (letter_no r hl _).mono ?_
  rintro e w' ⟨rfl, ew⟩
  subst ew
  go_wp2_with fail
  refine (mark_is r false (by unfold markF; simp only [d6, d7, Bool.and_false]) _).mono ?_
  rintro e w' ⟨rfl, ew⟩
  subst ew
  go_wp2
  go_ret
  exact ⟨by rw [HV.out]; rfl, rfl⟩
theorem kind_8208 (r : Int) (h1 : 8208 ≤ r) (h2 : r ≤ 8208) (hl : letterF r = false) (w : World) : Calls Try.prog 44 #[.int .i32 r] w fun e w' => e = .returned (.int .i64 (kindF r)) ∧ w' = w := by
  obtain rfl : r = 8208 := by omega
  have HV := Lib.hid (show kindF 8208 = 6 from by decide +kernel)
  clear h1 h2
  go_enter Try.func44, Try.ntmps44
  go_wp2_with fail
  refine (letter_no 8208 hl _).mono ?_
  rintro e w' ⟨rfl, ew⟩
  subst ew
  go_wp2_with fail
  refine (mark_is 8208 false (by decide +kernel) _).mono ?_
  rintro e w' ⟨rfl, ew⟩
  subst ew
  go_wp2
  go_ret
  exact ⟨by rw [HV.out]; rfl, rfl⟩
theorem kind_8209 (r : Int) (h1 : 8209 ≤ r) (h2 : r ≤ 8209) (hl : letterF r = false) (w : World) : Calls Try.prog 44 #[.int .i32 r] w fun e w' => e = .returned (.int .i64 (kindF r)) ∧ w' = w := by
  obtain rfl : r = 8209 := by omega
  have HV := Lib.hid (show kindF 8209 = 6 from by decide +kernel)
  clear h1 h2
  go_enter Try.func44, Try.ntmps44
  go_wp2_with fail
  refine (letter_no 8209 hl _).mono ?_
  rintro e w' ⟨rfl, ew⟩
  subst ew
  go_wp2_with fail
  refine (mark_is 8209 false (by decide +kernel) _).mono ?_
  rintro e w' ⟨rfl, ew⟩
  subst ew
  go_wp2
  go_ret
  exact ⟨by rw [HV.out]; rfl, rfl⟩
theorem kind_8210 (r : Int) (h1 : 8210 ≤ r) (h2 : r ≤ 8210) (hl : letterF r = false) (w : World) : Calls Try.prog 44 #[.int .i32 r] w fun e w' => e = .returned (.int .i64 (kindF r)) ∧ w' = w := by
  obtain rfl : r = 8210 := by omega
  have HV := Lib.hid (show kindF 8210 = 6 from by decide +kernel)
  clear h1 h2
  go_enter Try.func44, Try.ntmps44
  go_wp2_with fail
  refine (letter_no 8210 hl _).mono ?_
  rintro e w' ⟨rfl, ew⟩
  subst ew
  go_wp2_with fail
  refine (mark_is 8210 false (by decide +kernel) _).mono ?_
  rintro e w' ⟨rfl, ew⟩
  subst ew
  go_wp2
  go_ret
  exact ⟨by rw [HV.out]; rfl, rfl⟩
theorem kind_8211 (r : Int) (h1 : 8211 ≤ r) (h2 : r ≤ 8211) (hl : letterF r = false) (w : World) : Calls Try.prog 44 #[.int .i32 r] w fun e w' => e = .returned (.int .i64 (kindF r)) ∧ w' = w := by
  obtain rfl : r = 8211 := by omega
  have HV := Lib.hid (show kindF 8211 = 6 from by decide +kernel)
  clear h1 h2
  go_enter Try.func44, Try.ntmps44
  go_wp2_with fail
  refine (letter_no 8211 hl _).mono ?_
  rintro e w' ⟨rfl, ew⟩
  subst ew
  go_wp2_with fail
  refine (mark_is 8211 false (by decide +kernel) _).mono ?_
  rintro e w' ⟨rfl, ew⟩
  subst ew
  go_wp2
  go_ret
  exact ⟨by rw [HV.out]; rfl, rfl⟩
theorem kind_8212 (r : Int) (h1 : 8212 ≤ r) (h2 : r ≤ 8212) (hl : letterF r = false) (w : World) : Calls Try.prog 44 #[.int .i32 r] w fun e w' => e = .returned (.int .i64 (kindF r)) ∧ w' = w := by
  obtain rfl : r = 8212 := by omega
  have HV := Lib.hid (show kindF 8212 = 6 from by decide +kernel)
  clear h1 h2
  go_enter Try.func44, Try.ntmps44
  go_wp2_with fail
  refine (letter_no 8212 hl _).mono ?_
  rintro e w' ⟨rfl, ew⟩
  subst ew
  go_wp2_with fail
  refine (mark_is 8212 false (by decide +kernel) _).mono ?_
  rintro e w' ⟨rfl, ew⟩
  subst ew
  go_wp2
  go_ret
  exact ⟨by rw [HV.out]; rfl, rfl⟩
theorem kind_8213 (r : Int) (h1 : 8213 ≤ r) (h2 : r ≤ 8213) (hl : letterF r = false) (w : World) : Calls Try.prog 44 #[.int .i32 r] w fun e w' => e = .returned (.int .i64 (kindF r)) ∧ w' = w := by
  obtain rfl : r = 8213 := by omega
  have HV := Lib.hid (show kindF 8213 = 6 from by decide +kernel)
  clear h1 h2
  go_enter Try.func44, Try.ntmps44
  go_wp2_with fail
  refine (letter_no 8213 hl _).mono ?_
  rintro e w' ⟨rfl, ew⟩
  subst ew
  go_wp2_with fail
  refine (mark_is 8213 false (by decide +kernel) _).mono ?_
  rintro e w' ⟨rfl, ew⟩
  subst ew
  go_wp2
  go_ret
  exact ⟨by rw [HV.out]; rfl, rfl⟩
theorem kind_8214 (r : Int) (h1 : 8214 ≤ r) (h2 : r ≤ 8215) (hl : letterF r = false) (w : World) : Calls Try.prog 44 #[.int .i32 r] w fun e w' => e = .returned (.int .i64 (kindF r)) ∧ w' = w := by
  have d0 : decide (r < 0) = false := by simp; omega
  have d1 : decide (55296 ≤ r) = false := by simp; omega
  have d2 : decide (r ≤ 57343) = true := by simp; omega
  have d3 : decide (1114111 < r) = false := by simp; omega
  have d4 : decide (48 ≤ r) = true := by simp; omega
  have d5 : decide (r ≤ 57) = false := by simp; omega
  have d6 : decide (768 ≤ r) = true := by simp; omega
  have d7 : decide (r ≤ 879) = false := by simp; omega
  have d8 : decide (8192 ≤ r) = true := by simp; omega
  have d9 : decide (r ≤ 8202) = false := by simp; omega
  have d10 : decide (8216 ≤ r) = false := by simp; omega
  have d11 : decide (r ≤ 8223) = true := by simp; omega
  have d12 : decide (r < 32) = false := by simp; omega
  have d13 : decide (127 ≤ r) = true := by simp; omega
  have d14 : decide (r ≤ 159) = false := by simp; omega
  have d15 : decide (8203 ≤ r) = true := by simp; omega
  have d16 : decide (r ≤ 8207) = false := by simp; omega
  have e0 : (r == 10) = false := by simp; omega
  have e1 : (r == 13) = false := by simp; omega
  have e2 : (r == 9) = false := by simp; omega
  have e3 : (r == 32) = false := by simp; omega
  have e4 : (r == 160) = false := by simp; omega
  have e5 : (r == 8239) = false := by simp; omega
  have e6 : (r == 8287) = false := by simp; omega
  have e7 : (r == 12288) = false := by simp; omega
  have e8 : (r == 45) = false := by simp; omega
  have e9 : (r == 8208) = false := by simp; omega
  have e10 : (r == 8209) = false := by simp; omega
  have e11 : (r == 8210) = false := by simp; omega
  have e12 : (r == 8211) = false := by simp; omega
  have e13 : (r == 8212) = false := by simp; omega
  have e14 : (r == 8213) = false := by simp; omega
  have e15 : (r == 34) = false := by simp; omega
  have e16 : (r == 39) = false := by simp; omega
  have e17 : (r == 171) = false := by simp; omega
  have e18 : (r == 187) = false := by simp; omega
  have e19 : (r == 8249) = false := by simp; omega
  have e20 : (r == 8250) = false := by simp; omega
  have e21 : (r == 33) = false := by simp; omega
  have e22 : (r == 44) = false := by simp; omega
  have e23 : (r == 46) = false := by simp; omega
  have e24 : (r == 58) = false := by simp; omega
  have e25 : (r == 59) = false := by simp; omega
  have e26 : (r == 63) = false := by simp; omega
  have e27 : (r == 161) = false := by simp; omega
  have e28 : (r == 183) = false := by simp; omega
  have e29 : (r == 191) = false := by simp; omega
  have e30 : (r == 8230) = false := by simp; omega
  have e31 : (r == 65279) = false := by simp; omega
  have HV := Lib.hid (show kindF r = 10 from by unfold kindF; simp only [d0, d1, d2, d3, d4, d5, d6, d7, d8, d9, d10, d11, d12, d13, d14, d15, d16, e0, e1, e2, e3, e4, e5, e6, e7, e8, e9, e10, e11, e12, e13, e14, e15, e16, e17, e18, e19, e20, e21, e22, e23, e24, e25, e26, e27, e28, e29, e30, e31, hl, Bool.and_true, Bool.and_false, Bool.or_false, if_false, Bool.false_eq_true])
  clear h1 h2
  go_enter Try.func44, Try.ntmps44
  go_wp2_with fail
  refine (letter_no r hl _).mono ?_
  rintro e w' ⟨rfl, ew⟩
  subst ew
  go_wp2_with fail
  refine (mark_is r false (by unfold markF; simp only [d6, d7, Bool.and_false]) _).mono ?_
  rintro e w' ⟨rfl, ew⟩
  subst ew
  go_wp2
  go_ret
  exact ⟨by rw [HV.out]; rfl, rfl⟩
theorem kind_8216 (r : Int) (h1 : 8216 ≤ r) (h2 : r ≤ 8223) (hl : letterF r = false) (w : World) : Calls Try.prog 44 #[.int .i32 r] w fun e w' => e = .returned (.int .i64 (kindF r)) ∧ w' = w := by
  have d0 : decide (r < 0) = false := by simp; omega
  have d1 : decide (55296 ≤ r) = false := by simp; omega
  have d2 : decide (r ≤ 57343) = true := by simp; omega
  have d3 : decide (1114111 < r) = false := by simp; omega
  have d4 : decide (48 ≤ r) = true := by simp; omega
  have d5 : decide (r ≤ 57) = false := by simp; omega
  have d6 : decide (768 ≤ r) = true := by simp; omega
  have d7 : decide (r ≤ 879) = false := by simp; omega
  have d8 : decide (8192 ≤ r) = true := by simp; omega
  have d9 : decide (r ≤ 8202) = false := by simp; omega
  have d10 : decide (8216 ≤ r) = true := by simp; omega
  have d11 : decide (r ≤ 8223) = true := by simp; omega
  have d12 : decide (r < 32) = false := by simp; omega
  have d13 : decide (127 ≤ r) = true := by simp; omega
  have d14 : decide (r ≤ 159) = false := by simp; omega
  have d15 : decide (8203 ≤ r) = true := by simp; omega
  have d16 : decide (r ≤ 8207) = false := by simp; omega
  have e0 : (r == 10) = false := by simp; omega
  have e1 : (r == 13) = false := by simp; omega
  have e2 : (r == 9) = false := by simp; omega
  have e3 : (r == 32) = false := by simp; omega
  have e4 : (r == 160) = false := by simp; omega
  have e5 : (r == 8239) = false := by simp; omega
  have e6 : (r == 8287) = false := by simp; omega
  have e7 : (r == 12288) = false := by simp; omega
  have e8 : (r == 45) = false := by simp; omega
  have e9 : (r == 8208) = false := by simp; omega
  have e10 : (r == 8209) = false := by simp; omega
  have e11 : (r == 8210) = false := by simp; omega
  have e12 : (r == 8211) = false := by simp; omega
  have e13 : (r == 8212) = false := by simp; omega
  have e14 : (r == 8213) = false := by simp; omega
  have e15 : (r == 34) = false := by simp; omega
  have e16 : (r == 39) = false := by simp; omega
  have e17 : (r == 171) = false := by simp; omega
  have e18 : (r == 187) = false := by simp; omega
  have e19 : (r == 8249) = false := by simp; omega
  have e20 : (r == 8250) = false := by simp; omega
  have e21 : (r == 33) = false := by simp; omega
  have e22 : (r == 44) = false := by simp; omega
  have e23 : (r == 46) = false := by simp; omega
  have e24 : (r == 58) = false := by simp; omega
  have e25 : (r == 59) = false := by simp; omega
  have e26 : (r == 63) = false := by simp; omega
  have e27 : (r == 161) = false := by simp; omega
  have e28 : (r == 183) = false := by simp; omega
  have e29 : (r == 191) = false := by simp; omega
  have e30 : (r == 8230) = false := by simp; omega
  have e31 : (r == 65279) = false := by simp; omega
  have HV := Lib.hid (show kindF r = 7 from by unfold kindF; simp only [d0, d1, d2, d3, d4, d5, d6, d7, d8, d9, d10, d11, d12, d13, d14, d15, d16, e0, e1, e2, e3, e4, e5, e6, e7, e8, e9, e10, e11, e12, e13, e14, e15, e16, e17, e18, e19, e20, e21, e22, e23, e24, e25, e26, e27, e28, e29, e30, e31, hl, Bool.and_true, Bool.and_false, Bool.or_false, if_true, if_false, Bool.false_eq_true])
  clear h1 h2
  go_enter Try.func44, Try.ntmps44
  go_wp2_with fail
  refine (letter_no r hl _).mono ?_
  rintro e w' ⟨rfl, ew⟩
  subst ew
  go_wp2_with fail
  refine (mark_is r false (by unfold markF; simp only [d6, d7, Bool.and_false]) _).mono ?_
  rintro e w' ⟨rfl, ew⟩
  subst ew
  go_wp2
  go_ret
  exact ⟨by rw [HV.out]; rfl, rfl⟩
theorem kind_8224 (r : Int) (h1 : 8224 ≤ r) (h2 : r ≤ 8229) (hl : letterF r = false) (w : World) : Calls Try.prog 44 #[.int .i32 r] w fun e w' => e = .returned (.int .i64 (kindF r)) ∧ w' = w := by
  have d0 : decide (r < 0) = false := by simp; omega
  have d1 : decide (55296 ≤ r) = false := by simp; omega
  have d2 : decide (r ≤ 57343) = true := by simp; omega
  have d3 : decide (1114111 < r) = false := by simp; omega
  have d4 : decide (48 ≤ r) = true := by simp; omega
  have d5 : decide (r ≤ 57) = false := by simp; omega
  have d6 : decide (768 ≤ r) = true := by simp; omega
  have d7 : decide (r ≤ 879) = false := by simp; omega
  have d8 : decide (8192 ≤ r) = true := by simp; omega
  have d9 : decide (r ≤ 8202) = false := by simp; omega
  have d10 : decide (8216 ≤ r) = true := by simp; omega
  have d11 : decide (r ≤ 8223) = false := by simp; omega
  have d12 : decide (r < 32) = false := by simp; omega
  have d13 : decide (127 ≤ r) = true := by simp; omega
  have d14 : decide (r ≤ 159) = false := by simp; omega
  have d15 : decide (8203 ≤ r) = true := by simp; omega
  have d16 : decide (r ≤ 8207) = false := by simp; omega
  have e0 : (r == 10) = false := by simp; omega
  have e1 : (r == 13) = false := by simp; omega
  have e2 : (r == 9) = false := by simp; omega
  have e3 : (r == 32) = false := by simp; omega
  have e4 : (r == 160) = false := by simp; omega
  have e5 : (r == 8239) = false := by simp; omega
  have e6 : (r == 8287) = false := by simp; omega
  have e7 : (r == 12288) = false := by simp; omega
  have e8 : (r == 45) = false := by simp; omega
  have e9 : (r == 8208) = false := by simp; omega
  have e10 : (r == 8209) = false := by simp; omega
  have e11 : (r == 8210) = false := by simp; omega
  have e12 : (r == 8211) = false := by simp; omega
  have e13 : (r == 8212) = false := by simp; omega
  have e14 : (r == 8213) = false := by simp; omega
  have e15 : (r == 34) = false := by simp; omega
  have e16 : (r == 39) = false := by simp; omega
  have e17 : (r == 171) = false := by simp; omega
  have e18 : (r == 187) = false := by simp; omega
  have e19 : (r == 8249) = false := by simp; omega
  have e20 : (r == 8250) = false := by simp; omega
  have e21 : (r == 33) = false := by simp; omega
  have e22 : (r == 44) = false := by simp; omega
  have e23 : (r == 46) = false := by simp; omega
  have e24 : (r == 58) = false := by simp; omega
  have e25 : (r == 59) = false := by simp; omega
  have e26 : (r == 63) = false := by simp; omega
  have e27 : (r == 161) = false := by simp; omega
  have e28 : (r == 183) = false := by simp; omega
  have e29 : (r == 191) = false := by simp; omega
  have e30 : (r == 8230) = false := by simp; omega
  have e31 : (r == 65279) = false := by simp; omega
  have HV := Lib.hid (show kindF r = 10 from by unfold kindF; simp only [d0, d1, d2, d3, d4, d5, d6, d7, d8, d9, d10, d11, d12, d13, d14, d15, d16, e0, e1, e2, e3, e4, e5, e6, e7, e8, e9, e10, e11, e12, e13, e14, e15, e16, e17, e18, e19, e20, e21, e22, e23, e24, e25, e26, e27, e28, e29, e30, e31, hl, Bool.and_true, Bool.and_false, Bool.or_false, if_false, Bool.false_eq_true])
  clear h1 h2
  go_enter Try.func44, Try.ntmps44
  go_wp2_with fail
  refine (letter_no r hl _).mono ?_
  rintro e w' ⟨rfl, ew⟩
  subst ew
  go_wp2_with fail
  refine (mark_is r false (by unfold markF; simp only [d6, d7, Bool.and_false]) _).mono ?_
  rintro e w' ⟨rfl, ew⟩
  subst ew
  go_wp2
  go_ret
  exact ⟨by rw [HV.out]; rfl, rfl⟩
theorem kind_8230 (r : Int) (h1 : 8230 ≤ r) (h2 : r ≤ 8230) (hl : letterF r = false) (w : World) : Calls Try.prog 44 #[.int .i32 r] w fun e w' => e = .returned (.int .i64 (kindF r)) ∧ w' = w := by
  obtain rfl : r = 8230 := by omega
  have HV := Lib.hid (show kindF 8230 = 8 from by decide +kernel)
  clear h1 h2
  go_enter Try.func44, Try.ntmps44
  go_wp2_with fail
  refine (letter_no 8230 hl _).mono ?_
  rintro e w' ⟨rfl, ew⟩
  subst ew
  go_wp2_with fail
  refine (mark_is 8230 false (by decide +kernel) _).mono ?_
  rintro e w' ⟨rfl, ew⟩
  subst ew
  go_wp2
  go_ret
  exact ⟨by rw [HV.out]; rfl, rfl⟩
theorem kind_8231 (r : Int) (h1 : 8231 ≤ r) (h2 : r ≤ 8238) (hl : letterF r = false) (w : World) : Calls Try.prog 44 #[.int .i32 r] w fun e w' => e = .returned (.int .i64 (kindF r)) ∧ w' = w := by
  have d0 : decide (r < 0) = false := by simp; omega
  have d1 : decide (55296 ≤ r) = false := by simp; omega
  have d2 : decide (r ≤ 57343) = true := by simp; omega
  have d3 : decide (1114111 < r) = false := by simp; omega
  have d4 : decide (48 ≤ r) = true := by simp; omega
  have d5 : decide (r ≤ 57) = false := by simp; omega
  have d6 : decide (768 ≤ r) = true := by simp; omega
  have d7 : decide (r ≤ 879) = false := by simp; omega
  have d8 : decide (8192 ≤ r) = true := by simp; omega
  have d9 : decide (r ≤ 8202) = false := by simp; omega
  have d10 : decide (8216 ≤ r) = true := by simp; omega
  have d11 : decide (r ≤ 8223) = false := by simp; omega
  have d12 : decide (r < 32) = false := by simp; omega
  have d13 : decide (127 ≤ r) = true := by simp; omega
  have d14 : decide (r ≤ 159) = false := by simp; omega
  have d15 : decide (8203 ≤ r) = true := by simp; omega
  have d16 : decide (r ≤ 8207) = false := by simp; omega
  have e0 : (r == 10) = false := by simp; omega
  have e1 : (r == 13) = false := by simp; omega
  have e2 : (r == 9) = false := by simp; omega
  have e3 : (r == 32) = false := by simp; omega
  have e4 : (r == 160) = false := by simp; omega
  have e5 : (r == 8239) = false := by simp; omega
  have e6 : (r == 8287) = false := by simp; omega
  have e7 : (r == 12288) = false := by simp; omega
  have e8 : (r == 45) = false := by simp; omega
  have e9 : (r == 8208) = false := by simp; omega
  have e10 : (r == 8209) = false := by simp; omega
  have e11 : (r == 8210) = false := by simp; omega
  have e12 : (r == 8211) = false := by simp; omega
  have e13 : (r == 8212) = false := by simp; omega
  have e14 : (r == 8213) = false := by simp; omega
  have e15 : (r == 34) = false := by simp; omega
  have e16 : (r == 39) = false := by simp; omega
  have e17 : (r == 171) = false := by simp; omega
  have e18 : (r == 187) = false := by simp; omega
  have e19 : (r == 8249) = false := by simp; omega
  have e20 : (r == 8250) = false := by simp; omega
  have e21 : (r == 33) = false := by simp; omega
  have e22 : (r == 44) = false := by simp; omega
  have e23 : (r == 46) = false := by simp; omega
  have e24 : (r == 58) = false := by simp; omega
  have e25 : (r == 59) = false := by simp; omega
  have e26 : (r == 63) = false := by simp; omega
  have e27 : (r == 161) = false := by simp; omega
  have e28 : (r == 183) = false := by simp; omega
  have e29 : (r == 191) = false := by simp; omega
  have e30 : (r == 8230) = false := by simp; omega
  have e31 : (r == 65279) = false := by simp; omega
  have HV := Lib.hid (show kindF r = 10 from by unfold kindF; simp only [d0, d1, d2, d3, d4, d5, d6, d7, d8, d9, d10, d11, d12, d13, d14, d15, d16, e0, e1, e2, e3, e4, e5, e6, e7, e8, e9, e10, e11, e12, e13, e14, e15, e16, e17, e18, e19, e20, e21, e22, e23, e24, e25, e26, e27, e28, e29, e30, e31, hl, Bool.and_true, Bool.and_false, Bool.or_false, if_false, Bool.false_eq_true])
  clear h1 h2
  go_enter Try.func44, Try.ntmps44
  go_wp2_with fail
  refine (letter_no r hl _).mono ?_
  rintro e w' ⟨rfl, ew⟩
  subst ew
  go_wp2_with fail
  refine (mark_is r false (by unfold markF; simp only [d6, d7, Bool.and_false]) _).mono ?_
  rintro e w' ⟨rfl, ew⟩
  subst ew
  go_wp2
  go_ret
  exact ⟨by rw [HV.out]; rfl, rfl⟩
theorem kind_8239 (r : Int) (h1 : 8239 ≤ r) (h2 : r ≤ 8239) (hl : letterF r = false) (w : World) : Calls Try.prog 44 #[.int .i32 r] w fun e w' => e = .returned (.int .i64 (kindF r)) ∧ w' = w := by
  obtain rfl : r = 8239 := by omega
  have HV := Lib.hid (show kindF 8239 = 5 from by decide +kernel)
  clear h1 h2
  go_enter Try.func44, Try.ntmps44
  go_wp2_with fail
  refine (letter_no 8239 hl _).mono ?_
  rintro e w' ⟨rfl, ew⟩
  subst ew
  go_wp2_with fail
  refine (mark_is 8239 false (by decide +kernel) _).mono ?_
  rintro e w' ⟨rfl, ew⟩
  subst ew
  go_wp2
  go_ret
  exact ⟨by rw [HV.out]; rfl, rfl⟩
theorem kind_8240 (r : Int) (h1 : 8240 ≤ r) (h2 : r ≤ 8248) (hl : letterF r = false) (w : World) : Calls Try.prog 44 #[.int .i32 r] w fun e w' => e = .returned (.int .i64 (kindF r)) ∧ w' = w := by
  have d0 : decide (r < 0) = false := by simp; omega
  have d1 : decide (55296 ≤ r) = false := by simp; omega
  have d2 : decide (r ≤ 57343) = true := by simp; omega
  have d3 : decide (1114111 < r) = false := by simp; omega
  have d4 : decide (48 ≤ r) = true := by simp; omega
  have d5 : decide (r ≤ 57) = false := by simp; omega
  have d6 : decide (768 ≤ r) = true := by simp; omega
  have d7 : decide (r ≤ 879) = false := by simp; omega
  have d8 : decide (8192 ≤ r) = true := by simp; omega
  have d9 : decide (r ≤ 8202) = false := by simp; omega
  have d10 : decide (8216 ≤ r) = true := by simp; omega
  have d11 : decide (r ≤ 8223) = false := by simp; omega
  have d12 : decide (r < 32) = false := by simp; omega
  have d13 : decide (127 ≤ r) = true := by simp; omega
  have d14 : decide (r ≤ 159) = false := by simp; omega
  have d15 : decide (8203 ≤ r) = true := by simp; omega
  have d16 : decide (r ≤ 8207) = false := by simp; omega
  have e0 : (r == 10) = false := by simp; omega
  have e1 : (r == 13) = false := by simp; omega
  have e2 : (r == 9) = false := by simp; omega
  have e3 : (r == 32) = false := by simp; omega
  have e4 : (r == 160) = false := by simp; omega
  have e5 : (r == 8239) = false := by simp; omega
  have e6 : (r == 8287) = false := by simp; omega
  have e7 : (r == 12288) = false := by simp; omega
  have e8 : (r == 45) = false := by simp; omega
  have e9 : (r == 8208) = false := by simp; omega
  have e10 : (r == 8209) = false := by simp; omega
  have e11 : (r == 8210) = false := by simp; omega
  have e12 : (r == 8211) = false := by simp; omega
  have e13 : (r == 8212) = false := by simp; omega
  have e14 : (r == 8213) = false := by simp; omega
  have e15 : (r == 34) = false := by simp; omega
  have e16 : (r == 39) = false := by simp; omega
  have e17 : (r == 171) = false := by simp; omega
  have e18 : (r == 187) = false := by simp; omega
  have e19 : (r == 8249) = false := by simp; omega
  have e20 : (r == 8250) = false := by simp; omega
  have e21 : (r == 33) = false := by simp; omega
  have e22 : (r == 44) = false := by simp; omega
  have e23 : (r == 46) = false := by simp; omega
  have e24 : (r == 58) = false := by simp; omega
  have e25 : (r == 59) = false := by simp; omega
  have e26 : (r == 63) = false := by simp; omega
  have e27 : (r == 161) = false := by simp; omega
  have e28 : (r == 183) = false := by simp; omega
  have e29 : (r == 191) = false := by simp; omega
  have e30 : (r == 8230) = false := by simp; omega
  have e31 : (r == 65279) = false := by simp; omega
  have HV := Lib.hid (show kindF r = 10 from by unfold kindF; simp only [d0, d1, d2, d3, d4, d5, d6, d7, d8, d9, d10, d11, d12, d13, d14, d15, d16, e0, e1, e2, e3, e4, e5, e6, e7, e8, e9, e10, e11, e12, e13, e14, e15, e16, e17, e18, e19, e20, e21, e22, e23, e24, e25, e26, e27, e28, e29, e30, e31, hl, Bool.and_true, Bool.and_false, Bool.or_false, if_false, Bool.false_eq_true])
  clear h1 h2
  go_enter Try.func44, Try.ntmps44
  go_wp2_with fail
  refine (letter_no r hl _).mono ?_
  rintro e w' ⟨rfl, ew⟩
  subst ew
  go_wp2_with fail
  refine (mark_is r false (by unfold markF; simp only [d6, d7, Bool.and_false]) _).mono ?_
  rintro e w' ⟨rfl, ew⟩
  subst ew
  go_wp2
  go_ret
  exact ⟨by rw [HV.out]; rfl, rfl⟩
theorem kind_8249 (r : Int) (h1 : 8249 ≤ r) (h2 : r ≤ 8249) (hl : letterF r = false) (w : World) : Calls Try.prog 44 #[.int .i32 r] w fun e w' => e = .returned (.int .i64 (kindF r)) ∧ w' = w := by
  obtain rfl : r = 8249 := by omega
  have HV := Lib.hid (show kindF 8249 = 7 from by decide +kernel)
  clear h1 h2
  go_enter Try.func44, Try.ntmps44
  go_wp2_with fail
  refine (letter_no 8249 hl _).mono ?_
  rintro e w' ⟨rfl, ew⟩
  subst ew
  go_wp2_with fail
  refine (mark_is 8249 false (by decide +kernel) _).mono ?_
  rintro e w' ⟨rfl, ew⟩
  subst ew
  go_wp2
  go_ret
  exact ⟨by rw [HV.out]; rfl, rfl⟩
theorem kind_8250 (r : Int) (h1 : 8250 ≤ r) (h2 : r ≤ 8250) (hl : letterF r = false) (w : World) : Calls Try.prog 44 #[.int .i32 r] w fun e w' => e = .returned (.int .i64 (kindF r)) ∧ w' = w := by
  obtain rfl : r = 8250 := by omega
  have HV := Lib.hid (show kindF 8250 = 7 from by decide +kernel)
  clear h1 h2
  go_enter Try.func44, Try.ntmps44
  go_wp2_with fail
  refine (letter_no 8250 hl _).mono ?_
  rintro e w' ⟨rfl, ew⟩
  subst ew
  go_wp2_with fail
  refine (mark_is 8250 false (by decide +kernel) _).mono ?_
  rintro e w' ⟨rfl, ew⟩
  subst ew
  go_wp2
  go_ret
  exact ⟨by rw [HV.out]; rfl, rfl⟩
theorem kind_8251 (r : Int) (h1 : 8251 ≤ r) (h2 : r ≤ 8286) (hl : letterF r = false) (w : World) : Calls Try.prog 44 #[.int .i32 r] w fun e w' => e = .returned (.int .i64 (kindF r)) ∧ w' = w := by
  have d0 : decide (r < 0) = false := by simp; omega
  have d1 : decide (55296 ≤ r) = false := by simp; omega
  have d2 : decide (r ≤ 57343) = true := by simp; omega
  have d3 : decide (1114111 < r) = false := by simp; omega
  have d4 : decide (48 ≤ r) = true := by simp; omega
  have d5 : decide (r ≤ 57) = false := by simp; omega
  have d6 : decide (768 ≤ r) = true := by simp; omega
  have d7 : decide (r ≤ 879) = false := by simp; omega
  have d8 : decide (8192 ≤ r) = true := by simp; omega
  have d9 : decide (r ≤ 8202) = false := by simp; omega
  have d10 : decide (8216 ≤ r) = true := by simp; omega
  have d11 : decide (r ≤ 8223) = false := by simp; omega
  have d12 : decide (r < 32) = false := by simp; omega
  have d13 : decide (127 ≤ r) = true := by simp; omega
  have d14 : decide (r ≤ 159) = false := by simp; omega
  have d15 : decide (8203 ≤ r) = true := by simp; omega
  have d16 : decide (r ≤ 8207) = false := by simp; omega
  have e0 : (r == 10) = false := by simp; omega
  have e1 : (r == 13) = false := by simp; omega
  have e2 : (r == 9) = false := by simp; omega
  have e3 : (r == 32) = false := by simp; omega
  have e4 : (r == 160) = false := by simp; omega
  have e5 : (r == 8239) = false := by simp; omega
  have e6 : (r == 8287) = false := by simp; omega
  have e7 : (r == 12288) = false := by simp; omega
  have e8 : (r == 45) = false := by simp; omega
  have e9 : (r == 8208) = false := by simp; omega
  have e10 : (r == 8209) = false := by simp; omega
  have e11 : (r == 8210) = false := by simp; omega
  have e12 : (r == 8211) = false := by simp; omega
  have e13 : (r == 8212) = false := by simp; omega
  have e14 : (r == 8213) = false := by simp; omega
  have e15 : (r == 34) = false := by simp; omega
  have e16 : (r == 39) = false := by simp; omega
  have e17 : (r == 171) = false := by simp; omega
  have e18 : (r == 187) = false := by simp; omega
  have e19 : (r == 8249) = false := by simp; omega
  have e20 : (r == 8250) = false := by simp; omega
  have e21 : (r == 33) = false := by simp; omega
  have e22 : (r == 44) = false := by simp; omega
  have e23 : (r == 46) = false := by simp; omega
  have e24 : (r == 58) = false := by simp; omega
  have e25 : (r == 59) = false := by simp; omega
  have e26 : (r == 63) = false := by simp; omega
  have e27 : (r == 161) = false := by simp; omega
  have e28 : (r == 183) = false := by simp; omega
  have e29 : (r == 191) = false := by simp; omega
  have e30 : (r == 8230) = false := by simp; omega
  have e31 : (r == 65279) = false := by simp; omega
  have HV := Lib.hid (show kindF r = 10 from by unfold kindF; simp only [d0, d1, d2, d3, d4, d5, d6, d7, d8, d9, d10, d11, d12, d13, d14, d15, d16, e0, e1, e2, e3, e4, e5, e6, e7, e8, e9, e10, e11, e12, e13, e14, e15, e16, e17, e18, e19, e20, e21, e22, e23, e24, e25, e26, e27, e28, e29, e30, e31, hl, Bool.and_true, Bool.and_false, Bool.or_false, if_false, Bool.false_eq_true])
  clear h1 h2
  go_enter Try.func44, Try.ntmps44
  go_wp2_with fail
  refine (letter_no r hl _).mono ?_
  rintro e w' ⟨rfl, ew⟩
  subst ew
  go_wp2_with fail
  refine (mark_is r false (by unfold markF; simp only [d6, d7, Bool.and_false]) _).mono ?_
  rintro e w' ⟨rfl, ew⟩
  subst ew
  go_wp2
  go_ret
  exact ⟨by rw [HV.out]; rfl, rfl⟩
theorem kind_8287 (r : Int) (h1 : 8287 ≤ r) (h2 : r ≤ 8287) (hl : letterF r = false) (w : World) : Calls Try.prog 44 #[.int .i32 r] w fun e w' => e = .returned (.int .i64 (kindF r)) ∧ w' = w := by
  obtain rfl : r = 8287 := by omega
  have HV := Lib.hid (show kindF 8287 = 5 from by decide +kernel)
  clear h1 h2
  go_enter Try.func44, Try.ntmps44
  go_wp2_with fail
  refine (letter_no 8287 hl _).mono ?_
  rintro e w' ⟨rfl, ew⟩
  subst ew
  go_wp2_with fail
  refine (mark_is 8287 false (by decide +kernel) _).mono ?_
  rintro e w' ⟨rfl, ew⟩
  subst ew
  go_wp2
  go_ret
  exact ⟨by rw [HV.out]; rfl, rfl⟩
theorem kind_8288 (r : Int) (h1 : 8288 ≤ r) (h2 : r ≤ 12287) (hl : letterF r = false) (w : World) : Calls Try.prog 44 #[.int .i32 r] w fun e w' => e = .returned (.int .i64 (kindF r)) ∧ w' = w := by
  have d0 : decide (r < 0) = false := by simp; omega
  have d1 : decide (55296 ≤ r) = false := by simp; omega
  have d2 : decide (r ≤ 57343) = true := by simp; omega
  have d3 : decide (1114111 < r) = false := by simp; omega
  have d4 : decide (48 ≤ r) = true := by simp; omega
  have d5 : decide (r ≤ 57) = false := by simp; omega
  have d6 : decide (768 ≤ r) = true := by simp; omega
  have d7 : decide (r ≤ 879) = false := by simp; omega
  have d8 : decide (8192 ≤ r) = true := by simp; omega
  have d9 : decide (r ≤ 8202) = false := by simp; omega
  have d10 : decide (8216 ≤ r) = true := by simp; omega
  have d11 : decide (r ≤ 8223) = false := by simp; omega
  have d12 : decide (r < 32) = false := by simp; omega
  have d13 : decide (127 ≤ r) = true := by simp; omega
  have d14 : decide (r ≤ 159) = false := by simp; omega
  have d15 : decide (8203 ≤ r) = true := by simp; omega
  have d16 : decide (r ≤ 8207) = false := by simp; omega
  have e0 : (r == 10) = false := by simp; omega
  have e1 : (r == 13) = false := by simp; omega
  have e2 : (r == 9) = false := by simp; omega
  have e3 : (r == 32) = false := by simp; omega
  have e4 : (r == 160) = false := by simp; omega
  have e5 : (r == 8239) = false := by simp; omega
  have e6 : (r == 8287) = false := by simp; omega
  have e7 : (r == 12288) = false := by simp; omega
  have e8 : (r == 45) = false := by simp; omega
  have e9 : (r == 8208) = false := by simp; omega
  have e10 : (r == 8209) = false := by simp; omega
  have e11 : (r == 8210) = false := by simp; omega
  have e12 : (r == 8211) = false := by simp; omega
  have e13 : (r == 8212) = false := by simp; omega
  have e14 : (r == 8213) = false := by simp; omega
  have e15 : (r == 34) = false := by simp; omega
  have e16 : (r == 39) = false := by simp; omega
  have e17 : (r == 171) = false := by simp; omega
  have e18 : (r == 187) = false := by simp; omega
  have e19 : (r == 8249) = false := by simp; omega
  have e20 : (r == 8250) = false := by simp; omega
  have e21 : (r == 33) = false := by simp; omega
  have e22 : (r == 44) = false := by simp; omega
  have e23 : (r == 46) = false := by simp; omega
  have e24 : (r == 58) = false := by simp; omega
  have e25 : (r == 59) = false := by simp; omega
  have e26 : (r == 63) = false := by simp; omega
  have e27 : (r == 161) = false := by simp; omega
  have e28 : (r == 183) = false := by simp; omega
  have e29 : (r == 191) = false := by simp; omega
  have e30 : (r == 8230) = false := by simp; omega
  have e31 : (r == 65279) = false := by simp; omega
  have HV := Lib.hid (show kindF r = 10 from by unfold kindF; simp only [d0, d1, d2, d3, d4, d5, d6, d7, d8, d9, d10, d11, d12, d13, d14, d15, d16, e0, e1, e2, e3, e4, e5, e6, e7, e8, e9, e10, e11, e12, e13, e14, e15, e16, e17, e18, e19, e20, e21, e22, e23, e24, e25, e26, e27, e28, e29, e30, e31, hl, Bool.and_true, Bool.and_false, Bool.or_false, if_false, Bool.false_eq_true])
  clear h1 h2
  go_enter Try.func44, Try.ntmps44
  go_wp2_with fail
  refine (letter_no r hl _).mono ?_
  rintro e w' ⟨rfl, ew⟩
  subst ew
  go_wp2_with fail
  refine (mark_is r false (by unfold markF; simp only [d6, d7, Bool.and_false]) _).mono ?_
  rintro e w' ⟨rfl, ew⟩
  subst ew
  go_wp2
  go_ret
  exact ⟨by rw [HV.out]; rfl, rfl⟩
theorem kind_12288 (r : Int) (h1 : 12288 ≤ r) (h2 : r ≤ 12288) (hl : letterF r = false) (w : World) : Calls Try.prog 44 #[.int .i32 r] w fun e w' => e = .returned (.int .i64 (kindF r)) ∧ w' = w := by
  obtain rfl : r = 12288 := by omega
  have HV := Lib.hid (show kindF 12288 = 5 from by decide +kernel)
  clear h1 h2
  go_enter Try.func44, Try.ntmps44
  go_wp2_with fail
  refine (letter_no 12288 hl _).mono ?_
  rintro e w' ⟨rfl, ew⟩
  subst ew
  go_wp2_with fail
  refine (mark_is 12288 false (by decide +kernel) _).mono ?_
  rintro e w' ⟨rfl, ew⟩
  subst ew
  go_wp2
  go_ret
  exact ⟨by rw [HV.out]; rfl, rfl⟩
theorem kind_12289 (r : Int) (h1 : 12289 ≤ r) (h2 : r ≤ 55295) (hl : letterF r = false) (w : World) : Calls Try.prog 44 #[.int .i32 r] w fun e w' => e = .returned (.int .i64 (kindF r)) ∧ w' = w := by
  have d0 : decide (r < 0) = false := by simp; omega
  have d1 : decide (55296 ≤ r) = false := by simp; omega
  have d2 : decide (r ≤ 57343) = true := by simp; omega
  have d3 : decide (1114111 < r) = false := by simp; omega
  have d4 : decide (48 ≤ r) = true := by simp; omega
  have d5 : decide (r ≤ 57) = false := by simp; omega
  have d6 : decide (768 ≤ r) = true := by simp; omega
  have d7 : decide (r ≤ 879) = false := by simp; omega
  have d8 : decide (8192 ≤ r) = true := by simp; omega
  have d9 : decide (r ≤ 8202) = false := by simp; omega
  have d10 : decide (8216 ≤ r) = true := by simp; omega
  have d11 : decide (r ≤ 8223) = false := by simp; omega
  have d12 : decide (r < 32) = false := by simp; omega
  have d13 : decide (127 ≤ r) = true := by simp; omega
  have d14 : decide (r ≤ 159) = false := by simp; omega
  have d15 : decide (8203 ≤ r) = true := by simp; omega
  have d16 : decide (r ≤ 8207) = false := by simp; omega
  have e0 : (r == 10) = false := by simp; omega
  have e1 : (r == 13) = false := by simp; omega
  have e2 : (r == 9) = false := by simp; omega
  have e3 : (r == 32) = false := by simp; omega
  have e4 : (r == 160) = false := by simp; omega
  have e5 : (r == 8239) = false := by simp; omega
  have e6 : (r == 8287) = false := by simp; omega
  have e7 : (r == 12288) = false := by simp; omega
  have e8 : (r == 45) = false := by simp; omega
  have e9 : (r == 8208) = false := by simp; omega
  have e10 : (r == 8209) = false := by simp; omega
  have e11 : (r == 8210) = false := by simp; omega
  have e12 : (r == 8211) = false := by simp; omega
  have e13 : (r == 8212) = false := by simp; omega
  have e14 : (r == 8213) = false := by simp; omega
  have e15 : (r == 34) = false := by simp; omega
  have e16 : (r == 39) = false := by simp; omega
  have e17 : (r == 171) = false := by simp; omega
  have e18 : (r == 187) = false := by simp; omega
  have e19 : (r == 8249) = false := by simp; omega
  have e20 : (r == 8250) = false := by simp; omega
  have e21 : (r == 33) = false := by simp; omega
  have e22 : (r == 44) = false := by simp; omega
  have e23 : (r == 46) = false := by simp; omega
  have e24 : (r == 58) = false := by simp; omega
  have e25 : (r == 59) = false := by simp; omega
  have e26 : (r == 63) = false := by simp; omega
  have e27 : (r == 161) = false := by simp; omega
  have e28 : (r == 183) = false := by simp; omega
  have e29 : (r == 191) = false := by simp; omega
  have e30 : (r == 8230) = false := by simp; omega
  have e31 : (r == 65279) = false := by simp; omega
  have HV := Lib.hid (show kindF r = 10 from by unfold kindF; simp only [d0, d1, d2, d3, d4, d5, d6, d7, d8, d9, d10, d11, d12, d13, d14, d15, d16, e0, e1, e2, e3, e4, e5, e6, e7, e8, e9, e10, e11, e12, e13, e14, e15, e16, e17, e18, e19, e20, e21, e22, e23, e24, e25, e26, e27, e28, e29, e30, e31, hl, Bool.and_true, Bool.and_false, Bool.or_false, if_false, Bool.false_eq_true])
  clear h1 h2
  go_enter Try.func44, Try.ntmps44
  go_wp2_with fail
  refine (letter_no r hl _).mono ?_
  rintro e w' ⟨rfl, ew⟩
  subst ew
  go_wp2_with fail
  refine (mark_is r false (by unfold markF; simp only [d6, d7, Bool.and_false]) _).mono ?_
  rintro e w' ⟨rfl, ew⟩
  subst ew
  go_wp2
  go_ret
  exact ⟨by rw [HV.out]; rfl, rfl⟩
theorem kind_55296 (r : Int) (h1 : 55296 ≤ r) (h2 : r ≤ 57343) (hl : letterF r = false) (w : World) : Calls Try.prog 44 #[.int .i32 r] w fun e w' => e = .returned (.int .i64 (kindF r)) ∧ w' = w := by
  have d0 : decide (r < 0) = false := by simp; omega
  have d1 : decide (55296 ≤ r) = true := by simp; omega
  have d2 : decide (r ≤ 57343) = true := by simp; omega
  have d3 : decide (1114111 < r) = false := by simp; omega
  have d4 : decide (48 ≤ r) = true := by simp; omega
  have d5 : decide (r ≤ 57) = false := by simp; omega
  have d6 : decide (768 ≤ r) = true := by simp; omega
  have d7 : decide (r ≤ 879) = false := by simp; omega
  have d8 : decide (8192 ≤ r) = true := by simp; omega
  have d9 : decide (r ≤ 8202) = false := by simp; omega
  have d10 : decide (8216 ≤ r) = true := by simp; omega
  have d11 : decide (r ≤ 8223) = false := by simp; omega
  have d12 : decide (r < 32) = false := by simp; omega
  have d13 : decide (127 ≤ r) = true := by simp; omega
  have d14 : decide (r ≤ 159) = false := by simp; omega
  have d15 : decide (8203 ≤ r) = true := by simp; omega
  have d16 : decide (r ≤ 8207) = false := by simp; omega
  have e0 : (r == 10) = false := by simp; omega
  have e1 : (r == 13) = false := by simp; omega
  have e2 : (r == 9) = false := by simp; omega
  have e3 : (r == 32) = false := by simp; omega
  have e4 : (r == 160) = false := by simp; omega
  have e5 : (r == 8239) = false := by simp; omega
  have e6 : (r == 8287) = false := by simp; omega
  have e7 : (r == 12288) = false := by simp; omega
  have e8 : (r == 45) = false := by simp; omega
  have e9 : (r == 8208) = false := by simp; omega
  have e10 : (r == 8209) = false := by simp; omega
  have e11 : (r == 8210) = false := by simp; omega
  have e12 : (r == 8211) = false := by simp; omega
  have e13 : (r == 8212) = false := by simp; omega
  have e14 : (r == 8213) = false := by simp; omega
  have e15 : (r == 34) = false := by simp; omega
  have e16 : (r == 39) = false := by simp; omega
  have e17 : (r == 171) = false := by simp; omega
  have e18 : (r == 187) = false := by simp; omega
  have e19 : (r == 8249) = false := by simp; omega
  have e20 : (r == 8250) = false := by simp; omega
  have e21 : (r == 33) = false := by simp; omega
  have e22 : (r == 44) = false := by simp; omega
  have e23 : (r == 46) = false := by simp; omega
  have e24 : (r == 58) = false := by simp; omega
  have e25 : (r == 59) = false := by simp; omega
  have e26 : (r == 63) = false := by simp; omega
  have e27 : (r == 161) = false := by simp; omega
  have e28 : (r == 183) = false := by simp; omega
  have e29 : (r == 191) = false := by simp; omega
  have e30 : (r == 8230) = false := by simp; omega
  have e31 : (r == 65279) = false := by simp; omega
  have HV := Lib.hid (show kindF r = 0 from by unfold kindF; simp only [d0, d1, d2, d3, d4, d5, d6, d7, d8, d9, d10, d11, d12, d13, d14, d15, d16, e0, e1, e2, e3, e4, e5, e6, e7, e8, e9, e10, e11, e12, e13, e14, e15, e16, e17, e18, e19, e20, e21, e22, e23, e24, e25, e26, e27, e28, e29, e30, e31, hl, Bool.and_true, Bool.and_false, Bool.or_true, Bool.or_false, if_true, if_false, Bool.false_eq_true])
  clear h1 h2
  go_enter Try.func44, Try.ntmps44
  go_wp2
  go_ret
  exact ⟨by rw [HV.out]; rfl, rfl⟩
theorem kind_57344 (r : Int) (h1 : 57344 ≤ r) (h2 : r ≤ 65278) (hl : letterF r = false) (w : World) : Calls Try.prog 44 #[.int .i32 r] w fun e w' => e = .returned (.int .i64 (kindF r)) ∧ w' = w := by
  have d0 : decide (r < 0) = false := by simp; omega
  have d1 : decide (55296 ≤ r) = true := by simp; omega
  have d2 : decide (r ≤ 57343) = false := by simp; omega
  have d3 : decide (1114111 < r) = false := by simp; omega
  have d4 : decide (48 ≤ r) = true := by simp; omega
  have d5 : decide (r ≤ 57) = false := by simp; omega
  have d6 : decide (768 ≤ r) = true := by simp; omega
  have d7 : decide (r ≤ 879) = false := by simp; omega
  have d8 : decide (8192 ≤ r) = true := by simp; omega
  have d9 : decide (r ≤ 8202) = false := by simp; omega
  have d10 : decide (8216 ≤ r) = true := by simp; omega
  have d11 : decide (r ≤ 8223) = false := by simp; omega
  have d12 : decide (r < 32) = false := by simp; omega
  have d13 : decide (127 ≤ r) = true := by simp; omega
  have d14 : decide (r ≤ 159) = false := by simp; omega
  have d15 : decide (8203 ≤ r) = true := by simp; omega
  have d16 : decide (r ≤ 8207) = false := by simp; omega
  have e0 : (r == 10) = false := by simp; omega
  have e1 : (r == 13) = false := by simp; omega
  have e2 : (r == 9) = false := by simp; omega
  have e3 : (r == 32) = false := by simp; omega
  have e4 : (r == 160) = false := by simp; omega
  have e5 : (r == 8239) = false := by simp; omega
  have e6 : (r == 8287) = false := by simp; omega
  have e7 : (r == 12288) = false := by simp; omega
  have e8 : (r == 45) = false := by simp; omega
  have e9 : (r == 8208) = false := by simp; omega
  have e10 : (r == 8209) = false := by simp; omega
  have e11 : (r == 8210) = false := by simp; omega
  have e12 : (r == 8211) = false := by simp; omega
  have e13 : (r == 8212) = false := by simp; omega
  have e14 : (r == 8213) = false := by simp; omega
  have e15 : (r == 34) = false := by simp; omega
  have e16 : (r == 39) = false := by simp; omega
  have e17 : (r == 171) = false := by simp; omega
  have e18 : (r == 187) = false := by simp; omega
  have e19 : (r == 8249) = false := by simp; omega
  have e20 : (r == 8250) = false := by simp; omega
  have e21 : (r == 33) = false := by simp; omega
  have e22 : (r == 44) = false := by simp; omega
  have e23 : (r == 46) = false := by simp; omega
  have e24 : (r == 58) = false := by simp; omega
  have e25 : (r == 59) = false := by simp; omega
  have e26 : (r == 63) = false := by simp; omega
  have e27 : (r == 161) = false := by simp; omega
  have e28 : (r == 183) = false := by simp; omega
  have e29 : (r == 191) = false := by simp; omega
  have e30 : (r == 8230) = false := by simp; omega
  have e31 : (r == 65279) = false := by simp; omega
  have HV := Lib.hid (show kindF r = 10 from by unfold kindF; simp only [d0, d1, d2, d3, d4, d5, d6, d7, d8, d9, d10, d11, d12, d13, d14, d15, d16, e0, e1, e2, e3, e4, e5, e6, e7, e8, e9, e10, e11, e12, e13, e14, e15, e16, e17, e18, e19, e20, e21, e22, e23, e24, e25, e26, e27, e28, e29, e30, e31, hl, Bool.and_false, Bool.or_false, if_false, Bool.false_eq_true])
  clear h1 h2
  go_enter Try.func44, Try.ntmps44
  go_wp2_with fail
  refine (letter_no r hl _).mono ?_
  rintro e w' ⟨rfl, ew⟩
  subst ew
  go_wp2_with fail
  refine (mark_is r false (by unfold markF; simp only [d6, d7, Bool.and_false]) _).mono ?_
  rintro e w' ⟨rfl, ew⟩
  subst ew
  go_wp2
  go_ret
  exact ⟨by rw [HV.out]; rfl, rfl⟩
theorem kind_65279 (r : Int) (h1 : 65279 ≤ r) (h2 : r ≤ 65279) (hl : letterF r = false) (w : World) : Calls Try.prog 44 #[.int .i32 r] w fun e w' => e = .returned (.int .i64 (kindF r)) ∧ w' = w := by
  obtain rfl : r = 65279 := by omega
  have HV := Lib.hid (show kindF 65279 = 9 from by decide +kernel)
  clear h1 h2
  go_enter Try.func44, Try.ntmps44
  go_wp2_with fail
  refine (letter_no 65279 hl _).mono ?_
  rintro e w' ⟨rfl, ew⟩
  subst ew
  go_wp2_with fail
  refine (mark_is 65279 false (by decide +kernel) _).mono ?_
  rintro e w' ⟨rfl, ew⟩
  subst ew
  go_wp2
  go_ret
  exact ⟨by rw [HV.out]; rfl, rfl⟩
theorem kind_65280 (r : Int) (h1 : 65280 ≤ r) (h2 : r ≤ 1114111) (hl : letterF r = false) (w : World) : Calls Try.prog 44 #[.int .i32 r] w fun e w' => e = .returned (.int .i64 (kindF r)) ∧ w' = w := by
  have d0 : decide (r < 0) = false := by simp; omega
  have d1 : decide (55296 ≤ r) = true := by simp; omega
  have d2 : decide (r ≤ 57343) = false := by simp; omega
  have d3 : decide (1114111 < r) = false := by simp; omega
  have d4 : decide (48 ≤ r) = true := by simp; omega
  have d5 : decide (r ≤ 57) = false := by simp; omega
  have d6 : decide (768 ≤ r) = true := by simp; omega
  have d7 : decide (r ≤ 879) = false := by simp; omega
  have d8 : decide (8192 ≤ r) = true := by simp; omega
  have d9 : decide (r ≤ 8202) = false := by simp; omega
  have d10 : decide (8216 ≤ r) = true := by simp; omega
  have d11 : decide (r ≤ 8223) = false := by simp; omega
  have d12 : decide (r < 32) = false := by simp; omega
  have d13 : decide (127 ≤ r) = true := by simp; omega
  have d14 : decide (r ≤ 159) = false := by simp; omega
  have d15 : decide (8203 ≤ r) = true := by simp; omega
  have d16 : decide (r ≤ 8207) = false := by simp; omega
  have e0 : (r == 10) = false := by simp; omega
  have e1 : (r == 13) = false := by simp; omega
  have e2 : (r == 9) = false := by simp; omega
  have e3 : (r == 32) = false := by simp; omega
  have e4 : (r == 160) = false := by simp; omega
  have e5 : (r == 8239) = false := by simp; omega
  have e6 : (r == 8287) = false := by simp; omega
  have e7 : (r == 12288) = false := by simp; omega
  have e8 : (r == 45) = false := by simp; omega
  have e9 : (r == 8208) = false := by simp; omega
  have e10 : (r == 8209) = false := by simp; omega
  have e11 : (r == 8210) = false := by simp; omega
  have e12 : (r == 8211) = false := by simp; omega
  have e13 : (r == 8212) = false := by simp; omega
  have e14 : (r == 8213) = false := by simp; omega
  have e15 : (r == 34) = false := by simp; omega
  have e16 : (r == 39) = false := by simp; omega
  have e17 : (r == 171) = false := by simp; omega
  have e18 : (r == 187) = false := by simp; omega
  have e19 : (r == 8249) = false := by simp; omega
  have e20 : (r == 8250) = false := by simp; omega
  have e21 : (r == 33) = false := by simp; omega
  have e22 : (r == 44) = false := by simp; omega
  have e23 : (r == 46) = false := by simp; omega
  have e24 : (r == 58) = false := by simp; omega
  have e25 : (r == 59) = false := by simp; omega
  have e26 : (r == 63) = false := by simp; omega
  have e27 : (r == 161) = false := by simp; omega
  have e28 : (r == 183) = false := by simp; omega
  have e29 : (r == 191) = false := by simp; omega
  have e30 : (r == 8230) = false := by simp; omega
  have e31 : (r == 65279) = false := by simp; omega
  have HV := Lib.hid (show kindF r = 10 from by unfold kindF; simp only [d0, d1, d2, d3, d4, d5, d6, d7, d8, d9, d10, d11, d12, d13, d14, d15, d16, e0, e1, e2, e3, e4, e5, e6, e7, e8, e9, e10, e11, e12, e13, e14, e15, e16, e17, e18, e19, e20, e21, e22, e23, e24, e25, e26, e27, e28, e29, e30, e31, hl, Bool.and_false, Bool.or_false, if_false, Bool.false_eq_true])
  clear h1 h2
  go_enter Try.func44, Try.ntmps44
  go_wp2_with fail
  refine (letter_no r hl _).mono ?_
  rintro e w' ⟨rfl, ew⟩
  subst ew
  go_wp2_with fail
  refine (mark_is r false (by unfold markF; simp only [d6, d7, Bool.and_false]) _).mono ?_
  rintro e w' ⟨rfl, ew⟩
  subst ew
  go_wp2
  go_ret
  exact ⟨by rw [HV.out]; rfl, rfl⟩
theorem kind_1114112 (r : Int) (h1 : 1114112 ≤ r) (hl : letterF r = false) (w : World) : Calls Try.prog 44 #[.int .i32 r] w fun e w' => e = .returned (.int .i64 (kindF r)) ∧ w' = w := by
  have d0 : decide (r < 0) = false := by simp; omega
  have d1 : decide (55296 ≤ r) = true := by simp; omega
  have d2 : decide (r ≤ 57343) = false := by simp; omega
  have d3 : decide (1114111 < r) = true := by simp; omega
  have d4 : decide (48 ≤ r) = true := by simp; omega
  have d5 : decide (r ≤ 57) = false := by simp; omega
  have d6 : decide (768 ≤ r) = true := by simp; omega
  have d7 : decide (r ≤ 879) = false := by simp; omega
  have d8 : decide (8192 ≤ r) = true := by simp; omega
  have d9 : decide (r ≤ 8202) = false := by simp; omega
  have d10 : decide (8216 ≤ r) = true := by simp; omega
  have d11 : decide (r ≤ 8223) = false := by simp; omega
  have d12 : decide (r < 32) = false := by simp; omega
  have d13 : decide (127 ≤ r) = true := by simp; omega
  have d14 : decide (r ≤ 159) = false := by simp; omega
  have d15 : decide (8203 ≤ r) = true := by simp; omega
  have d16 : decide (r ≤ 8207) = false := by simp; omega
  have e0 : (r == 10) = false := by simp; omega
  have e1 : (r == 13) = false := by simp; omega
  have e2 : (r == 9) = false := by simp; omega
  have e3 : (r == 32) = false := by simp; omega
  have e4 : (r == 160) = false := by simp; omega
  have e5 : (r == 8239) = false := by simp; omega
  have e6 : (r == 8287) = false := by simp; omega
  have e7 : (r == 12288) = false := by simp; omega
  have e8 : (r == 45) = false := by simp; omega
  have e9 : (r == 8208) = false := by simp; omega
  have e10 : (r == 8209) = false := by simp; omega
  have e11 : (r == 8210) = false := by simp; omega
  have e12 : (r == 8211) = false := by simp; omega
  have e13 : (r == 8212) = false := by simp; omega
  have e14 : (r == 8213) = false := by simp; omega
  have e15 : (r == 34) = false := by simp; omega
  have e16 : (r == 39) = false := by simp; omega
  have e17 : (r == 171) = false := by simp; omega
  have e18 : (r == 187) = false := by simp; omega
  have e19 : (r == 8249) = false := by simp; omega
  have e20 : (r == 8250) = false := by simp; omega
  have e21 : (r == 33) = false := by simp; omega
  have e22 : (r == 44) = false := by simp; omega
  have e23 : (r == 46) = false := by simp; omega
  have e24 : (r == 58) = false := by simp; omega
  have e25 : (r == 59) = false := by simp; omega
  have e26 : (r == 63) = false := by simp; omega
  have e27 : (r == 161) = false := by simp; omega
  have e28 : (r == 183) = false := by simp; omega
  have e29 : (r == 191) = false := by simp; omega
  have e30 : (r == 8230) = false := by simp; omega
  have e31 : (r == 65279) = false := by simp; omega
  have HV := Lib.hid (show kindF r = 0 from by unfold kindF; simp only [d0, d1, d2, d3, d4, d5, d6, d7, d8, d9, d10, d11, d12, d13, d14, d15, d16, e0, e1, e2, e3, e4, e5, e6, e7, e8, e9, e10, e11, e12, e13, e14, e15, e16, e17, e18, e19, e20, e21, e22, e23, e24, e25, e26, e27, e28, e29, e30, e31, hl, Bool.and_false, Bool.or_true, Bool.or_false, if_true, if_false, Bool.false_eq_true])
  clear h1
  go_enter Try.func44, Try.ntmps44
  go_wp2
  go_ret
  exact ⟨by rw [HV.out]; rfl, rfl⟩
theorem kind_no_any (r : Int) (hl : letterF r = false) (w : World) : Calls Try.prog 44 #[.int .i32 r] w fun e w' => e = .returned (.int .i64 (kindF r)) ∧ w' = w := by
  rcases Int.lt_or_le r 188 with h | h
  · rcases Int.lt_or_le r 47 with h | h
    · rcases Int.lt_or_le r 33 with h | h
      · rcases Int.lt_or_le r 11 with h | h
        · rcases Int.lt_or_le r 9 with h | h
          · rcases Int.lt_or_le r 0 with h | h
            · exact kind_lo r (by omega) hl w
            · exact kind_0 r (by omega) (by omega) hl w
          · rcases Int.lt_or_le r 10 with h | h
            · exact kind_9 r (by omega) (by omega) hl w
            · exact kind_10 r (by omega) (by omega) hl w
        · rcases Int.lt_or_le r 14 with h | h
          · rcases Int.lt_or_le r 13 with h | h
            · exact kind_11 r (by omega) (by omega) hl w
            · exact kind_13 r (by omega) (by omega) hl w
          · rcases Int.lt_or_le r 32 with h | h
            · exact kind_14 r (by omega) (by omega) hl w
            · exact kind_32 r (by omega) (by omega) hl w
      · rcases Int.lt_or_le r 40 with h | h
        · rcases Int.lt_or_le r 35 with h | h
          · rcases Int.lt_or_le r 34 with h | h
            · exact kind_33 r (by omega) (by omega) hl w
            · exact kind_34 r (by omega) (by omega) hl w
          · rcases Int.lt_or_le r 39 with h | h
            · exact kind_35 r (by omega) (by omega) hl w
            · exact kind_39 r (by omega) (by omega) hl w
        · rcases Int.lt_or_le r 45 with h | h
          · rcases Int.lt_or_le r 44 with h | h
            · exact kind_40 r (by omega) (by omega) hl w
            · exact kind_44 r (by omega) (by omega) hl w
          · rcases Int.lt_or_le r 46 with h | h
            · exact kind_45 r (by omega) (by omega) hl w
            · exact kind_46 r (by omega) (by omega) hl w
    · rcases Int.lt_or_le r 160 with h | h
      · rcases Int.lt_or_le r 60 with h | h
        · rcases Int.lt_or_le r 58 with h | h
          · rcases Int.lt_or_le r 48 with h | h
            · exact kind_47 r (by omega) (by omega) hl w
            · exact kind_48 r (by omega) (by omega) hl w
          · rcases Int.lt_or_le r 59 with h | h
            · exact kind_58 r (by omega) (by omega) hl w
            · exact kind_59 r (by omega) (by omega) hl w
        · rcases Int.lt_or_le r 64 with h | h
          · rcases Int.lt_or_le r 63 with h | h
            · exact kind_60 r (by omega) (by omega) hl w
            · exact kind_63 r (by omega) (by omega) hl w
          · rcases Int.lt_or_le r 127 with h | h
            · exact kind_64 r (by omega) (by omega) hl w
            · exact kind_127 r (by omega) (by omega) hl w
      · rcases Int.lt_or_le r 172 with h | h
        · rcases Int.lt_or_le r 162 with h | h
          · rcases Int.lt_or_le r 161 with h | h
            · exact kind_160 r (by omega) (by omega) hl w
            · exact kind_161 r (by omega) (by omega) hl w
          · rcases Int.lt_or_le r 171 with h | h
            · exact kind_162 r (by omega) (by omega) hl w
            · exact kind_171 r (by omega) (by omega) hl w
        · rcases Int.lt_or_le r 184 with h | h
          · rcases Int.lt_or_le r 183 with h | h
            · exact kind_172 r (by omega) (by omega) hl w
            · exact kind_183 r (by omega) (by omega) hl w
          · rcases Int.lt_or_le r 187 with h | h
            · exact kind_184 r (by omega) (by omega) hl w
            · exact kind_187 r (by omega) (by omega) hl w
  · rcases Int.lt_or_le r 8230 with h | h
    · rcases Int.lt_or_le r 8209 with h | h
      · rcases Int.lt_or_le r 880 with h | h
        · rcases Int.lt_or_le r 192 with h | h
          · rcases Int.lt_or_le r 191 with h | h
            · exact kind_188 r (by omega) (by omega) hl w
            · exact kind_191 r (by omega) (by omega) hl w
          · rcases Int.lt_or_le r 768 with h | h
            · exact kind_192 r (by omega) (by omega) hl w
            · exact kind_768 r (by omega) (by omega) hl w
        · rcases Int.lt_or_le r 8203 with h | h
          · rcases Int.lt_or_le r 8192 with h | h
            · exact kind_880 r (by omega) (by omega) hl w
            · exact kind_8192 r (by omega) (by omega) hl w
          · rcases Int.lt_or_le r 8208 with h | h
            · exact kind_8203 r (by omega) (by omega) hl w
            · exact kind_8208 r (by omega) (by omega) hl w
      · rcases Int.lt_or_le r 8213 with h | h
        · rcases Int.lt_or_le r 8211 with h | h
          · rcases Int.lt_or_le r 8210 with h | h
            · exact kind_8209 r (by omega) (by omega) hl w
            · exact kind_8210 r (by omega) (by omega) hl w
          · rcases Int.lt_or_le r 8212 with h | h
            · exact kind_8211 r (by omega) (by omega) hl w
            · exact kind_8212 r (by omega) (by omega) hl w
        · rcases Int.lt_or_le r 8216 with h | h
          · rcases Int.lt_or_le r 8214 with h | h
            · exact kind_8213 r (by omega) (by omega) hl w
            · exact kind_8214 r (by omega) (by omega) hl w
          · rcases Int.lt_or_le r 8224 with h | h
            · exact kind_8216 r (by omega) (by omega) hl w
            · exact kind_8224 r (by omega) (by omega) hl w
    · rcases Int.lt_or_le r 8288 with h | h
      · rcases Int.lt_or_le r 8249 with h | h
        · rcases Int.lt_or_le r 8239 with h | h
          · rcases Int.lt_or_le r 8231 with h | h
            · exact kind_8230 r (by omega) (by omega) hl w
            · exact kind_8231 r (by omega) (by omega) hl w
          · rcases Int.lt_or_le r 8240 with h | h
            · exact kind_8239 r (by omega) (by omega) hl w
            · exact kind_8240 r (by omega) (by omega) hl w
        · rcases Int.lt_or_le r 8251 with h | h
          · rcases Int.lt_or_le r 8250 with h | h
            · exact kind_8249 r (by omega) (by omega) hl w
            · exact kind_8250 r (by omega) (by omega) hl w
          · rcases Int.lt_or_le r 8287 with h | h
            · exact kind_8251 r (by omega) (by omega) hl w
            · exact kind_8287 r (by omega) (by omega) hl w
      · rcases Int.lt_or_le r 57344 with h | h
        · rcases Int.lt_or_le r 12289 with h | h
          · rcases Int.lt_or_le r 12288 with h | h
            · exact kind_8288 r (by omega) (by omega) hl w
            · exact kind_12288 r (by omega) (by omega) hl w
          · rcases Int.lt_or_le r 55296 with h | h
            · exact kind_12289 r (by omega) (by omega) hl w
            · exact kind_55296 r (by omega) (by omega) hl w
        · rcases Int.lt_or_le r 65280 with h | h
          · rcases Int.lt_or_le r 65279 with h | h
            · exact kind_57344 r (by omega) (by omega) hl w
            · exact kind_65279 r (by omega) (by omega) hl w
          · rcases Int.lt_or_le r 1114112 with h | h
            · exact kind_65280 r (by omega) (by omega) hl w
            · exact kind_1114112 r (by omega) hl w
theorem kind_any (r : Int) (w : World) : Calls Try.prog 44 #[.int .i32 r] w fun e w' => e = .returned (.int .i64 (kindF r)) ∧ w' = w := by
  cases hl : letterF r with
  | false => exact kind_no_any r hl w
  | true =>
    obtain ⟨h1, h2⟩ := letter_range r hl
    have d0 : decide (r < 0) = false := by simp; omega
    have d1 : decide (55296 ≤ r) = false := by simp; omega
    have d2 : decide (1114111 < r) = false := by simp; omega
    have HV := Lib.hid (show kindF r = 1 from by unfold kindF; simp only [d0, d1, d2, hl]; rfl)
    have hc : Calls Try.prog 55 #[.int .i32 r] w fun e w' => e = .returned (.bool true) ∧ w' = w := by rw [← hl]; exact letter_any r w
    have HC := Lib.hid hc
    clear h1 h2 hl hc
    go_enter Try.func44, Try.ntmps44
    go_wp2_with fail
    refine HC.out.mono ?_
    rintro e w' ⟨rfl, ew⟩
    subst ew
    clear HC
    go_wp2
    go_ret
    exact ⟨by rw [HV.out]; rfl, rfl⟩
theorem of_any (a b r : Int) (br : Bool) (w : World) : Calls Try.prog 50 #[.agg #[.int .i64 a, .int .i64 b, .int .i32 r, .bool br]] w fun e w' => e = .returned (.int .i64 (if br then 11 else kindF r)) ∧ Below w.heap.size w w' := by
  go_enter Try.func50, Try.ntmps50
  cases br with
  | true =>
    go_wp2
    go_ret
    exact ⟨rfl, (Below.refl _ _).alloc (Nat.le_refl _) _⟩
  | false =>
    go_wp2_with fail
    refine (kind_any r _).mono ?_
    rintro e w' ⟨rfl, ew⟩
    subst ew
    go_wp2
    go_ret
    exact ⟨rfl, (Below.refl _ _).alloc (Nat.le_refl _) _⟩
end
end Go.Proofs.Ytialpfmaekagjaa
