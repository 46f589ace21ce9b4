/- class: what the functions on runes compute. -/
import Derived.Test.YtialpfmaekagjaaGen
namespace Go.Proofs.Ytialpfmaekagjaa
open Go.RowKit
def evenF (r : Int) : Bool := bits BinOp.and IntKind.i32 r 1 == 0
theorem even_any (r : Int) (w : World) : Calls Try.prog 63 #[.int .i32 r] w fun e w' => e = .returned (.bool (evenF r)) ∧ w' = w := by
  go_enter Try.func63, Try.ntmps63
  go_wp2
  go_ret
  exact ⟨rfl, rfl⟩
def greatF (r : Int) : Bool :=
  if (decide (65 ≤ r) && decide (r ≤ 90)) || (decide (192 ≤ r) && decide (r ≤ 222)) then !(r == 215)
  else if (decide (256 ≤ r) && decide (r ≤ 311)) || (decide (330 ≤ r) && decide (r ≤ 375)) then evenF r
  else if decide (313 ≤ r) && decide (r ≤ 328) then !(evenF r)
  else if decide (376 ≤ r) && decide (r ≤ 381) then r == 376 || !(evenF r)
  else if decide (902 ≤ r) && decide (r ≤ 911) then !(r == 903) && !(r == 907) && !(r == 909)
  else if decide (913 ≤ r) && decide (r ≤ 939) then !(r == 930)
  else decide (1024 ≤ r) && decide (r ≤ 1071)
def smallF (r : Int) : Bool :=
  if (decide (97 ≤ r) && decide (r ≤ 122)) || (decide (223 ≤ r) && decide (r ≤ 255)) then !(r == 247)
  else if (decide (256 ≤ r) && decide (r ≤ 311)) || (decide (330 ≤ r) && decide (r ≤ 375)) then !(evenF r)
  else if r == 312 || r == 329 || r == 383 || r == 912 then true
  else if (decide (313 ≤ r) && decide (r ≤ 328)) || (decide (378 ≤ r) && decide (r ≤ 382)) then evenF r
  else if decide (940 ≤ r) && decide (r ≤ 974) then true
  else decide (1072 ≤ r) && decide (r ≤ 1119)
def letterF (r : Int) : Bool := greatF r || smallF r
def markF (r : Int) : Bool := decide (768 ≤ r) && decide (r ≤ 879)
def kindF (r : Int) : Int :=
  if decide (r < 0) || (decide (55296 ≤ r) && decide (r ≤ 57343)) || decide (1114111 < r) then 0
  else if letterF r then 1
  else if decide (768 ≤ r) && decide (r ≤ 879) then 2
  else if decide (48 ≤ r) && decide (r ≤ 57) then 3
  else if r == 10 || r == 13 then 4
  else if r == 9 || r == 32 || r == 160 || r == 8239 || r == 8287 || r == 12288 then 5
  else if r == 45 || r == 8208 || r == 8209 || r == 8210 || r == 8211 || r == 8212 || r == 8213 then 6
  else if r == 34 || r == 39 || r == 171 || r == 187 || r == 8249 || r == 8250 then 7
  else if r == 33 || r == 44 || r == 46 || r == 58 || r == 59 || r == 63 || r == 161 || r == 183 || r == 191 || r == 8230 then 8
  else if decide (8192 ≤ r) && decide (r ≤ 8202) then 5
  else if decide (8216 ≤ r) && decide (r ≤ 8223) then 7
  else if decide (r < 32) || (decide (127 ≤ r) && decide (r ≤ 159)) || (decide (8203 ≤ r) && decide (r ≤ 8207)) || r == 65279 then 9
  else 10
section
set_option maxHeartbeats 2000000
theorem great_lo (r : Int) (h2 : r ≤ 64) (w : World) : Calls Try.prog 58 #[.int .i32 r] w fun e w' => e = .returned (.bool (greatF r)) ∧ w' = w := by
  have d0 : decide (65 ≤ r) = false := by simp; omega
  have d1 : decide (r ≤ 90) = true := by simp; omega
  have d2 : decide (192 ≤ r) = false := by simp; omega
  have d3 : decide (r ≤ 222) = true := by simp; omega
  have d4 : decide (256 ≤ r) = false := by simp; omega
  have d5 : decide (r ≤ 311) = true := by simp; omega
  have d6 : decide (330 ≤ r) = false := by simp; omega
  have d7 : decide (r ≤ 375) = true := by simp; omega
  have d8 : decide (313 ≤ r) = false := by simp; omega
  have d9 : decide (r ≤ 328) = true := by simp; omega
  have d10 : decide (376 ≤ r) = false := by simp; omega
  have d11 : decide (r ≤ 381) = true := by simp; omega
  have d12 : decide (902 ≤ r) = false := by simp; omega
  have d13 : decide (r ≤ 911) = true := by simp; omega
  have d14 : decide (913 ≤ r) = false := by simp; omega
  have d15 : decide (r ≤ 939) = true := by simp; omega
  have d16 : decide (1024 ≤ r) = false := by simp; omega
  have d17 : decide (r ≤ 1071) = true := by simp; omega
  have e0 : (r == 376) = false := by simp; omega
  have n0 : (r != 376) = true := by simp; omega
  have m0 : ¬ r = 376 := by omega
  have e1 : (r == 903) = false := by simp; omega
  have n1 : (r != 903) = true := by simp; omega
  have m1 : ¬ r = 903 := by omega
  have e2 : (r == 907) = false := by simp; omega
  have n2 : (r != 907) = true := by simp; omega
  have m2 : ¬ r = 907 := by omega
  have e3 : (r == 909) = false := by simp; omega
  have n3 : (r != 909) = true := by simp; omega
  have m3 : ¬ r = 909 := by omega
  have HV := Lib.hid (show greatF r = false from by unfold greatF; simp only [d0, d1, d2, d3, d4, d5, d6, d7, d8, d9, d10, d11, d12, d13, d14, d15, d16, d17, e0, e1, e2, e3, Bool.and_true, Bool.or_false, Bool.false_or, Bool.not_false, if_false, Bool.false_eq_true])
  clear h2
  go_enter Try.func58, Try.ntmps58
  go_wp2
  go_ret
  exact ⟨by rw [HV.out]; rfl, rfl⟩
theorem great_65 (r : Int) (h1 : 65 ≤ r) (h2 : r ≤ 90) (w : World) : Calls Try.prog 58 #[.int .i32 r] w fun e w' => e = .returned (.bool (greatF r)) ∧ w' = w := by
  have d0 : decide (65 ≤ r) = true := by simp; omega
  have d1 : decide (r ≤ 90) = true := by simp; omega
  have d2 : decide (192 ≤ r) = false := by simp; omega
  have d3 : decide (r ≤ 222) = true := by simp; omega
  have d4 : decide (256 ≤ r) = false := by simp; omega
  have d5 : decide (r ≤ 311) = true := by simp; omega
  have d6 : decide (330 ≤ r) = false := by simp; omega
  have d7 : decide (r ≤ 375) = true := by simp; omega
  have d8 : decide (313 ≤ r) = false := by simp; omega
  have d9 : decide (r ≤ 328) = true := by simp; omega
  have d10 : decide (376 ≤ r) = false := by simp; omega
  have d11 : decide (r ≤ 381) = true := by simp; omega
  have d12 : decide (902 ≤ r) = false := by simp; omega
  have d13 : decide (r ≤ 911) = true := by simp; omega
  have d14 : decide (913 ≤ r) = false := by simp; omega
  have d15 : decide (r ≤ 939) = true := by simp; omega
  have d16 : decide (1024 ≤ r) = false := by simp; omega
  have d17 : decide (r ≤ 1071) = true := by simp; omega
  have e0 : (r == 376) = false := by simp; omega
  have n0 : (r != 376) = true := by simp; omega
  have m0 : ¬ r = 376 := by omega
  have e1 : (r == 903) = false := by simp; omega
  have n1 : (r != 903) = true := by simp; omega
  have m1 : ¬ r = 903 := by omega
  have e2 : (r == 907) = false := by simp; omega
  have n2 : (r != 907) = true := by simp; omega
  have m2 : ¬ r = 907 := by omega
  have e3 : (r == 909) = false := by simp; omega
  have n3 : (r != 909) = true := by simp; omega
  have m3 : ¬ r = 909 := by omega
  have HV := Lib.hid (show greatF r = !(r == 215) from by unfold greatF; simp only [d0, d1, d2, d3, d4, d5, d6, d7, d8, d9, d10, d11, d12, d13, d14, d15, d16, d17, e0, e1, e2, e3, Bool.and_true, Bool.or_false, Bool.false_or, Bool.not_false, if_true, if_false, Bool.false_eq_true])
  clear h1 h2
  go_enter Try.func58, Try.ntmps58
  go_wp2
  go_ret
  exact ⟨by rw [HV.out]; rfl, rfl⟩
theorem great_91 (r : Int) (h1 : 91 ≤ r) (h2 : r ≤ 191) (w : World) : Calls Try.prog 58 #[.int .i32 r] w fun e w' => e = .returned (.bool (greatF r)) ∧ w' = w := by
  have d0 : decide (65 ≤ r) = true := by simp; omega
  have d1 : decide (r ≤ 90) = false := by simp; omega
  have d2 : decide (192 ≤ r) = false := by simp; omega
  have d3 : decide (r ≤ 222) = true := by simp; omega
  have d4 : decide (256 ≤ r) = false := by simp; omega
  have d5 : decide (r ≤ 311) = true := by simp; omega
  have d6 : decide (330 ≤ r) = false := by simp; omega
  have d7 : decide (r ≤ 375) = true := by simp; omega
  have d8 : decide (313 ≤ r) = false := by simp; omega
  have d9 : decide (r ≤ 328) = true := by simp; omega
  have d10 : decide (376 ≤ r) = false := by simp; omega
  have d11 : decide (r ≤ 381) = true := by simp; omega
  have d12 : decide (902 ≤ r) = false := by simp; omega
  have d13 : decide (r ≤ 911) = true := by simp; omega
  have d14 : decide (913 ≤ r) = false := by simp; omega
  have d15 : decide (r ≤ 939) = true := by simp; omega
  have d16 : decide (1024 ≤ r) = false := by simp; omega
  have d17 : decide (r ≤ 1071) = true := by simp; omega
  have e0 : (r == 376) = false := by simp; omega
  have n0 : (r != 376) = true := by simp; omega
  have m0 : ¬ r = 376 := by omega
  have e1 : (r == 903) = false := by simp; omega
  have n1 : (r != 903) = true := by simp; omega
  have m1 : ¬ r = 903 := by omega
  have e2 : (r == 907) = false := by simp; omega
  have n2 : (r != 907) = true := by simp; omega
  have m2 : ¬ r = 907 := by omega
  have e3 : (r == 909) = false := by simp; omega
  have n3 : (r != 909) = true := by simp; omega
  have m3 : ¬ r = 909 := by omega
  have HV := Lib.hid (show greatF r = false from by unfold greatF; simp only [d0, d1, d2, d3, d4, d5, d6, d7, d8, d9, d10, d11, d12, d13, d14, d15, d16, d17, e0, e1, e2, e3, Bool.and_true, Bool.and_false, Bool.or_false, Bool.false_or, Bool.not_false, if_false, Bool.false_eq_true])
  clear h1 h2
  go_enter Try.func58, Try.ntmps58
  go_wp2
  go_ret
  exact ⟨by rw [HV.out]; rfl, rfl⟩
theorem great_192 (r : Int) (h1 : 192 ≤ r) (h2 : r ≤ 222) (w : World) : Calls Try.prog 58 #[.int .i32 r] w fun e w' => e = .returned (.bool (greatF r)) ∧ w' = w := by
  have d0 : decide (65 ≤ r) = true := by simp; omega
  have d1 : decide (r ≤ 90) = false := by simp; omega
  have d2 : decide (192 ≤ r) = true := by simp; omega
  have d3 : decide (r ≤ 222) = true := by simp; omega
  have d4 : decide (256 ≤ r) = false := by simp; omega
  have d5 : decide (r ≤ 311) = true := by simp; omega
  have d6 : decide (330 ≤ r) = false := by simp; omega
  have d7 : decide (r ≤ 375) = true := by simp; omega
  have d8 : decide (313 ≤ r) = false := by simp; omega
  have d9 : decide (r ≤ 328) = true := by simp; omega
  have d10 : decide (376 ≤ r) = false := by simp; omega
  have d11 : decide (r ≤ 381) = true := by simp; omega
  have d12 : decide (902 ≤ r) = false := by simp; omega
  have d13 : decide (r ≤ 911) = true := by simp; omega
  have d14 : decide (913 ≤ r) = false := by simp; omega
  have d15 : decide (r ≤ 939) = true := by simp; omega
  have d16 : decide (1024 ≤ r) = false := by simp; omega
  have d17 : decide (r ≤ 1071) = true := by simp; omega
  have e0 : (r == 376) = false := by simp; omega
  have n0 : (r != 376) = true := by simp; omega
  have m0 : ¬ r = 376 := by omega
  have e1 : (r == 903) = false := by simp; omega
  have n1 : (r != 903) = true := by simp; omega
  have m1 : ¬ r = 903 := by omega
  have e2 : (r == 907) = false := by simp; omega
  have n2 : (r != 907) = true := by simp; omega
  have m2 : ¬ r = 907 := by omega
  have e3 : (r == 909) = false := by simp; omega
  have n3 : (r != 909) = true := by simp; omega
  have m3 : ¬ r = 909 := by omega
  have HV := Lib.hid (show greatF r = !(r == 215) from by unfold greatF; simp only [d0, d1, d2, d3, d4, d5, d6, d7, d8, d9, d10, d11, d12, d13, d14, d15, d16, d17, e0, e1, e2, e3, Bool.and_true, Bool.and_false, Bool.or_true, Bool.or_false, Bool.false_or, Bool.not_false, if_true, if_false, Bool.false_eq_true])
  clear h1 h2
  go_enter Try.func58, Try.ntmps58
  go_wp2
  go_ret
  exact ⟨by rw [HV.out]; rfl, rfl⟩
theorem great_223 (r : Int) (h1 : 223 ≤ r) (h2 : r ≤ 255) (w : World) : Calls Try.prog 58 #[.int .i32 r] w fun e w' => e = .returned (.bool (greatF r)) ∧ w' = w := by
  have d0 : decide (65 ≤ r) = true := by simp; omega
  have d1 : decide (r ≤ 90) = false := by simp; omega
  have d2 : decide (192 ≤ r) = true := by simp; omega
  have d3 : decide (r ≤ 222) = false := by simp; omega
  have d4 : decide (256 ≤ r) = false := by simp; omega
  have d5 : decide (r ≤ 311) = true := by simp; omega
  have d6 : decide (330 ≤ r) = false := by simp; omega
  have d7 : decide (r ≤ 375) = true := by simp; omega
  have d8 : decide (313 ≤ r) = false := by simp; omega
  have d9 : decide (r ≤ 328) = true := by simp; omega
  have d10 : decide (376 ≤ r) = false := by simp; omega
  have d11 : decide (r ≤ 381) = true := by simp; omega
  have d12 : decide (902 ≤ r) = false := by simp; omega
  have d13 : decide (r ≤ 911) = true := by simp; omega
  have d14 : decide (913 ≤ r) = false := by simp; omega
  have d15 : decide (r ≤ 939) = true := by simp; omega
  have d16 : decide (1024 ≤ r) = false := by simp; omega
  have d17 : decide (r ≤ 1071) = true := by simp; omega
  have e0 : (r == 376) = false := by simp; omega
  have n0 : (r != 376) = true := by simp; omega
  have m0 : ¬ r = 376 := by omega
  have e1 : (r == 903) = false := by simp; omega
  have n1 : (r != 903) = true := by simp; omega
  have m1 : ¬ r = 903 := by omega
  have e2 : (r == 907) = false := by simp; omega
  have n2 : (r != 907) = true := by simp; omega
  have m2 : ¬ r = 907 := by omega
  have e3 : (r == 909) = false := by simp; omega
  have n3 : (r != 909) = true := by simp; omega
  have m3 : ¬ r = 909 := by omega
  have HV := Lib.hid (show greatF r = false from by unfold greatF; simp only [d0, d1, d2, d3, d4, d5, d6, d7, d8, d9, d10, d11, d12, d13, d14, d15, d16, d17, e0, e1, e2, e3, Bool.and_true, Bool.and_false, Bool.or_false, Bool.false_or, Bool.not_false, if_false, Bool.false_eq_true])
  clear h1 h2
  go_enter Try.func58, Try.ntmps58
  go_wp2
  go_ret
  exact ⟨by rw [HV.out]; rfl, rfl⟩
theorem great_256 (r : Int) (h1 : 256 ≤ r) (h2 : r ≤ 311) (w : World) : Calls Try.prog 58 #[.int .i32 r] w fun e w' => e = .returned (.bool (greatF r)) ∧ w' = w := by
  have d0 : decide (65 ≤ r) = true := by simp; omega
  have d1 : decide (r ≤ 90) = false := by simp; omega
  have d2 : decide (192 ≤ r) = true := by simp; omega
  have d3 : decide (r ≤ 222) = false := by simp; omega
  have d4 : decide (256 ≤ r) = true := by simp; omega
  have d5 : decide (r ≤ 311) = true := by simp; omega
  have d6 : decide (330 ≤ r) = false := by simp; omega
  have d7 : decide (r ≤ 375) = true := by simp; omega
  have d8 : decide (313 ≤ r) = false := by simp; omega
  have d9 : decide (r ≤ 328) = true := by simp; omega
  have d10 : decide (376 ≤ r) = false := by simp; omega
  have d11 : decide (r ≤ 381) = true := by simp; omega
  have d12 : decide (902 ≤ r) = false := by simp; omega
  have d13 : decide (r ≤ 911) = true := by simp; omega
  have d14 : decide (913 ≤ r) = false := by simp; omega
  have d15 : decide (r ≤ 939) = true := by simp; omega
  have d16 : decide (1024 ≤ r) = false := by simp; omega
  have d17 : decide (r ≤ 1071) = true := by simp; omega
  have e0 : (r == 376) = false := by simp; omega
  have n0 : (r != 376) = true := by simp; omega
  have m0 : ¬ r = 376 := by omega
  have e1 : (r == 903) = false := by simp; omega
  have n1 : (r != 903) = true := by simp; omega
  have m1 : ¬ r = 903 := by omega
  have e2 : (r == 907) = false := by simp; omega
  have n2 : (r != 907) = true := by simp; omega
  have m2 : ¬ r = 907 := by omega
  have e3 : (r == 909) = false := by simp; omega
  have n3 : (r != 909) = true := by simp; omega
  have m3 : ¬ r = 909 := by omega
  have HV := Lib.hid (show greatF r = evenF r from by unfold greatF; simp only [d0, d1, d2, d3, d4, d5, d6, d7, d8, d9, d10, d11, d12, d13, d14, d15, d16, d17, e0, e1, e2, e3, Bool.and_true, Bool.and_false, Bool.or_false, Bool.false_or, Bool.not_false, if_true, if_false, Bool.false_eq_true])
  clear h1 h2
  go_enter Try.func58, Try.ntmps58
  go_wp2_with fail
  refine (even_any r _).mono ?_
  rintro e w' ⟨rfl, ew⟩
  subst ew
  go_wp2
  go_ret
  exact ⟨by rw [HV.out]; rfl, rfl⟩
theorem great_312 (r : Int) (h1 : 312 ≤ r) (h2 : r ≤ 312) (w : World) : Calls Try.prog 58 #[.int .i32 r] w fun e w' => e = .returned (.bool (greatF r)) ∧ w' = w := by
  obtain rfl : r = 312 := by omega
  have HV := Lib.hid (show greatF 312 = false from by decide +kernel)
  clear h1 h2
  go_enter Try.func58, Try.ntmps58
  go_wp2
  go_ret
  exact ⟨by rw [HV.out]; rfl, rfl⟩
theorem great_313 (r : Int) (h1 : 313 ≤ r) (h2 : r ≤ 328) (w : World) : Calls Try.prog 58 #[.int .i32 r] w fun e w' => e = .returned (.bool (greatF r)) ∧ w' = w := by
  have d0 : decide (65 ≤ r) = true := by simp; omega
  have d1 : decide (r ≤ 90) = false := by simp; omega
  have d2 : decide (192 ≤ r) = true := by simp; omega
  have d3 : decide (r ≤ 222) = false := by simp; omega
  have d4 : decide (256 ≤ r) = true := by simp; omega
  have d5 : decide (r ≤ 311) = false := by simp; omega
  have d6 : decide (330 ≤ r) = false := by simp; omega
  have d7 : decide (r ≤ 375) = true := by simp; omega
  have d8 : decide (313 ≤ r) = true := by simp; omega
  have d9 : decide (r ≤ 328) = true := by simp; omega
  have d10 : decide (376 ≤ r) = false := by simp; omega
  have d11 : decide (r ≤ 381) = true := by simp; omega
  have d12 : decide (902 ≤ r) = false := by simp; omega
  have d13 : decide (r ≤ 911) = true := by simp; omega
  have d14 : decide (913 ≤ r) = false := by simp; omega
  have d15 : decide (r ≤ 939) = true := by simp; omega
  have d16 : decide (1024 ≤ r) = false := by simp; omega
  have d17 : decide (r ≤ 1071) = true := by simp; omega
  have e0 : (r == 376) = false := by simp; omega
  have n0 : (r != 376) = true := by simp; omega
  have m0 : ¬ r = 376 := by omega
  have e1 : (r == 903) = false := by simp; omega
  have n1 : (r != 903) = true := by simp; omega
  have m1 : ¬ r = 903 := by omega
  have e2 : (r == 907) = false := by simp; omega
  have n2 : (r != 907) = true := by simp; omega
  have m2 : ¬ r = 907 := by omega
  have e3 : (r == 909) = false := by simp; omega
  have n3 : (r != 909) = true := by simp; omega
  have m3 : ¬ r = 909 := by omega
  have HV := Lib.hid (show greatF r = !(evenF r) from by unfold greatF; simp only [d0, d1, d2, d3, d4, d5, d6, d7, d8, d9, d10, d11, d12, d13, d14, d15, d16, d17, e0, e1, e2, e3, Bool.and_true, Bool.and_false, Bool.or_false, Bool.false_or, Bool.not_false, if_true, if_false, Bool.false_eq_true])
  clear h1 h2
  go_enter Try.func58, Try.ntmps58
  go_wp2_with fail
  refine (even_any r _).mono ?_
  rintro e w' ⟨rfl, ew⟩
  subst ew
  go_wp2
  go_ret
  exact ⟨by rw [HV.out]; rfl, rfl⟩
theorem great_329 (r : Int) (h1 : 329 ≤ r) (h2 : r ≤ 329) (w : World) : Calls Try.prog 58 #[.int .i32 r] w fun e w' => e = .returned (.bool (greatF r)) ∧ w' = w := by
  obtain rfl : r = 329 := by omega
  have HV := Lib.hid (show greatF 329 = false from by decide +kernel)
  clear h1 h2
  go_enter Try.func58, Try.ntmps58
  go_wp2
  go_ret
  exact ⟨by rw [HV.out]; rfl, rfl⟩
theorem great_330 (r : Int) (h1 : 330 ≤ r) (h2 : r ≤ 375) (w : World) : Calls Try.prog 58 #[.int .i32 r] w fun e w' => e = .returned (.bool (greatF r)) ∧ w' = w := by
  have d0 : decide (65 ≤ r) = true := by simp; omega
  have d1 : decide (r ≤ 90) = false := by simp; omega
  have d2 : decide (192 ≤ r) = true := by simp; omega
  have d3 : decide (r ≤ 222) = false := by simp; omega
  have d4 : decide (256 ≤ r) = true := by simp; omega
  have d5 : decide (r ≤ 311) = false := by simp; omega
  have d6 : decide (330 ≤ r) = true := by simp; omega
  have d7 : decide (r ≤ 375) = true := by simp; omega
  have d8 : decide (313 ≤ r) = true := by simp; omega
  have d9 : decide (r ≤ 328) = false := by simp; omega
  have d10 : decide (376 ≤ r) = false := by simp; omega
  have d11 : decide (r ≤ 381) = true := by simp; omega
  have d12 : decide (902 ≤ r) = false := by simp; omega
  have d13 : decide (r ≤ 911) = true := by simp; omega
  have d14 : decide (913 ≤ r) = false := by simp; omega
  have d15 : decide (r ≤ 939) = true := by simp; omega
  have d16 : decide (1024 ≤ r) = false := by simp; omega
  have d17 : decide (r ≤ 1071) = true := by simp; omega
  have e0 : (r == 376) = false := by simp; omega
  have n0 : (r != 376) = true := by simp; omega
  have m0 : ¬ r = 376 := by omega
  have e1 : (r == 903) = false := by simp; omega
  have n1 : (r != 903) = true := by simp; omega
  have m1 : ¬ r = 903 := by omega
  have e2 : (r == 907) = false := by simp; omega
  have n2 : (r != 907) = true := by simp; omega
  have m2 : ¬ r = 907 := by omega
  have e3 : (r == 909) = false := by simp; omega
  have n3 : (r != 909) = true := by simp; omega
  have m3 : ¬ r = 909 := by omega
  have HV := Lib.hid (show greatF r = evenF r from by unfold greatF; simp only [d0, d1, d2, d3, d4, d5, d6, d7, d8, d9, d10, d11, d12, d13, d14, d15, d16, d17, e0, e1, e2, e3, Bool.and_true, Bool.and_false, Bool.or_true, Bool.or_false, Bool.false_or, Bool.not_false, if_true, if_false, Bool.false_eq_true])
  clear h1 h2
  go_enter Try.func58, Try.ntmps58
  go_wp2_with fail
  refine (even_any r _).mono ?_
  rintro e w' ⟨rfl, ew⟩
  subst ew
  go_wp2
  go_ret
  exact ⟨by rw [HV.out]; rfl, rfl⟩
theorem great_376 (r : Int) (h1 : 376 ≤ r) (h2 : r ≤ 376) (w : World) : Calls Try.prog 58 #[.int .i32 r] w fun e w' => e = .returned (.bool (greatF r)) ∧ w' = w := by
  obtain rfl : r = 376 := by omega
  have HV := Lib.hid (show greatF 376 = true from by decide +kernel)
  clear h1 h2
  go_enter Try.func58, Try.ntmps58
  go_wp2
  go_ret
  exact ⟨by rw [HV.out]; rfl, rfl⟩
theorem great_377 (r : Int) (h1 : 377 ≤ r) (h2 : r ≤ 381) (w : World) : Calls Try.prog 58 #[.int .i32 r] w fun e w' => e = .returned (.bool (greatF r)) ∧ w' = w := by
  have d0 : decide (65 ≤ r) = true := by simp; omega
  have d1 : decide (r ≤ 90) = false := by simp; omega
  have d2 : decide (192 ≤ r) = true := by simp; omega
  have d3 : decide (r ≤ 222) = false := by simp; omega
  have d4 : decide (256 ≤ r) = true := by simp; omega
  have d5 : decide (r ≤ 311) = false := by simp; omega
  have d6 : decide (330 ≤ r) = true := by simp; omega
  have d7 : decide (r ≤ 375) = false := by simp; omega
  have d8 : decide (313 ≤ r) = true := by simp; omega
  have d9 : decide (r ≤ 328) = false := by simp; omega
  have d10 : decide (376 ≤ r) = true := by simp; omega
  have d11 : decide (r ≤ 381) = true := by simp; omega
  have d12 : decide (902 ≤ r) = false := by simp; omega
  have d13 : decide (r ≤ 911) = true := by simp; omega
  have d14 : decide (913 ≤ r) = false := by simp; omega
  have d15 : decide (r ≤ 939) = true := by simp; omega
  have d16 : decide (1024 ≤ r) = false := by simp; omega
  have d17 : decide (r ≤ 1071) = true := by simp; omega
  have e0 : (r == 376) = false := by simp; omega
  have n0 : (r != 376) = true := by simp; omega
  have m0 : ¬ r = 376 := by omega
  have e1 : (r == 903) = false := by simp; omega
  have n1 : (r != 903) = true := by simp; omega
  have m1 : ¬ r = 903 := by omega
  have e2 : (r == 907) = false := by simp; omega
  have n2 : (r != 907) = true := by simp; omega
  have m2 : ¬ r = 907 := by omega
  have e3 : (r == 909) = false := by simp; omega
  have n3 : (r != 909) = true := by simp; omega
  have m3 : ¬ r = 909 := by omega
  have HV := Lib.hid (show greatF r = !(evenF r) from by unfold greatF; simp only [d0, d1, d2, d3, d4, d5, d6, d7, d8, d9, d10, d11, d12, d13, d14, d15, d16, d17, e0, e1, e2, e3, Bool.and_true, Bool.and_false, Bool.or_false, Bool.false_or, Bool.not_false, if_true, if_false, Bool.false_eq_true])
  clear h1 h2
  go_enter Try.func58, Try.ntmps58
  go_wp2_with fail
  refine (even_any r _).mono ?_
  rintro e w' ⟨rfl, ew⟩
  subst ew
  go_wp2
  go_ret
  exact ⟨by rw [HV.out]; rfl, rfl⟩
theorem great_382 (r : Int) (h1 : 382 ≤ r) (h2 : r ≤ 901) (w : World) : Calls Try.prog 58 #[.int .i32 r] w fun e w' => e = .returned (.bool (greatF r)) ∧ w' = w := by
  have d0 : decide (65 ≤ r) = true := by simp; omega
  have d1 : decide (r ≤ 90) = false := by simp; omega
  have d2 : decide (192 ≤ r) = true := by simp; omega
  have d3 : decide (r ≤ 222) = false := by simp; omega
  have d4 : decide (256 ≤ r) = true := by simp; omega
  have d5 : decide (r ≤ 311) = false := by simp; omega
  have d6 : decide (330 ≤ r) = true := by simp; omega
  have d7 : decide (r ≤ 375) = false := by simp; omega
  have d8 : decide (313 ≤ r) = true := by simp; omega
  have d9 : decide (r ≤ 328) = false := by simp; omega
  have d10 : decide (376 ≤ r) = true := by simp; omega
  have d11 : decide (r ≤ 381) = false := by simp; omega
  have d12 : decide (902 ≤ r) = false := by simp; omega
  have d13 : decide (r ≤ 911) = true := by simp; omega
  have d14 : decide (913 ≤ r) = false := by simp; omega
  have d15 : decide (r ≤ 939) = true := by simp; omega
  have d16 : decide (1024 ≤ r) = false := by simp; omega
  have d17 : decide (r ≤ 1071) = true := by simp; omega
  have e0 : (r == 376) = false := by simp; omega
  have n0 : (r != 376) = true := by simp; omega
  have m0 : ¬ r = 376 := by omega
  have e1 : (r == 903) = false := by simp; omega
  have n1 : (r != 903) = true := by simp; omega
  have m1 : ¬ r = 903 := by omega
  have e2 : (r == 907) = false := by simp; omega
  have n2 : (r != 907) = true := by simp; omega
  have m2 : ¬ r = 907 := by omega
  have e3 : (r == 909) = false := by simp; omega
  have n3 : (r != 909) = true := by simp; omega
  have m3 : ¬ r = 909 := by omega
  have HV := Lib.hid (show greatF r = false from by unfold greatF; simp only [d0, d1, d2, d3, d4, d5, d6, d7, d8, d9, d10, d11, d12, d13, d14, d15, d16, d17, e0, e1, e2, e3, Bool.and_true, Bool.and_false, Bool.or_false, Bool.false_or, Bool.not_false, if_false, Bool.false_eq_true])
  clear h1 h2
  go_enter Try.func58, Try.ntmps58
  go_wp2
  go_ret
  exact ⟨by rw [HV.out]; rfl, rfl⟩
theorem great_902 (r : Int) (h1 : 902 ≤ r) (h2 : r ≤ 902) (w : World) : Calls Try.prog 58 #[.int .i32 r] w fun e w' => e = .returned (.bool (greatF r)) ∧ w' = w := by
  obtain rfl : r = 902 := by omega
  have HV := Lib.hid (show greatF 902 = true from by decide +kernel)
  clear h1 h2
  go_enter Try.func58, Try.ntmps58
  go_wp2
  go_ret
  exact ⟨by rw [HV.out]; rfl, rfl⟩
theorem great_903 (r : Int) (h1 : 903 ≤ r) (h2 : r ≤ 903) (w : World) : Calls Try.prog 58 #[.int .i32 r] w fun e w' => e = .returned (.bool (greatF r)) ∧ w' = w := by
  obtain rfl : r = 903 := by omega
  have HV := Lib.hid (show greatF 903 = false from by decide +kernel)
  clear h1 h2
  go_enter Try.func58, Try.ntmps58
  go_wp2
  go_ret
  exact ⟨by rw [HV.out]; rfl, rfl⟩
theorem great_904 (r : Int) (h1 : 904 ≤ r) (h2 : r ≤ 906) (w : World) : Calls Try.prog 58 #[.int .i32 r] w fun e w' => e = .returned (.bool (greatF r)) ∧ w' = w := by
  have d0 : decide (65 ≤ r) = true := by simp; omega
  have d1 : decide (r ≤ 90) = false := by simp; omega
  have d2 : decide (192 ≤ r) = true := by simp; omega
  have d3 : decide (r ≤ 222) = false := by simp; omega
  have d4 : decide (256 ≤ r) = true := by simp; omega
  have d5 : decide (r ≤ 311) = false := by simp; omega
  have d6 : decide (330 ≤ r) = true := by simp; omega
  have d7 : decide (r ≤ 375) = false := by simp; omega
  have d8 : decide (313 ≤ r) = true := by simp; omega
  have d9 : decide (r ≤ 328) = false := by simp; omega
  have d10 : decide (376 ≤ r) = true := by simp; omega
  have d11 : decide (r ≤ 381) = false := by simp; omega
  have d12 : decide (902 ≤ r) = true := by simp; omega
  have d13 : decide (r ≤ 911) = true := by simp; omega
  have d14 : decide (913 ≤ r) = false := by simp; omega
  have d15 : decide (r ≤ 939) = true := by simp; omega
  have d16 : decide (1024 ≤ r) = false := by simp; omega
  have d17 : decide (r ≤ 1071) = true := by simp; omega
  have e0 : (r == 376) = false := by simp; omega
  have n0 : (r != 376) = true := by simp; omega
  have m0 : ¬ r = 376 := by omega
  have e1 : (r == 903) = false := by simp; omega
  have n1 : (r != 903) = true := by simp; omega
  have m1 : ¬ r = 903 := by omega
  have e2 : (r == 907) = false := by simp; omega
  have n2 : (r != 907) = true := by simp; omega
  have m2 : ¬ r = 907 := by omega
  have e3 : (r == 909) = false := by simp; omega
  have n3 : (r != 909) = true := by simp; omega
  have m3 : ¬ r = 909 := by omega
  have HV := Lib.hid (show greatF r = true from by unfold greatF; simp only [d0, d1, d2, d3, d4, d5, d6, d7, d8, d9, d10, d11, d12, d13, d14, d15, d16, d17, e0, e1, e2, e3, Bool.and_true, Bool.and_false, Bool.or_false, Bool.false_or, Bool.not_false, if_true, if_false, Bool.false_eq_true])
  clear h1 h2
  go_enter Try.func58, Try.ntmps58
  go_wp2
  go_ret
  exact ⟨by rw [HV.out]; rfl, rfl⟩
theorem great_907 (r : Int) (h1 : 907 ≤ r) (h2 : r ≤ 907) (w : World) : Calls Try.prog 58 #[.int .i32 r] w fun e w' => e = .returned (.bool (greatF r)) ∧ w' = w := by
  obtain rfl : r = 907 := by omega
  have HV := Lib.hid (show greatF 907 = false from by decide +kernel)
  clear h1 h2
  go_enter Try.func58, Try.ntmps58
  go_wp2
  go_ret
  exact ⟨by rw [HV.out]; rfl, rfl⟩
theorem great_908 (r : Int) (h1 : 908 ≤ r) (h2 : r ≤ 908) (w : World) : Calls Try.prog 58 #[.int .i32 r] w fun e w' => e = .returned (.bool (greatF r)) ∧ w' = w := by
  obtain rfl : r = 908 := by omega
  have HV := Lib.hid (show greatF 908 = true from by decide +kernel)
  clear h1 h2
  go_enter Try.func58, Try.ntmps58
  go_wp2
  go_ret
  exact ⟨by rw [HV.out]; rfl, rfl⟩
theorem great_909 (r : Int) (h1 : 909 ≤ r) (h2 : r ≤ 909) (w : World) : Calls Try.prog 58 #[.int .i32 r] w fun e w' => e = .returned (.bool (greatF r)) ∧ w' = w := by
  obtain rfl : r = 909 := by omega
  have HV := Lib.hid (show greatF 909 = false from by decide +kernel)
  clear h1 h2
  go_enter Try.func58, Try.ntmps58
  go_wp2
  go_ret
  exact ⟨by rw [HV.out]; rfl, rfl⟩
theorem great_910 (r : Int) (h1 : 910 ≤ r) (h2 : r ≤ 911) (w : World) : Calls Try.prog 58 #[.int .i32 r] w fun e w' => e = .returned (.bool (greatF r)) ∧ w' = w := by
  have d0 : decide (65 ≤ r) = true := by simp; omega
  have d1 : decide (r ≤ 90) = false := by simp; omega
  have d2 : decide (192 ≤ r) = true := by simp; omega
  have d3 : decide (r ≤ 222) = false := by simp; omega
  have d4 : decide (256 ≤ r) = true := by simp; omega
  have d5 : decide (r ≤ 311) = false := by simp; omega
  have d6 : decide (330 ≤ r) = true := by simp; omega
  have d7 : decide (r ≤ 375) = false := by simp; omega
  have d8 : decide (313 ≤ r) = true := by simp; omega
  have d9 : decide (r ≤ 328) = false := by simp; omega
  have d10 : decide (376 ≤ r) = true := by simp; omega
  have d11 : decide (r ≤ 381) = false := by simp; omega
  have d12 : decide (902 ≤ r) = true := by simp; omega
  have d13 : decide (r ≤ 911) = true := by simp; omega
  have d14 : decide (913 ≤ r) = false := by simp; omega
  have d15 : decide (r ≤ 939) = true := by simp; omega
  have d16 : decide (1024 ≤ r) = false := by simp; omega
  have d17 : decide (r ≤ 1071) = true := by simp; omega
  have e0 : (r == 376) = false := by simp; omega
  have n0 : (r != 376) = true := by simp; omega
  have m0 : ¬ r = 376 := by omega
  have e1 : (r == 903) = false := by simp; omega
  have n1 : (r != 903) = true := by simp; omega
  have m1 : ¬ r = 903 := by omega
  have e2 : (r == 907) = false := by simp; omega
  have n2 : (r != 907) = true := by simp; omega
  have m2 : ¬ r = 907 := by omega
  have e3 : (r == 909) = false := by simp; omega
  have n3 : (r != 909) = true := by simp; omega
  have m3 : ¬ r = 909 := by omega
  have HV := Lib.hid (show greatF r = true from by unfold greatF; simp only [d0, d1, d2, d3, d4, d5, d6, d7, d8, d9, d10, d11, d12, d13, d14, d15, d16, d17, e0, e1, e2, e3, Bool.and_true, Bool.and_false, Bool.or_false, Bool.false_or, Bool.not_false, if_true, if_false, Bool.false_eq_true])
  clear h1 h2
  go_enter Try.func58, Try.ntmps58
  go_wp2
  go_ret
  exact ⟨by rw [HV.out]; rfl, rfl⟩
theorem great_912 (r : Int) (h1 : 912 ≤ r) (h2 : r ≤ 912) (w : World) : Calls Try.prog 58 #[.int .i32 r] w fun e w' => e = .returned (.bool (greatF r)) ∧ w' = w := by
  obtain rfl : r = 912 := by omega
  have HV := Lib.hid (show greatF 912 = false from by decide +kernel)
  clear h1 h2
  go_enter Try.func58, Try.ntmps58
  go_wp2
  go_ret
  exact ⟨by rw [HV.out]; rfl, rfl⟩
theorem great_913 (r : Int) (h1 : 913 ≤ r) (h2 : r ≤ 939) (w : World) : Calls Try.prog 58 #[.int .i32 r] w fun e w' => e = .returned (.bool (greatF r)) ∧ w' = w := by
  have d0 : decide (65 ≤ r) = true := by simp; omega
  have d1 : decide (r ≤ 90) = false := by simp; omega
  have d2 : decide (192 ≤ r) = true := by simp; omega
  have d3 : decide (r ≤ 222) = false := by simp; omega
  have d4 : decide (256 ≤ r) = true := by simp; omega
  have d5 : decide (r ≤ 311) = false := by simp; omega
  have d6 : decide (330 ≤ r) = true := by simp; omega
  have d7 : decide (r ≤ 375) = false := by simp; omega
  have d8 : decide (313 ≤ r) = true := by simp; omega
  have d9 : decide (r ≤ 328) = false := by simp; omega
  have d10 : decide (376 ≤ r) = true := by simp; omega
  have d11 : decide (r ≤ 381) = false := by simp; omega
  have d12 : decide (902 ≤ r) = true := by simp; omega
  have d13 : decide (r ≤ 911) = false := by simp; omega
  have d14 : decide (913 ≤ r) = true := by simp; omega
  have d15 : decide (r ≤ 939) = true := by simp; omega
  have d16 : decide (1024 ≤ r) = false := by simp; omega
  have d17 : decide (r ≤ 1071) = true := by simp; omega
  have e0 : (r == 376) = false := by simp; omega
  have n0 : (r != 376) = true := by simp; omega
  have m0 : ¬ r = 376 := by omega
  have e1 : (r == 903) = false := by simp; omega
  have n1 : (r != 903) = true := by simp; omega
  have m1 : ¬ r = 903 := by omega
  have e2 : (r == 907) = false := by simp; omega
  have n2 : (r != 907) = true := by simp; omega
  have m2 : ¬ r = 907 := by omega
  have e3 : (r == 909) = false := by simp; omega
  have n3 : (r != 909) = true := by simp; omega
  have m3 : ¬ r = 909 := by omega
  have HV := Lib.hid (show greatF r = !(r == 930) from by unfold greatF; simp only [d0, d1, d2, d3, d4, d5, d6, d7, d8, d9, d10, d11, d12, d13, d14, d15, d16, d17, e0, e1, e2, e3, Bool.and_true, Bool.and_false, Bool.or_false, Bool.false_or, Bool.not_false, if_true, if_false, Bool.false_eq_true])
  clear h1 h2
  go_enter Try.func58, Try.ntmps58
  go_wp2
  go_ret
  exact ⟨by rw [HV.out]; rfl, rfl⟩
theorem great_940 (r : Int) (h1 : 940 ≤ r) (h2 : r ≤ 1023) (w : World) : Calls Try.prog 58 #[.int .i32 r] w fun e w' => e = .returned (.bool (greatF r)) ∧ w' = w := by
  have d0 : decide (65 ≤ r) = true := by simp; omega
  have d1 : decide (r ≤ 90) = false := by simp; omega
  have d2 : decide (192 ≤ r) = true := by simp; omega
  have d3 : decide (r ≤ 222) = false := by simp; omega
  have d4 : decide (256 ≤ r) = true := by simp; omega
  have d5 : decide (r ≤ 311) = false := by simp; omega
  have d6 : decide (330 ≤ r) = true := by simp; omega
  have d7 : decide (r ≤ 375) = false := by simp; omega
  have d8 : decide (313 ≤ r) = true := by simp; omega
  have d9 : decide (r ≤ 328) = false := by simp; omega
  have d10 : decide (376 ≤ r) = true := by simp; omega
  have d11 : decide (r ≤ 381) = false := by simp; omega
  have d12 : decide (902 ≤ r) = true := by simp; omega
  have d13 : decide (r ≤ 911) = false := by simp; omega
  have d14 : decide (913 ≤ r) = true := by simp; omega
  have d15 : decide (r ≤ 939) = false := by simp; omega
  have d16 : decide (1024 ≤ r) = false := by simp; omega
  have d17 : decide (r ≤ 1071) = true := by simp; omega
  have e0 : (r == 376) = false := by simp; omega
  have n0 : (r != 376) = true := by simp; omega
  have m0 : ¬ r = 376 := by omega
  have e1 : (r == 903) = false := by simp; omega
  have n1 : (r != 903) = true := by simp; omega
  have m1 : ¬ r = 903 := by omega
  have e2 : (r == 907) = false := by simp; omega
  have n2 : (r != 907) = true := by simp; omega
  have m2 : ¬ r = 907 := by omega
  have e3 : (r == 909) = false := by simp; omega
  have n3 : (r != 909) = true := by simp; omega
  have m3 : ¬ r = 909 := by omega
  have HV := Lib.hid (show greatF r = false from by unfold greatF; simp only [d0, d1, d2, d3, d4, d5, d6, d7, d8, d9, d10, d11, d12, d13, d14, d15, d16, d17, e0, e1, e2, e3, Bool.and_true, Bool.and_false, Bool.or_false, Bool.false_or, Bool.not_false, if_false, Bool.false_eq_true])
  clear h1 h2
  go_enter Try.func58, Try.ntmps58
  go_wp2
  go_ret
  exact ⟨by rw [HV.out]; rfl, rfl⟩
theorem great_1024 (r : Int) (h1 : 1024 ≤ r) (h2 : r ≤ 1071) (w : World) : Calls Try.prog 58 #[.int .i32 r] w fun e w' => e = .returned (.bool (greatF r)) ∧ w' = w := by
  have d0 : decide (65 ≤ r) = true := by simp; omega
  have d1 : decide (r ≤ 90) = false := by simp; omega
  have d2 : decide (192 ≤ r) = true := by simp; omega
  have d3 : decide (r ≤ 222) = false := by simp; omega
  have d4 : decide (256 ≤ r) = true := by simp; omega
  have d5 : decide (r ≤ 311) = false := by simp; omega
  have d6 : decide (330 ≤ r) = true := by simp; omega
  have d7 : decide (r ≤ 375) = false := by simp; omega
  have d8 : decide (313 ≤ r) = true := by simp; omega
  have d9 : decide (r ≤ 328) = false := by simp; omega
  have d10 : decide (376 ≤ r) = true := by simp; omega
  have d11 : decide (r ≤ 381) = false := by simp; omega
  have d12 : decide (902 ≤ r) = true := by simp; omega
  have d13 : decide (r ≤ 911) = false := by simp; omega
  have d14 : decide (913 ≤ r) = true := by simp; omega
  have d15 : decide (r ≤ 939) = false := by simp; omega
  have d16 : decide (1024 ≤ r) = true := by simp; omega
  have d17 : decide (r ≤ 1071) = true := by simp; omega
  have e0 : (r == 376) = false := by simp; omega
  have n0 : (r != 376) = true := by simp; omega
  have m0 : ¬ r = 376 := by omega
  have e1 : (r == 903) = false := by simp; omega
  have n1 : (r != 903) = true := by simp; omega
  have m1 : ¬ r = 903 := by omega
  have e2 : (r == 907) = false := by simp; omega
  have n2 : (r != 907) = true := by simp; omega
  have m2 : ¬ r = 907 := by omega
  have e3 : (r == 909) = false := by simp; omega
  have n3 : (r != 909) = true := by simp; omega
  have m3 : ¬ r = 909 := by omega
  have HV := Lib.hid (show greatF r = true from by unfold greatF; simp only [d0, d1, d2, d3, d4, d5, d6, d7, d8, d9, d10, d11, d12, d13, d14, d15, d16, d17, e0, e1, e2, e3, Bool.and_true, Bool.and_false, Bool.or_false, Bool.false_or, Bool.not_false, if_false, Bool.false_eq_true])
  clear h1 h2
  go_enter Try.func58, Try.ntmps58
  go_wp2
  go_ret
  exact ⟨by rw [HV.out]; rfl, rfl⟩
theorem great_1072 (r : Int) (h1 : 1072 ≤ r) (w : World) : Calls Try.prog 58 #[.int .i32 r] w fun e w' => e = .returned (.bool (greatF r)) ∧ w' = w := by
  have d0 : decide (65 ≤ r) = true := by simp; omega
  have d1 : decide (r ≤ 90) = false := by simp; omega
  have d2 : decide (192 ≤ r) = true := by simp; omega
  have d3 : decide (r ≤ 222) = false := by simp; omega
  have d4 : decide (256 ≤ r) = true := by simp; omega
  have d5 : decide (r ≤ 311) = false := by simp; omega
  have d6 : decide (330 ≤ r) = true := by simp; omega
  have d7 : decide (r ≤ 375) = false := by simp; omega
  have d8 : decide (313 ≤ r) = true := by simp; omega
  have d9 : decide (r ≤ 328) = false := by simp; omega
  have d10 : decide (376 ≤ r) = true := by simp; omega
  have d11 : decide (r ≤ 381) = false := by simp; omega
  have d12 : decide (902 ≤ r) = true := by simp; omega
  have d13 : decide (r ≤ 911) = false := by simp; omega
  have d14 : decide (913 ≤ r) = true := by simp; omega
  have d15 : decide (r ≤ 939) = false := by simp; omega
  have d16 : decide (1024 ≤ r) = true := by simp; omega
  have d17 : decide (r ≤ 1071) = false := by simp; omega
  have e0 : (r == 376) = false := by simp; omega
  have n0 : (r != 376) = true := by simp; omega
  have m0 : ¬ r = 376 := by omega
  have e1 : (r == 903) = false := by simp; omega
  have n1 : (r != 903) = true := by simp; omega
  have m1 : ¬ r = 903 := by omega
  have e2 : (r == 907) = false := by simp; omega
  have n2 : (r != 907) = true := by simp; omega
  have m2 : ¬ r = 907 := by omega
  have e3 : (r == 909) = false := by simp; omega
  have n3 : (r != 909) = true := by simp; omega
  have m3 : ¬ r = 909 := by omega
  have HV := Lib.hid (show greatF r = false from by unfold greatF; simp only [d0, d1, d2, d3, d4, d5, d6, d7, d8, d9, d10, d11, d12, d13, d14, d15, d16, d17, e0, e1, e2, e3, Bool.and_true, Bool.and_false, Bool.or_false, Bool.false_or, Bool.not_false, if_false, Bool.false_eq_true])
  clear h1
  go_enter Try.func58, Try.ntmps58
  go_wp2
  go_ret
  exact ⟨by rw [HV.out]; rfl, rfl⟩
theorem great_any (r : Int) (w : World) : Calls Try.prog 58 #[.int .i32 r] w fun e w' => e = .returned (.bool (greatF r)) ∧ w' = w := by
  rcases Int.lt_or_le r 382 with h | h
  · rcases Int.lt_or_le r 312 with h | h
    · rcases Int.lt_or_le r 192 with h | h
      · rcases Int.lt_or_le r 65 with h | h
        · exact great_lo r (by omega) w
        · rcases Int.lt_or_le r 91 with h | h
          · exact great_65 r (by omega) (by omega) w
          · exact great_91 r (by omega) (by omega) w
      · rcases Int.lt_or_le r 223 with h | h
        · exact great_192 r (by omega) (by omega) w
        · rcases Int.lt_or_le r 256 with h | h
          · exact great_223 r (by omega) (by omega) w
          · exact great_256 r (by omega) (by omega) w
    · rcases Int.lt_or_le r 330 with h | h
      · rcases Int.lt_or_le r 313 with h | h
        · exact great_312 r (by omega) (by omega) w
        · rcases Int.lt_or_le r 329 with h | h
          · exact great_313 r (by omega) (by omega) w
          · exact great_329 r (by omega) (by omega) w
      · rcases Int.lt_or_le r 376 with h | h
        · exact great_330 r (by omega) (by omega) w
        · rcases Int.lt_or_le r 377 with h | h
          · exact great_376 r (by omega) (by omega) w
          · exact great_377 r (by omega) (by omega) w
  · rcases Int.lt_or_le r 909 with h | h
    · rcases Int.lt_or_le r 904 with h | h
      · rcases Int.lt_or_le r 902 with h | h
        · exact great_382 r (by omega) (by omega) w
        · rcases Int.lt_or_le r 903 with h | h
          · exact great_902 r (by omega) (by omega) w
          · exact great_903 r (by omega) (by omega) w
      · rcases Int.lt_or_le r 907 with h | h
        · exact great_904 r (by omega) (by omega) w
        · rcases Int.lt_or_le r 908 with h | h
          · exact great_907 r (by omega) (by omega) w
          · exact great_908 r (by omega) (by omega) w
    · rcases Int.lt_or_le r 913 with h | h
      · rcases Int.lt_or_le r 910 with h | h
        · exact great_909 r (by omega) (by omega) w
        · rcases Int.lt_or_le r 912 with h | h
          · exact great_910 r (by omega) (by omega) w
          · exact great_912 r (by omega) (by omega) w
      · rcases Int.lt_or_le r 1024 with h | h
        · rcases Int.lt_or_le r 940 with h | h
          · exact great_913 r (by omega) (by omega) w
          · exact great_940 r (by omega) (by omega) w
        · rcases Int.lt_or_le r 1072 with h | h
          · exact great_1024 r (by omega) (by omega) w
          · exact great_1072 r (by omega) w
theorem small_lo (r : Int) (h2 : r ≤ 96) (w : World) : Calls Try.prog 62 #[.int .i32 r] w fun e w' => e = .returned (.bool (smallF r)) ∧ w' = w := by
  have d0 : decide (97 ≤ r) = false := by simp; omega
  have d1 : decide (r ≤ 122) = true := by simp; omega
  have d2 : decide (223 ≤ r) = false := by simp; omega
  have d3 : decide (r ≤ 255) = true := by simp; omega
  have d4 : decide (256 ≤ r) = false := by simp; omega
  have d5 : decide (r ≤ 311) = true := by simp; omega
  have d6 : decide (330 ≤ r) = false := by simp; omega
  have d7 : decide (r ≤ 375) = true := by simp; omega
  have d8 : decide (313 ≤ r) = false := by simp; omega
  have d9 : decide (r ≤ 328) = true := by simp; omega
  have d10 : decide (378 ≤ r) = false := by simp; omega
  have d11 : decide (r ≤ 382) = true := by simp; omega
  have d12 : decide (940 ≤ r) = false := by simp; omega
  have d13 : decide (r ≤ 974) = true := by simp; omega
  have d14 : decide (1072 ≤ r) = false := by simp; omega
  have d15 : decide (r ≤ 1119) = true := by simp; omega
  have e0 : (r == 312) = false := by simp; omega
  have e1 : (r == 329) = false := by simp; omega
  have e2 : (r == 383) = false := by simp; omega
  have e3 : (r == 912) = false := by simp; omega
  have HV := Lib.hid (show smallF r = false from by unfold smallF; simp only [d0, d1, d2, d3, d4, d5, d6, d7, d8, d9, d10, d11, d12, d13, d14, d15, e0, e1, e2, e3, Bool.and_true, Bool.or_false, if_false, Bool.false_eq_true])
  clear h2
  go_enter Try.func62, Try.ntmps62
  go_wp2
  go_ret
  exact ⟨by rw [HV.out]; rfl, rfl⟩
theorem small_97 (r : Int) (h1 : 97 ≤ r) (h2 : r ≤ 122) (w : World) : Calls Try.prog 62 #[.int .i32 r] w fun e w' => e = .returned (.bool (smallF r)) ∧ w' = w := by
  have d0 : decide (97 ≤ r) = true := by simp; omega
  have d1 : decide (r ≤ 122) = true := by simp; omega
  have d2 : decide (223 ≤ r) = false := by simp; omega
  have d3 : decide (r ≤ 255) = true := by simp; omega
  have d4 : decide (256 ≤ r) = false := by simp; omega
  have d5 : decide (r ≤ 311) = true := by simp; omega
  have d6 : decide (330 ≤ r) = false := by simp; omega
  have d7 : decide (r ≤ 375) = true := by simp; omega
  have d8 : decide (313 ≤ r) = false := by simp; omega
  have d9 : decide (r ≤ 328) = true := by simp; omega
  have d10 : decide (378 ≤ r) = false := by simp; omega
  have d11 : decide (r ≤ 382) = true := by simp; omega
  have d12 : decide (940 ≤ r) = false := by simp; omega
  have d13 : decide (r ≤ 974) = true := by simp; omega
  have d14 : decide (1072 ≤ r) = false := by simp; omega
  have d15 : decide (r ≤ 1119) = true := by simp; omega
  have e0 : (r == 312) = false := by simp; omega
  have e1 : (r == 329) = false := by simp; omega
  have e2 : (r == 383) = false := by simp; omega
  have e3 : (r == 912) = false := by simp; omega
  have HV := Lib.hid (show smallF r = !(r == 247) from by unfold smallF; simp only [d0, d1, d2, d3, d4, d5, d6, d7, d8, d9, d10, d11, d12, d13, d14, d15, e0, e1, e2, e3, Bool.and_true, Bool.or_false, if_true, if_false, Bool.false_eq_true])
  clear h1 h2
  go_enter Try.func62, Try.ntmps62
  go_wp2
  go_ret
  exact ⟨by rw [HV.out]; rfl, rfl⟩
theorem small_123 (r : Int) (h1 : 123 ≤ r) (h2 : r ≤ 222) (w : World) : Calls Try.prog 62 #[.int .i32 r] w fun e w' => e = .returned (.bool (smallF r)) ∧ w' = w := by
  have d0 : decide (97 ≤ r) = true := by simp; omega
  have d1 : decide (r ≤ 122) = false := by simp; omega
  have d2 : decide (223 ≤ r) = false := by simp; omega
  have d3 : decide (r ≤ 255) = true := by simp; omega
  have d4 : decide (256 ≤ r) = false := by simp; omega
  have d5 : decide (r ≤ 311) = true := by simp; omega
  have d6 : decide (330 ≤ r) = false := by simp; omega
  have d7 : decide (r ≤ 375) = true := by simp; omega
  have d8 : decide (313 ≤ r) = false := by simp; omega
  have d9 : decide (r ≤ 328) = true := by simp; omega
  have d10 : decide (378 ≤ r) = false := by simp; omega
  have d11 : decide (r ≤ 382) = true := by simp; omega
  have d12 : decide (940 ≤ r) = false := by simp; omega
  have d13 : decide (r ≤ 974) = true := by simp; omega
  have d14 : decide (1072 ≤ r) = false := by simp; omega
  have d15 : decide (r ≤ 1119) = true := by simp; omega
  have e0 : (r == 312) = false := by simp; omega
  have e1 : (r == 329) = false := by simp; omega
  have e2 : (r == 383) = false := by simp; omega
  have e3 : (r == 912) = false := by simp; omega
  have HV := Lib.hid (show smallF r = false from by unfold smallF; simp only [d0, d1, d2, d3, d4, d5, d6, d7, d8, d9, d10, d11, d12, d13, d14, d15, e0, e1, e2, e3, Bool.and_true, Bool.and_false, Bool.or_false, if_false, Bool.false_eq_true])
  clear h1 h2
  go_enter Try.func62, Try.ntmps62
  go_wp2
  go_ret
  exact ⟨by rw [HV.out]; rfl, rfl⟩
theorem small_223 (r : Int) (h1 : 223 ≤ r) (h2 : r ≤ 255) (w : World) : Calls Try.prog 62 #[.int .i32 r] w fun e w' => e = .returned (.bool (smallF r)) ∧ w' = w := by
  have d0 : decide (97 ≤ r) = true := by simp; omega
  have d1 : decide (r ≤ 122) = false := by simp; omega
  have d2 : decide (223 ≤ r) = true := by simp; omega
  have d3 : decide (r ≤ 255) = true := by simp; omega
  have d4 : decide (256 ≤ r) = false := by simp; omega
  have d5 : decide (r ≤ 311) = true := by simp; omega
  have d6 : decide (330 ≤ r) = false := by simp; omega
  have d7 : decide (r ≤ 375) = true := by simp; omega
  have d8 : decide (313 ≤ r) = false := by simp; omega
  have d9 : decide (r ≤ 328) = true := by simp; omega
  have d10 : decide (378 ≤ r) = false := by simp; omega
  have d11 : decide (r ≤ 382) = true := by simp; omega
  have d12 : decide (940 ≤ r) = false := by simp; omega
  have d13 : decide (r ≤ 974) = true := by simp; omega
  have d14 : decide (1072 ≤ r) = false := by simp; omega
  have d15 : decide (r ≤ 1119) = true := by simp; omega
  have e0 : (r == 312) = false := by simp; omega
  have e1 : (r == 329) = false := by simp; omega
  have e2 : (r == 383) = false := by simp; omega
  have e3 : (r == 912) = false := by simp; omega
  have HV := Lib.hid (show smallF r = !(r == 247) from by unfold smallF; simp only [d0, d1, d2, d3, d4, d5, d6, d7, d8, d9, d10, d11, d12, d13, d14, d15, e0, e1, e2, e3, Bool.and_true, Bool.and_false, Bool.or_true, Bool.or_false, if_true, if_false, Bool.false_eq_true])
  clear h1 h2
  go_enter Try.func62, Try.ntmps62
  go_wp2
  go_ret
  exact ⟨by rw [HV.out]; rfl, rfl⟩
theorem small_256 (r : Int) (h1 : 256 ≤ r) (h2 : r ≤ 311) (w : World) : Calls Try.prog 62 #[.int .i32 r] w fun e w' => e = .returned (.bool (smallF r)) ∧ w' = w := by
  have d0 : decide (97 ≤ r) = true := by simp; omega
  have d1 : decide (r ≤ 122) = false := by simp; omega
  have d2 : decide (223 ≤ r) = true := by simp; omega
  have d3 : decide (r ≤ 255) = false := by simp; omega
  have d4 : decide (256 ≤ r) = true := by simp; omega
  have d5 : decide (r ≤ 311) = true := by simp; omega
  have d6 : decide (330 ≤ r) = false := by simp; omega
  have d7 : decide (r ≤ 375) = true := by simp; omega
  have d8 : decide (313 ≤ r) = false := by simp; omega
  have d9 : decide (r ≤ 328) = true := by simp; omega
  have d10 : decide (378 ≤ r) = false := by simp; omega
  have d11 : decide (r ≤ 382) = true := by simp; omega
  have d12 : decide (940 ≤ r) = false := by simp; omega
  have d13 : decide (r ≤ 974) = true := by simp; omega
  have d14 : decide (1072 ≤ r) = false := by simp; omega
  have d15 : decide (r ≤ 1119) = true := by simp; omega
  have e0 : (r == 312) = false := by simp; omega
  have e1 : (r == 329) = false := by simp; omega
  have e2 : (r == 383) = false := by simp; omega
  have e3 : (r == 912) = false := by simp; omega
  have HV := Lib.hid (show smallF r = !(evenF r) from by unfold smallF; simp only [d0, d1, d2, d3, d4, d5, d6, d7, d8, d9, d10, d11, d12, d13, d14, d15, e0, e1, e2, e3, Bool.and_true, Bool.and_false, Bool.or_false, if_true, if_false, Bool.false_eq_true])
  clear h1 h2
  go_enter Try.func62, Try.ntmps62
  go_wp2_with fail
  refine (even_any r _).mono ?_
  rintro e w' ⟨rfl, ew⟩
  subst ew
  go_wp2
  go_ret
  exact ⟨by rw [HV.out]; rfl, rfl⟩
theorem small_312 (r : Int) (h1 : 312 ≤ r) (h2 : r ≤ 312) (w : World) : Calls Try.prog 62 #[.int .i32 r] w fun e w' => e = .returned (.bool (smallF r)) ∧ w' = w := by
  obtain rfl : r = 312 := by omega
  have HV := Lib.hid (show smallF 312 = true from by decide +kernel)
  clear h1 h2
  go_enter Try.func62, Try.ntmps62
  go_wp2
  go_ret
  exact ⟨by rw [HV.out]; rfl, rfl⟩
theorem small_313 (r : Int) (h1 : 313 ≤ r) (h2 : r ≤ 328) (w : World) : Calls Try.prog 62 #[.int .i32 r] w fun e w' => e = .returned (.bool (smallF r)) ∧ w' = w := by
  have d0 : decide (97 ≤ r) = true := by simp; omega
  have d1 : decide (r ≤ 122) = false := by simp; omega
  have d2 : decide (223 ≤ r) = true := by simp; omega
  have d3 : decide (r ≤ 255) = false := by simp; omega
  have d4 : decide (256 ≤ r) = true := by simp; omega
  have d5 : decide (r ≤ 311) = false := by simp; omega
  have d6 : decide (330 ≤ r) = false := by simp; omega
  have d7 : decide (r ≤ 375) = true := by simp; omega
  have d8 : decide (313 ≤ r) = true := by simp; omega
  have d9 : decide (r ≤ 328) = true := by simp; omega
  have d10 : decide (378 ≤ r) = false := by simp; omega
  have d11 : decide (r ≤ 382) = true := by simp; omega
  have d12 : decide (940 ≤ r) = false := by simp; omega
  have d13 : decide (r ≤ 974) = true := by simp; omega
  have d14 : decide (1072 ≤ r) = false := by simp; omega
  have d15 : decide (r ≤ 1119) = true := by simp; omega
  have e0 : (r == 312) = false := by simp; omega
  have e1 : (r == 329) = false := by simp; omega
  have e2 : (r == 383) = false := by simp; omega
  have e3 : (r == 912) = false := by simp; omega
  have HV := Lib.hid (show smallF r = evenF r from by unfold smallF; simp only [d0, d1, d2, d3, d4, d5, d6, d7, d8, d9, d10, d11, d12, d13, d14, d15, e0, e1, e2, e3, Bool.and_true, Bool.and_false, Bool.or_false, if_true, if_false, Bool.false_eq_true])
  clear h1 h2
  go_enter Try.func62, Try.ntmps62
  go_wp2_with fail
  refine (even_any r _).mono ?_
  rintro e w' ⟨rfl, ew⟩
  subst ew
  go_wp2
  go_ret
  exact ⟨by rw [HV.out]; rfl, rfl⟩
theorem small_329 (r : Int) (h1 : 329 ≤ r) (h2 : r ≤ 329) (w : World) : Calls Try.prog 62 #[.int .i32 r] w fun e w' => e = .returned (.bool (smallF r)) ∧ w' = w := by
  obtain rfl : r = 329 := by omega
  have HV := Lib.hid (show smallF 329 = true from by decide +kernel)
  clear h1 h2
  go_enter Try.func62, Try.ntmps62
  go_wp2
  go_ret
  exact ⟨by rw [HV.out]; rfl, rfl⟩
theorem small_330 (r : Int) (h1 : 330 ≤ r) (h2 : r ≤ 375) (w : World) : Calls Try.prog 62 #[.int .i32 r] w fun e w' => e = .returned (.bool (smallF r)) ∧ w' = w := by
  have d0 : decide (97 ≤ r) = true := by simp; omega
  have d1 : decide (r ≤ 122) = false := by simp; omega
  have d2 : decide (223 ≤ r) = true := by simp; omega
  have d3 : decide (r ≤ 255) = false := by simp; omega
  have d4 : decide (256 ≤ r) = true := by simp; omega
  have d5 : decide (r ≤ 311) = false := by simp; omega
  have d6 : decide (330 ≤ r) = true := by simp; omega
  have d7 : decide (r ≤ 375) = true := by simp; omega
  have d8 : decide (313 ≤ r) = true := by simp; omega
  have d9 : decide (r ≤ 328) = false := by simp; omega
  have d10 : decide (378 ≤ r) = false := by simp; omega
  have d11 : decide (r ≤ 382) = true := by simp; omega
  have d12 : decide (940 ≤ r) = false := by simp; omega
  have d13 : decide (r ≤ 974) = true := by simp; omega
  have d14 : decide (1072 ≤ r) = false := by simp; omega
  have d15 : decide (r ≤ 1119) = true := by simp; omega
  have e0 : (r == 312) = false := by simp; omega
  have e1 : (r == 329) = false := by simp; omega
  have e2 : (r == 383) = false := by simp; omega
  have e3 : (r == 912) = false := by simp; omega
  have HV := Lib.hid (show smallF r = !(evenF r) from by unfold smallF; simp only [d0, d1, d2, d3, d4, d5, d6, d7, d8, d9, d10, d11, d12, d13, d14, d15, e0, e1, e2, e3, Bool.and_true, Bool.and_false, Bool.or_true, Bool.or_false, if_true, if_false, Bool.false_eq_true])
  clear h1 h2
  go_enter Try.func62, Try.ntmps62
  go_wp2_with fail
  refine (even_any r _).mono ?_
  rintro e w' ⟨rfl, ew⟩
  subst ew
  go_wp2
  go_ret
  exact ⟨by rw [HV.out]; rfl, rfl⟩
theorem small_376 (r : Int) (h1 : 376 ≤ r) (h2 : r ≤ 377) (w : World) : Calls Try.prog 62 #[.int .i32 r] w fun e w' => e = .returned (.bool (smallF r)) ∧ w' = w := by
  have d0 : decide (97 ≤ r) = true := by simp; omega
  have d1 : decide (r ≤ 122) = false := by simp; omega
  have d2 : decide (223 ≤ r) = true := by simp; omega
  have d3 : decide (r ≤ 255) = false := by simp; omega
  have d4 : decide (256 ≤ r) = true := by simp; omega
  have d5 : decide (r ≤ 311) = false := by simp; omega
  have d6 : decide (330 ≤ r) = true := by simp; omega
  have d7 : decide (r ≤ 375) = false := by simp; omega
  have d8 : decide (313 ≤ r) = true := by simp; omega
  have d9 : decide (r ≤ 328) = false := by simp; omega
  have d10 : decide (378 ≤ r) = false := by simp; omega
  have d11 : decide (r ≤ 382) = true := by simp; omega
  have d12 : decide (940 ≤ r) = false := by simp; omega
  have d13 : decide (r ≤ 974) = true := by simp; omega
  have d14 : decide (1072 ≤ r) = false := by simp; omega
  have d15 : decide (r ≤ 1119) = true := by simp; omega
  have e0 : (r == 312) = false := by simp; omega
  have e1 : (r == 329) = false := by simp; omega
  have e2 : (r == 383) = false := by simp; omega
  have e3 : (r == 912) = false := by simp; omega
  have HV := Lib.hid (show smallF r = false from by unfold smallF; simp only [d0, d1, d2, d3, d4, d5, d6, d7, d8, d9, d10, d11, d12, d13, d14, d15, e0, e1, e2, e3, Bool.and_true, Bool.and_false, Bool.or_false, if_false, Bool.false_eq_true])
  clear h1 h2
  go_enter Try.func62, Try.ntmps62
  go_wp2
  go_ret
  exact ⟨by rw [HV.out]; rfl, rfl⟩
theorem small_378 (r : Int) (h1 : 378 ≤ r) (h2 : r ≤ 382) (w : World) : Calls Try.prog 62 #[.int .i32 r] w fun e w' => e = .returned (.bool (smallF r)) ∧ w' = w := by
  have d0 : decide (97 ≤ r) = true := by simp; omega
  have d1 : decide (r ≤ 122) = false := by simp; omega
  have d2 : decide (223 ≤ r) = true := by simp; omega
  have d3 : decide (r ≤ 255) = false := by simp; omega
  have d4 : decide (256 ≤ r) = true := by simp; omega
  have d5 : decide (r ≤ 311) = false := by simp; omega
  have d6 : decide (330 ≤ r) = true := by simp; omega
  have d7 : decide (r ≤ 375) = false := by simp; omega
  have d8 : decide (313 ≤ r) = true := by simp; omega
  have d9 : decide (r ≤ 328) = false := by simp; omega
  have d10 : decide (378 ≤ r) = true := by simp; omega
  have d11 : decide (r ≤ 382) = true := by simp; omega
  have d12 : decide (940 ≤ r) = false := by simp; omega
  have d13 : decide (r ≤ 974) = true := by simp; omega
  have d14 : decide (1072 ≤ r) = false := by simp; omega
  have d15 : decide (r ≤ 1119) = true := by simp; omega
  have e0 : (r == 312) = false := by simp; omega
  have e1 : (r == 329) = false := by simp; omega
  have e2 : (r == 383) = false := by simp; omega
  have e3 : (r == 912) = false := by simp; omega
  have HV := Lib.hid (show smallF r = evenF r from by unfold smallF; simp only [d0, d1, d2, d3, d4, d5, d6, d7, d8, d9, d10, d11, d12, d13, d14, d15, e0, e1, e2, e3, Bool.and_true, Bool.and_false, Bool.or_true, Bool.or_false, if_true, if_false, Bool.false_eq_true])
  clear h1 h2
  go_enter Try.func62, Try.ntmps62
  go_wp2_with fail
  refine (even_any r _).mono ?_
  rintro e w' ⟨rfl, ew⟩
  subst ew
  go_wp2
  go_ret
  exact ⟨by rw [HV.out]; rfl, rfl⟩
theorem small_383 (r : Int) (h1 : 383 ≤ r) (h2 : r ≤ 383) (w : World) : Calls Try.prog 62 #[.int .i32 r] w fun e w' => e = .returned (.bool (smallF r)) ∧ w' = w := by
  obtain rfl : r = 383 := by omega
  have HV := Lib.hid (show smallF 383 = true from by decide +kernel)
  clear h1 h2
  go_enter Try.func62, Try.ntmps62
  go_wp2
  go_ret
  exact ⟨by rw [HV.out]; rfl, rfl⟩
theorem small_384 (r : Int) (h1 : 384 ≤ r) (h2 : r ≤ 911) (w : World) : Calls Try.prog 62 #[.int .i32 r] w fun e w' => e = .returned (.bool (smallF r)) ∧ w' = w := by
  have d0 : decide (97 ≤ r) = true := by simp; omega
  have d1 : decide (r ≤ 122) = false := by simp; omega
  have d2 : decide (223 ≤ r) = true := by simp; omega
  have d3 : decide (r ≤ 255) = false := by simp; omega
  have d4 : decide (256 ≤ r) = true := by simp; omega
  have d5 : decide (r ≤ 311) = false := by simp; omega
  have d6 : decide (330 ≤ r) = true := by simp; omega
  have d7 : decide (r ≤ 375) = false := by simp; omega
  have d8 : decide (313 ≤ r) = true := by simp; omega
  have d9 : decide (r ≤ 328) = false := by simp; omega
  have d10 : decide (378 ≤ r) = true := by simp; omega
  have d11 : decide (r ≤ 382) = false := by simp; omega
  have d12 : decide (940 ≤ r) = false := by simp; omega
  have d13 : decide (r ≤ 974) = true := by simp; omega
  have d14 : decide (1072 ≤ r) = false := by simp; omega
  have d15 : decide (r ≤ 1119) = true := by simp; omega
  have e0 : (r == 312) = false := by simp; omega
  have e1 : (r == 329) = false := by simp; omega
  have e2 : (r == 383) = false := by simp; omega
  have e3 : (r == 912) = false := by simp; omega
  have HV := Lib.hid (show smallF r = false from by unfold smallF; simp only [d0, d1, d2, d3, d4, d5, d6, d7, d8, d9, d10, d11, d12, d13, d14, d15, e0, e1, e2, e3, Bool.and_true, Bool.and_false, Bool.or_false, if_false, Bool.false_eq_true])
  clear h1 h2
  go_enter Try.func62, Try.ntmps62
  go_wp2
  go_ret
  exact ⟨by rw [HV.out]; rfl, rfl⟩
theorem small_912 (r : Int) (h1 : 912 ≤ r) (h2 : r ≤ 912) (w : World) : Calls Try.prog 62 #[.int .i32 r] w fun e w' => e = .returned (.bool (smallF r)) ∧ w' = w := by
  obtain rfl : r = 912 := by omega
  have HV := Lib.hid (show smallF 912 = true from by decide +kernel)
  clear h1 h2
  go_enter Try.func62, Try.ntmps62
  go_wp2
  go_ret
  exact ⟨by rw [HV.out]; rfl, rfl⟩
theorem small_913 (r : Int) (h1 : 913 ≤ r) (h2 : r ≤ 939) (w : World) : Calls Try.prog 62 #[.int .i32 r] w fun e w' => e = .returned (.bool (smallF r)) ∧ w' = w := by
  have d0 : decide (97 ≤ r) = true := by simp; omega
  have d1 : decide (r ≤ 122) = false := by simp; omega
  have d2 : decide (223 ≤ r) = true := by simp; omega
  have d3 : decide (r ≤ 255) = false := by simp; omega
  have d4 : decide (256 ≤ r) = true := by simp; omega
  have d5 : decide (r ≤ 311) = false := by simp; omega
  have d6 : decide (330 ≤ r) = true := by simp; omega
  have d7 : decide (r ≤ 375) = false := by simp; omega
  have d8 : decide (313 ≤ r) = true := by simp; omega
  have d9 : decide (r ≤ 328) = false := by simp; omega
  have d10 : decide (378 ≤ r) = true := by simp; omega
  have d11 : decide (r ≤ 382) = false := by simp; omega
  have d12 : decide (940 ≤ r) = false := by simp; omega
  have d13 : decide (r ≤ 974) = true := by simp; omega
  have d14 : decide (1072 ≤ r) = false := by simp; omega
  have d15 : decide (r ≤ 1119) = true := by simp; omega
  have e0 : (r == 312) = false := by simp; omega
  have e1 : (r == 329) = false := by simp; omega
  have e2 : (r == 383) = false := by simp; omega
  have e3 : (r == 912) = false := by simp; omega
  have HV := Lib.hid (show smallF r = false from by unfold smallF; simp only [d0, d1, d2, d3, d4, d5, d6, d7, d8, d9, d10, d11, d12, d13, d14, d15, e0, e1, e2, e3, Bool.and_true, Bool.and_false, Bool.or_false, if_false, Bool.false_eq_true])
  clear h1 h2
  go_enter Try.func62, Try.ntmps62
  go_wp2
  go_ret
  exact ⟨by rw [HV.out]; rfl, rfl⟩
theorem small_940 (r : Int) (h1 : 940 ≤ r) (h2 : r ≤ 974) (w : World) : Calls Try.prog 62 #[.int .i32 r] w fun e w' => e = .returned (.bool (smallF r)) ∧ w' = w := by
  have d0 : decide (97 ≤ r) = true := by simp; omega
  have d1 : decide (r ≤ 122) = false := by simp; omega
  have d2 : decide (223 ≤ r) = true := by simp; omega
  have d3 : decide (r ≤ 255) = false := by simp; omega
  have d4 : decide (256 ≤ r) = true := by simp; omega
  have d5 : decide (r ≤ 311) = false := by simp; omega
  have d6 : decide (330 ≤ r) = true := by simp; omega
  have d7 : decide (r ≤ 375) = false := by simp; omega
  have d8 : decide (313 ≤ r) = true := by simp; omega
  have d9 : decide (r ≤ 328) = false := by simp; omega
  have d10 : decide (378 ≤ r) = true := by simp; omega
  have d11 : decide (r ≤ 382) = false := by simp; omega
  have d12 : decide (940 ≤ r) = true := by simp; omega
  have d13 : decide (r ≤ 974) = true := by simp; omega
  have d14 : decide (1072 ≤ r) = false := by simp; omega
  have d15 : decide (r ≤ 1119) = true := by simp; omega
  have e0 : (r == 312) = false := by simp; omega
  have e1 : (r == 329) = false := by simp; omega
  have e2 : (r == 383) = false := by simp; omega
  have e3 : (r == 912) = false := by simp; omega
  have HV := Lib.hid (show smallF r = true from by unfold smallF; simp only [d0, d1, d2, d3, d4, d5, d6, d7, d8, d9, d10, d11, d12, d13, d14, d15, e0, e1, e2, e3, Bool.and_true, Bool.and_false, Bool.or_false, if_true, if_false, Bool.false_eq_true])
  clear h1 h2
  go_enter Try.func62, Try.ntmps62
  go_wp2
  go_ret
  exact ⟨by rw [HV.out]; rfl, rfl⟩
theorem small_975 (r : Int) (h1 : 975 ≤ r) (h2 : r ≤ 1071) (w : World) : Calls Try.prog 62 #[.int .i32 r] w fun e w' => e = .returned (.bool (smallF r)) ∧ w' = w := by
  have d0 : decide (97 ≤ r) = true := by simp; omega
  have d1 : decide (r ≤ 122) = false := by simp; omega
  have d2 : decide (223 ≤ r) = true := by simp; omega
  have d3 : decide (r ≤ 255) = false := by simp; omega
  have d4 : decide (256 ≤ r) = true := by simp; omega
  have d5 : decide (r ≤ 311) = false := by simp; omega
  have d6 : decide (330 ≤ r) = true := by simp; omega
  have d7 : decide (r ≤ 375) = false := by simp; omega
  have d8 : decide (313 ≤ r) = true := by simp; omega
  have d9 : decide (r ≤ 328) = false := by simp; omega
  have d10 : decide (378 ≤ r) = true := by simp; omega
  have d11 : decide (r ≤ 382) = false := by simp; omega
  have d12 : decide (940 ≤ r) = true := by simp; omega
  have d13 : decide (r ≤ 974) = false := by simp; omega
  have d14 : decide (1072 ≤ r) = false := by simp; omega
  have d15 : decide (r ≤ 1119) = true := by simp; omega
  have e0 : (r == 312) = false := by simp; omega
  have e1 : (r == 329) = false := by simp; omega
  have e2 : (r == 383) = false := by simp; omega
  have e3 : (r == 912) = false := by simp; omega
  have HV := Lib.hid (show smallF r = false from by unfold smallF; simp only [d0, d1, d2, d3, d4, d5, d6, d7, d8, d9, d10, d11, d12, d13, d14, d15, e0, e1, e2, e3, Bool.and_true, Bool.and_false, Bool.or_false, if_false, Bool.false_eq_true])
  clear h1 h2
  go_enter Try.func62, Try.ntmps62
  go_wp2
  go_ret
  exact ⟨by rw [HV.out]; rfl, rfl⟩
theorem small_1072 (r : Int) (h1 : 1072 ≤ r) (h2 : r ≤ 1119) (w : World) : Calls Try.prog 62 #[.int .i32 r] w fun e w' => e = .returned (.bool (smallF r)) ∧ w' = w := by
  have d0 : decide (97 ≤ r) = true := by simp; omega
  have d1 : decide (r ≤ 122) = false := by simp; omega
  have d2 : decide (223 ≤ r) = true := by simp; omega
  have d3 : decide (r ≤ 255) = false := by simp; omega
  have d4 : decide (256 ≤ r) = true := by simp; omega
  have d5 : decide (r ≤ 311) = false := by simp; omega
  have d6 : decide (330 ≤ r) = true := by simp; omega
  have d7 : decide (r ≤ 375) = false := by simp; omega
  have d8 : decide (313 ≤ r) = true := by simp; omega
  have d9 : decide (r ≤ 328) = false := by simp; omega
  have d10 : decide (378 ≤ r) = true := by simp; omega
  have d11 : decide (r ≤ 382) = false := by simp; omega
  have d12 : decide (940 ≤ r) = true := by simp; omega
  have d13 : decide (r ≤ 974) = false := by simp; omega
  have d14 : decide (1072 ≤ r) = true := by simp; omega
  have d15 : decide (r ≤ 1119) = true := by simp; omega
  have e0 : (r == 312) = false := by simp; omega
  have e1 : (r == 329) = false := by simp; omega
  have e2 : (r == 383) = false := by simp; omega
  have e3 : (r == 912) = false := by simp; omega
  have HV := Lib.hid (show smallF r = true from by unfold smallF; simp only [d0, d1, d2, d3, d4, d5, d6, d7, d8, d9, d10, d11, d12, d13, d14, d15, e0, e1, e2, e3, Bool.and_true, Bool.and_false, Bool.or_false, if_false, Bool.false_eq_true])
  clear h1 h2
  go_enter Try.func62, Try.ntmps62
  go_wp2
  go_ret
  exact ⟨by rw [HV.out]; rfl, rfl⟩
theorem small_1120 (r : Int) (h1 : 1120 ≤ r) (w : World) : Calls Try.prog 62 #[.int .i32 r] w fun e w' => e = .returned (.bool (smallF r)) ∧ w' = w := by
  have d0 : decide (97 ≤ r) = true := by simp; omega
  have d1 : decide (r ≤ 122) = false := by simp; omega
  have d2 : decide (223 ≤ r) = true := by simp; omega
  have d3 : decide (r ≤ 255) = false := by simp; omega
  have d4 : decide (256 ≤ r) = true := by simp; omega
  have d5 : decide (r ≤ 311) = false := by simp; omega
  have d6 : decide (330 ≤ r) = true := by simp; omega
  have d7 : decide (r ≤ 375) = false := by simp; omega
  have d8 : decide (313 ≤ r) = true := by simp; omega
  have d9 : decide (r ≤ 328) = false := by simp; omega
  have d10 : decide (378 ≤ r) = true := by simp; omega
  have d11 : decide (r ≤ 382) = false := by simp; omega
  have d12 : decide (940 ≤ r) = true := by simp; omega
  have d13 : decide (r ≤ 974) = false := by simp; omega
  have d14 : decide (1072 ≤ r) = true := by simp; omega
  have d15 : decide (r ≤ 1119) = false := by simp; omega
  have e0 : (r == 312) = false := by simp; omega
  have e1 : (r == 329) = false := by simp; omega
  have e2 : (r == 383) = false := by simp; omega
  have e3 : (r == 912) = false := by simp; omega
  have HV := Lib.hid (show smallF r = false from by unfold smallF; simp only [d0, d1, d2, d3, d4, d5, d6, d7, d8, d9, d10, d11, d12, d13, d14, d15, e0, e1, e2, e3, Bool.and_false, Bool.or_false, if_false, Bool.false_eq_true])
  clear h1
  go_enter Try.func62, Try.ntmps62
  go_wp2
  go_ret
  exact ⟨by rw [HV.out]; rfl, rfl⟩
theorem small_any (r : Int) (w : World) : Calls Try.prog 62 #[.int .i32 r] w fun e w' => e = .returned (.bool (smallF r)) ∧ w' = w := by
  rcases Int.lt_or_le r 376 with h | h
  · rcases Int.lt_or_le r 256 with h | h
    · rcases Int.lt_or_le r 123 with h | h
      · rcases Int.lt_or_le r 97 with h | h
        · exact small_lo r (by omega) w
        · exact small_97 r (by omega) (by omega) w
      · rcases Int.lt_or_le r 223 with h | h
        · exact small_123 r (by omega) (by omega) w
        · exact small_223 r (by omega) (by omega) w
    · rcases Int.lt_or_le r 313 with h | h
      · rcases Int.lt_or_le r 312 with h | h
        · exact small_256 r (by omega) (by omega) w
        · exact small_312 r (by omega) (by omega) w
      · rcases Int.lt_or_le r 329 with h | h
        · exact small_313 r (by omega) (by omega) w
        · rcases Int.lt_or_le r 330 with h | h
          · exact small_329 r (by omega) (by omega) w
          · exact small_330 r (by omega) (by omega) w
  · rcases Int.lt_or_le r 913 with h | h
    · rcases Int.lt_or_le r 383 with h | h
      · rcases Int.lt_or_le r 378 with h | h
        · exact small_376 r (by omega) (by omega) w
        · exact small_378 r (by omega) (by omega) w
      · rcases Int.lt_or_le r 384 with h | h
        · exact small_383 r (by omega) (by omega) w
        · rcases Int.lt_or_le r 912 with h | h
          · exact small_384 r (by omega) (by omega) w
          · exact small_912 r (by omega) (by omega) w
    · rcases Int.lt_or_le r 975 with h | h
      · rcases Int.lt_or_le r 940 with h | h
        · exact small_913 r (by omega) (by omega) w
        · exact small_940 r (by omega) (by omega) w
      · rcases Int.lt_or_le r 1072 with h | h
        · exact small_975 r (by omega) (by omega) w
        · rcases Int.lt_or_le r 1120 with h | h
          · exact small_1072 r (by omega) (by omega) w
          · exact small_1120 r (by omega) w
theorem mark_any (r : Int) (w : World) : Calls Try.prog 56 #[.int .i32 r] w fun e w' => e = .returned (.bool (markF r)) ∧ w' = w := by
  have HV := Lib.hid (show markF r = (decide (768 ≤ r) && decide (r ≤ 879)) from rfl)
  cases d : decide (768 ≤ r) with
  | false =>
    have hn : ¬ 768 ≤ r := by simpa using d
    rw [d] at HV
    go_enter Try.func56, Try.ntmps56
    go_wp2
    go_ret
    exact ⟨by rw [HV.out]; rfl, rfl⟩
  | true =>
    have hn : 768 ≤ r := by simpa using d
    rw [d] at HV
    go_enter Try.func56, Try.ntmps56
    go_wp2
    go_ret
    exact ⟨by rw [HV.out]; rfl, rfl⟩
theorem letter_any (r : Int) (w : World) : Calls Try.prog 55 #[.int .i32 r] w fun e w' => e = .returned (.bool (letterF r)) ∧ w' = w := by
  have HV := Lib.hid (show letterF r = (greatF r || smallF r) from rfl)
  go_enter Try.func55, Try.ntmps55
  go_wp2_with fail
  refine (great_any r _).mono ?_
  rintro e w' ⟨rfl, ew⟩
  subst ew
  cases hg : greatF r with
  | true =>
    rw [hg] at HV
    go_wp2
    go_ret
    exact ⟨by rw [HV.out]; rfl, rfl⟩
  | false =>
    rw [hg] at HV
    go_wp2_with fail
    refine (small_any r _).mono ?_
    rintro e w' ⟨rfl, ew⟩
    subst ew
    go_wp2
    go_ret
    exact ⟨by rw [HV.out]; rfl, rfl⟩
theorem letter_no (r : Int) (h : letterF r = false) (w : World) : Calls Try.prog 55 #[.int .i32 r] w fun e w' => e = .returned (.bool false) ∧ w' = w := by
  rw [← h]
  exact letter_any r w
theorem mark_is (r : Int) (b : Bool) (h : markF r = b) (w : World) : Calls Try.prog 56 #[.int .i32 r] w fun e w' => e = .returned (.bool b) ∧ w' = w := by
  rw [← h]
  exact mark_any r w
end
end Go.Proofs.Ytialpfmaekagjaa
