/- The reference's Wrong; phone.Within. -/
import Derived.Test.YtogofchpocoebaaS2
import Derived.Test.YtogofchpocoebaaQ12
namespace Go.Proofs.Ytogofchpocoebaa
open Go.RowKit Go.Maps

theorem wrong_any (A B : Option Addr) (la ca lb cb L1 B1 L2 B2 : Nat) (a b : List Ph) (w : World) (ra : Rd w L1 B1 3 A la (phs a)) (rb : Rd w L2 B2 3 B lb (phs b)) (z1 : B1 ≤ w.heap.size) (z2 : B2 ≤ w.heap.size) :
    Calls Try.prog 132 #[.slice A la ca, .slice B lb cb] w fun e w' => e = .returned (.int .i64 (dsE a b)) ∧ Below w.heap.size w w' := by
  have ea := ra.len_ph
  have eb := rb.len_ph
  have HE := Lib.hid (show dsE a b = if 128 < a.length ∨ 128 < b.length then 3 else if a.all isF && b.all isF then 0 else 2 from rfl)
  have HR := Lib.hid (And.intro ra rb)
  by_cases h1 : 128 < la
  · have d1 : decide ((128 : Int) < (la : Int)) = true := by simp; omega
    have HV := Lib.hid (show dsE a b = 3 by rw [HE.out, if_pos (by omega)])
    clear ra rb HE h1
    go_enter Try.func132, Try.ntmps132
    go_wp2
    go_ret
    exact ⟨ret_int HV.out.symm, Below.refl _ _⟩
  · have d1 : decide ((128 : Int) < (la : Int)) = false := by simp; omega
    by_cases h2 : 128 < lb
    · have d2 : decide ((128 : Int) < (lb : Int)) = true := by simp; omega
      have HV := Lib.hid (show dsE a b = 3 by rw [HE.out, if_pos (by omega)])
      clear ra rb HE h1
      go_enter Try.func132, Try.ntmps132
      go_wp2
      go_ret
      exact ⟨ret_int HV.out.symm, Below.refl _ _⟩
    · have d2 : decide ((128 : Int) < (lb : Int)) = false := by simp; omega
      have HV := Lib.hid (show dsE a b = if a.all isF && b.all isF then 0 else 2 by rw [HE.out, if_neg (by omega)])
      have m1 : la ≤ maxLen := by unfold maxLen; omega
      have m2 : lb ≤ maxLen := by unfold maxLen; omega
      have HM := Lib.hid (And.intro m1 m2)
      clear ra rb HE m1 m2 ea eb h1 h2
      go_enter Try.func132, Try.ntmps132
      go_wp2_with fail
      refine (refAll_any A la ca L1 B1 a _ HR.out.1 z1 HM.out.1).mono ?_
      rintro e w1 ⟨rfl, hb⟩
      have H1 := Lib.hid hb
      clear hb
      cases hA : a.all isF with
      | false =>
        have HW := Lib.hid (show dsE a b = 2 by rw [HV.out, hA]; rfl)
        clear hA
        go_wp2
        go_ret
        exact ⟨ret_int HW.out.symm, H1.out⟩
      | true =>
        go_wp2_with fail
        refine (refAll_any B lb cb L2 B2 b _ (HR.out.2.below H1.out z2) (Nat.le_trans z2 H1.out.size) HM.out.2).mono ?_
        rintro e w2 ⟨rfl, hb⟩
        have H2 := Lib.hid (H1.out.trans (hb.mono H1.out.size))
        clear hb
        cases hB : b.all isF with
        | false =>
          have HW := Lib.hid (show dsE a b = 2 by rw [HV.out, hA, hB]; rfl)
          clear hA hB
          go_wp2
          go_ret
          exact ⟨ret_int HW.out.symm, H2.out⟩
        | true =>
          have HW := Lib.hid (show dsE a b = 0 by rw [HV.out, hA, hB]; rfl)
          clear hA hB
          go_wp2
          go_ret
          exact ⟨ret_int HW.out.symm, H2.out⟩

/-- Within's answers -/
def wiE (a b : List Ph) (most : Int) : Int := if dsE a b = 0 then if most < 0 then 2 else 0 else dsE a b
def wiB (a b : List Ph) (most : Int) : Bool := decide (dsE a b = 0) && decide (0 ≤ most) && decide (costF a b ≤ most)
def wiV (a b : List Ph) (most : Int) : Int := if wiB a b most then costF a b else 0

theorem within_any (A B : Option Addr) (la ca lb cb L1 L2 : Nat) (a b : List Ph) (most : Int) (w : World) (ra : Rd w L1 w.heap.size 3 A la (phs a)) (rb : Rd w L2 w.heap.size 3 B lb (phs b)) (fa : ∀ p ∈ a, fitP p) (fb : ∀ p ∈ b, fitP p) :
    Calls Try.prog 66 #[.slice A la ca, .slice B lb cb, .int .i64 most] w fun e w' => e = .returned (.tuple #[.int .i64 (wiV a b most), .bool (wiB a b most), .int .i64 (wiE a b most)]) ∧ Below w.heap.size w w' := by
  have HV := Lib.hid (And.intro (show wiE a b most = if dsE a b = 0 then if most < 0 then 2 else 0 else dsE a b from rfl) (And.intro (show wiB a b most = (decide (dsE a b = 0) && decide (0 ≤ most) && decide (costF a b ≤ most)) from rfl) (And.intro (show wiV a b most = if wiB a b most then costF a b else 0 from rfl) (show dsV a b = if dsE a b = 0 then costF a b else 0 from rfl))))
  have HR := Lib.hid (And.intro (And.intro ra rb) (And.intro fa fb))
  clear ra rb fa fb
  go_enter Try.func66, Try.ntmps66
  go_wp2_with fail
  refine (distance_any A B la ca lb cb L1 L2 a b _ HR.out.1.1 HR.out.1.2 HR.out.2.1 HR.out.2.2).mono ?_
  rintro e w1 ⟨rfl, hb⟩
  have H1 := Lib.hid hb
  clear hb
  by_cases he : dsE a b = 0
  · obtain ⟨v1, v2, v3, v4⟩ := HV.out
    rw [if_pos he] at v1 v4
    rw [decide_eq_true he] at v2
    simp only [Bool.true_and] at v2
    rw [he, v4]
    by_cases hm : most < 0
    · have d1 : decide (most < 0) = true := by simpa using hm
      rw [if_pos hm] at v1
      rw [decide_eq_false (show ¬ 0 ≤ most by omega), Bool.false_and] at v2
      rw [v2] at v3
      have HW := Lib.hid (And.intro v1 (And.intro v2 v3))
      clear v1 v2 v3 v4 he hm
      go_wp2
      refine bodyPost_ret (v := .tuple #[.int .i64 0, .bool false, .int .i64 2]) (by simp [results, Try.results66, go_sem]) rfl ?_
      exact ⟨by rw [HW.out.1, HW.out.2.1, HW.out.2.2]; rfl, H1.out⟩
    · have d1 : decide (most < 0) = false := by simpa using hm
      rw [if_neg hm] at v1
      rw [decide_eq_true (show 0 ≤ most by omega), Bool.true_and] at v2
      by_cases hc : costF a b ≤ most
      · have d2 : decide (most < costF a b) = false := by simp; omega
        rw [decide_eq_true hc] at v2
        rw [v2] at v3
        have HW := Lib.hid (And.intro v1 (And.intro v2 v3))
        clear v1 v2 v3 v4 he hm
        go_wp2
        refine bodyPost_ret (v := .tuple #[.int .i64 (costF a b), .bool true, .int .i64 0]) (by simp [results, Try.results66, go_sem]) rfl ?_
        exact ⟨by rw [HW.out.1, HW.out.2.1, HW.out.2.2]; rfl, H1.out⟩
      · have d2 : decide (most < costF a b) = true := by simp; omega
        rw [decide_eq_false hc] at v2
        rw [v2] at v3
        have HW := Lib.hid (And.intro v1 (And.intro v2 v3))
        clear v1 v2 v3 v4 he hm
        go_wp2
        refine bodyPost_ret (v := .tuple #[.int .i64 0, .bool false, .int .i64 0]) (by simp [results, Try.results66, go_sem]) rfl ?_
        exact ⟨by rw [HW.out.1, HW.out.2.1, HW.out.2.2]; rfl, H1.out⟩
  · obtain ⟨v1, v2, v3, v4⟩ := HV.out
    rw [if_neg he] at v1 v4
    rw [decide_eq_false he, Bool.false_and, Bool.false_and] at v2
    rw [v2] at v3
    rw [v4]
    have d1 : (dsE a b != 0) = true := by simpa using he
    have HW := Lib.hid (And.intro v1 (And.intro v2 v3))
    clear v1 v2 v3 v4 he
    go_wp2
    refine bodyPost_ret (v := .tuple #[.int .i64 0, .bool false, .int .i64 (dsE a b)]) (by simp [results, Try.results66, go_sem]) rfl ?_
    exact ⟨by rw [HW.out.1, HW.out.2.1, HW.out.2.2]; rfl, H1.out⟩
end Go.Proofs.Ytogofchpocoebaa
