/- The law PhoneRows, walked. -/
import Derived.Test.YtogofchpocoebaaS17
import Derived.Test.YtogofchpocoebaaS3
namespace Go.Proofs.Ytogofchpocoebaa
open Go.RowKit Go.Maps

set_option maxHeartbeats 1000000 in
theorem pairsEq_any (A B : Option Addr) (n c d L1 L2 B1 B2 : Nat) (l : List (Int × Int)) (w : World)
    (h1 : Rd w L1 B1 2 A n (prs l)) (h2 : Rd w L2 B2 2 B n (prs l)) (hz : n ≤ maxLen) (z1 : B1 ≤ w.heap.size) (z2 : B2 ≤ w.heap.size) :
    Calls Try.prog 67 #[.slice A n c, .slice B n d] w fun e w' => e = .returned (.bool true) ∧ Below w.heap.size w w' := by
  unfold maxLen at hz
  have H := Lib.hid (And.intro h1 h2)
  clear h1 h2
  have nb : ((n : Int) != (n : Int)) = false := by simp
  go_enter Try.func67, Try.ntmps67
  go_wp2
  go_loopw [5, 13] (fun _ v wr => ∃ k : Nat, k ≤ n ∧ v = .int .i64 k ∧ Hid (Below w.heap.size w wr)) (fun _ v _ => n - (intOf v).toNat)
  case atStart => exact ⟨0, by omega, rfl, Below.refl _ _⟩
  case round =>
    obtain ⟨k, hk, rfl, HR⟩ := hrel
    by_cases hlt : k < n
    · obtain ⟨b, o, hl, rfl, _, _, x0, x1⟩ := (H.out.1.below HR.out z1).two hlt
      obtain ⟨b', o', hl', rfl, _, _, y0, y1⟩ := (H.out.2.below HR.out z2).two hlt
      generalize l[k].1 = p at *
      generalize l[k].2 = q at *
      have n1 : ∀ x : Int, (x != x) = false := fun x => by simp
      have i1 : (0 : Int) ≤ (k : Int) := by omega
      have i2 : (k : Int) < (n : Int) := by omega
      go_wp2
      go_quiet (fail)
      go_wp2
      go_roundw
      case rel => exact ⟨k + 1, by omega, by go_num, Lib.hid (bdrawn HR.out _)⟩
      case measure => simp [intOf]; omega
    · obtain rfl : k = n := by omega
      go_wp2
      go_ret
      exact ⟨rfl, HR.out⟩
end Go.Proofs.Ytogofchpocoebaa
