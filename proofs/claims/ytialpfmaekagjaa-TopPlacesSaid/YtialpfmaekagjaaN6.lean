/- sort.Search over a function that answers by a rule; the numbers of a place. -/
import Derived.Test.YtialpfmaekagjaaN5
namespace Go.Proofs.Ytialpfmaekagjaa
open Go.RowKit

theorem byte1_any (p : Pl) (w : World) : Calls Try.prog 23 #[plV p] w fun e w' => e = .returned (.int .i64 p.b) ∧ Below w.heap.size w w' := by
  unfold plV
  go_enter Try.func23, Try.ntmps23
  go_wp2
  go_ret
  exact ⟨rfl, (Below.refl _ _).alloc (Nat.le_refl _) _⟩
theorem unit1_any (p : Pl) (w : World) : Calls Try.prog 32 #[plV p] w fun e w' => e = .returned (.int .i64 p.u) ∧ Below w.heap.size w w' := by
  unfold plV
  go_enter Try.func32, Try.ntmps32
  go_wp2
  go_ret
  exact ⟨rfl, (Below.refl _ _).alloc (Nat.le_refl _) _⟩

set_option maxHeartbeats 8000000 in
set_option maxRecDepth 100000 in
theorem search_any (n : Nat) (hn : n ≤ 70000) (R : Nat → Bool) (a b c : Value) (w : World)
    (hf : ∀ i, i < n → ∀ W, Below w.heap.size w W → Calls Try.prog 34 #[.int .i64 i, a, b, c] W fun e W' => e = .returned (.bool (R i)) ∧ Below W.heap.size W W') :
    Calls Try.prog 33 #[.int .i64 n, .func (.func 34) #[] #[a, b, c]] w fun e w' => ∃ k : Nat, e = .returned (.int .i64 k) ∧ k ≤ n ∧ (0 < k → R (k - 1) = false) ∧ (k < n → R k = true) ∧ Below w.heap.size w w' := by
  have HF := Lib.hid hf
  clear hf
  go_enter Try.func33, Try.ntmps33
  go_wp2
  go_loopw [5, 6, 7] (fun iv jv _ wr => ∃ i j : Nat, i ≤ j ∧ j ≤ n ∧ iv = .int .i64 i ∧ jv = .int .i64 j ∧ Hid ((0 < i → R (i - 1) = false) ∧ (j < n → R j = true) ∧ Below w.heap.size w wr)) (fun iv jv _ _ => (intOf jv).toNat - (intOf iv).toNat)
  case atStart => exact ⟨0, n, by omega, by omega, rfl, rfl, Lib.hid ⟨by omega, by omega, Below.refl _ _⟩⟩
  case round =>
    obtain ⟨i, j, hij, hjn, rfl, rfl, HR⟩ := hrel
    by_cases hlt : i < j
    · obtain ⟨h, hh⟩ : ∃ h, (i + j) / 2 = h := ⟨_, rfl⟩
      have h1 : i ≤ h := by omega
      have h2 : h < j := by omega
      go_upto_region 4 with (fail)
      rw [show ((i : Int) + (j : Int)) / 2 = (h : Int) by omega]
      have hhb : h ≤ 70000 := by omega
      have HP := Lib.hid (And.intro h1 (And.intro h2 hjn))
      clear hh
      go_wp2_with fail
      refine (HF.out h (by omega) _ HR.out.2.2).mono ?_
      rintro e w2 ⟨rfl, hb⟩
      have HB := Lib.hid (HR.out.2.2.trans (hb.mono HR.out.2.2.size))
      clear hb
      cases hR : R h with
      | true =>
        have HRR := Lib.hid hR
        clear hR
        go_wp2
        go_roundw
        case rel => exact ⟨i, h, h1, by omega, rfl, rfl, Lib.hid ⟨HR.out.1, fun _ => HRR.out, HB.out⟩⟩
        case measure => simp [intOf]; omega
      | false =>
        have HRR := Lib.hid hR
        clear hR
        go_wp2
        go_roundw
        case rel => exact ⟨h + 1, j, by omega, hjn, by go_num, rfl, Lib.hid ⟨fun _ => by rw [Nat.add_sub_cancel]; exact HRR.out, HR.out.2.1, HB.out⟩⟩
        case measure => simp [intOf]; omega
    · obtain rfl : i = j := by omega
      go_wp2
      go_ret
      exact ⟨i, rfl, hjn, HR.out.1, HR.out.2.1, HR.out.2.2⟩
end Go.Proofs.Ytialpfmaekagjaa
