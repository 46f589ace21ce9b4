/- units: how many units of 16 bits a piece has. -/
import Derived.Test.YtialpfmaekagjaaQ1
import Derived.Test.YtialpfmaekagjaaN5
namespace Go.Proofs.Ytialpfmaekagjaa
open Go.RowKit

theorem topUnits_any (a b r : Nat) (t : Bool) (w : World) : Calls Try.prog 8 #[.agg #[.int .i64 a, .int .i64 b, .int .i32 r, .bool t]] w fun e w' => e = .returned (.int .i64 ((if 65536 ≤ r then 2 else 1 : Nat) : Int)) ∧ Below w.heap.size w w' := by
  by_cases hd : (65536 : Nat) ≤ r
  · rw [if_pos hd]
    have h1 : decide ((65535 : Int) < (r : Int)) = true := decide_eq_true (by omega)
    clear hd
    go_enter Try.func8, Try.ntmps8
    go_wp2
    go_ret
    exact ⟨rfl, (Below.refl _ _).alloc (Nat.le_refl _) _⟩
  · rw [if_neg hd]
    have h1 : decide ((65535 : Int) < (r : Int)) = false := decide_eq_false (by omega)
    clear hd
    go_enter Try.func8, Try.ntmps8
    go_wp2
    go_ret
    exact ⟨rfl, (Below.refl _ _).alloc (Nat.le_refl _) _⟩
end Go.Proofs.Ytialpfmaekagjaa
