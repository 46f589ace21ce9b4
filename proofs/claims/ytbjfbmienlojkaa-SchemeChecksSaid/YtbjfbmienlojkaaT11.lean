/- scheme.Count. -/
import Derived.Test.YtbjfbmienlojkaaT10
namespace Go.Proofs.Ytbjfbmienlojkaa
open Go.RowKit

theorem run_index107 (cs : Array Value) (n : Nat) (hn : n < 26) (w : World) :
    (Instr.index 107 (.agg cs) (.int .i64 n)).run Try.prog w = .ok (.agg (cs.extract (n * 27) (n * 27 + 27))) w := by
  have h0 : (0 : Int) ≤ n ∧ (n : Int) < 26 := by omega
  simp [Instr.index, run_underlying Try.underlying107, asIntOf, h0, go_sem, part]
  omega
theorem run_index106 (cs : Array Value) (n : Nat) (hn : n < 27) (v : Value) (hv : cs[n]? = some v) (w : World) :
    (Instr.index 106 (.agg cs) (.int .i64 n)).run Try.prog w = .ok v w := by
  have h0 : (0 : Int) ≤ n ∧ (n : Int) < 27 := by omega
  simp [Instr.index, run_underlying Try.underlying106, asIntOf, h0, go_sem, part]
  rw [if_pos hn, hv]
  rfl
theorem TabOk.row {cs : Array Value} {F : Nat → Nat → Int} (h : TabOk cs F) {k c : Nat} (hk : k < 26) (hc : c < 27) : (cs.extract (k * 27) (k * 27 + 27))[c]? = some (.int .i64 (F k c)) := by
  rw [Array.getElem?_extract, if_pos (by have := h.1; omega)]
  exact h.2 k c hk hc

/-- scheme.Count. -/
def countF (n : Int) : Int := if n < 0 ∨ 25 < n then 0 else tN n.toNat 0
set_option maxHeartbeats 1000000 in
theorem count_any (n : Int) (w : World) : Calls Try.prog 38 #[.int .i64 n] w fun e w' => e = .returned (.tuple #[.int .i64 (countF n), .int .i64 (if n < 0 ∨ 25 < n then 2 else 0)]) ∧ Below w.heap.size w w' := by
  by_cases hbad : n < 0 ∨ 25 < n
  · have h1 : countF n = 0 := by unfold countF; rw [if_pos hbad]
    rw [h1, if_pos hbad]
    by_cases hn : n < 0
    all_goals
      go_enter Try.func38, Try.ntmps38
      go_wp2
      go_ret2
      exact ⟨rfl, Below.refl _ _⟩
  · obtain ⟨k, rfl⟩ : ∃ k : Nat, n = k := ⟨n.toNat, by omega⟩
    have h1 : countF (k : Int) = tN k 0 := by unfold countF; rw [if_neg hbad]; rfl
    rw [h1, if_neg hbad]
    have hk : k ≤ 25 := by omega
    clear hbad h1
    go_enter Try.func38, Try.ntmps38
    go_wp2_with fail
    refine (counts_any k w hk).mono ?_
    rintro e w1 ⟨cs, rfl, ht, hb⟩
    have i1 := fun w => run_index107 cs k (by omega) w
    have i2 : ∀ w, (Instr.index 106 (.agg (cs.extract (k * 27) (k * 27 + 27))) (.int .i64 0)).run Try.prog w = .ok (.int .i64 (tN k 0)) w := fun w => by
      have := run_index106 (cs.extract (k * 27) (k * 27 + 27)) 0 (by omega) _ (ht.row (by omega) (by omega)) w
      rw [if_pos ⟨Nat.le_refl _, by omega⟩] at this
      exact this
    clear ht
    go_wp2
    go_ret2
    exact ⟨rfl, hb⟩
end Go.Proofs.Ytbjfbmienlojkaa
