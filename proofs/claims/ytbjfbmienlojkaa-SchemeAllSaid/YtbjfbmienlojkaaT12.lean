/- wakes: true, always. -/
import Derived.Test.YtbjfbmienlojkaaT8
import Derived.Test.YtbjfbmienlojkaaT9
import Derived.Test.YtbjfbmienlojkaaT10
namespace Go.Proofs.Ytbjfbmienlojkaa
open Go.RowKit

def abx : ByteArray := ⟨#[97, 98, 120, 32, 65, 49]⟩
theorem read_abx : readF abx = .ok [(0, 0), (1, 0), (-1, 0), (0, 1)] [3, 1] := by
  unfold readF
  rw [if_neg (by decide), if_neg (by decide)]
  simp [abx, rdF, smallOf, greatOf, placeF, lettersB, greatsB]
theorem may_abx : may [(0, 0), (1, 0), (-1, 0), (0, 1)] [3, 1] = true := by decide
theorem print_abx : printF [(0, 0), (1, 0), (-1, 0), (0, 1)] [3, 1] = abx := by
  unfold printF; rw [if_pos may_abx]; rfl
theorem count4 : countF 4 = 15 := by decide

theorem own_cap {w : World} {base : Nat} {e : TypeId} {size : Nat} {A : Option Addr} {c n : Nat} {xs : List Value} (h : w.ownsRow base e size (.slice A n c) n xs) : n ≤ c ∧ c ≤ maxLen := by
  rcases h.2 with ⟨hv, h0⟩ | ⟨g, cap, cur, hv, _, _, h1, h2, _⟩
  · injection hv with _ h1 h2
    subst h1 h2
    exact ⟨Nat.le_refl _, by unfold maxLen; omega⟩
  · injection hv with _ _ h3
    subst h3
    exact ⟨h1, h2⟩

set_option maxHeartbeats 1000000 in
set_option maxRecDepth 100000 in
theorem wakes_any (w : World) : Calls Try.prog 13 #[] w fun e w' => e = .returned (.bool true) ∧ Below w.heap.size w w' := by
  go_enter Try.func13, Try.ntmps13
  go_wp2_with fail
  refine (read_any abx w (by decide)).mono ?_
  rintro e w1 h1
  rw [read_abx] at h1
  obtain ⟨hb1, A1, C1, A2, C2, rfl, o1, o2⟩ := h1
  have cap1 := own_cap o1
  have cap2 := own_cap o2
  have hz1 := hb1.size
  have HB1 := Lib.hid hb1
  have r1 := own_rd o1
  have r2 := own_rd o2
  have R1 := Lib.hid r1
  have R2 := Lib.hid r2
  clear o1 o2 hb1 r1 r2
  simp only [List.length_cons, List.length_nil] at cap1 cap2 R1 R2 ⊢
  have b2 : ∀ (o1 o2 : Obj), Below w1.heap.size w1 ((w1.alloc o1).alloc o2) := fun o1 o2 => ((Below.refl _ _).alloc (Nat.le_refl _) _).alloc (by simp) _
  go_wp2_with fail
  refine (print_any A1 A2 4 C1 2 C2 w.heap.size w.heap.size [(0, 0), (1, 0), (-1, 0), (0, 1)] [3, 1] _ ((R1.out.below (b2 _ _) (Nat.le_refl _)).more (Nat.le_refl _) (by simp; omega)) ((R2.out.below (b2 _ _) (Nat.le_refl _)).more (Nat.le_refl _) (by simp; omega)) (by decide) (by decide) cap1.1 cap1.2).mono ?_
  rw [print_abx, may_abx]
  rintro e w2 ⟨rfl, hb2⟩
  have c0 : w2.cell? ⟨w1.heap.size + 1, 0, none⟩ = some (.int .i64 0) := (hb2.cell (p := ⟨w1.heap.size + 1, 0, none⟩) (by simp)).trans (by simp)
  have c1 : w2.cell? ⟨w1.heap.size + 1, 1, none⟩ = some (.int .i64 0) := (hb2.cell (p := ⟨w1.heap.size + 1, 1, none⟩) (by simp)).trans (by simp)
  have hz2 := hb2.size
  simp only [World.size_alloc] at hz2
  have HB2 := Lib.hid (HB1.out.trans ((b2 (.cells #[.slice A1 4 C1, .slice A2 2 C2] 26) (.cells #[.int .i64 0, .int .i64 0] 29)).mono hz1 |>.trans (hb2.mono (by simp; omega))))
  clear hb2 b2
  go_wp2_with fail
  refine (count_any 4 w2).mono ?_
  rw [count4]
  rintro e w3 ⟨rfl, hb3⟩
  have d0 := (hb3.cell (p := ⟨w1.heap.size + 1, 0, none⟩) (by simp; omega)).trans c0
  have d1 := (hb3.cell (p := ⟨w1.heap.size + 1, 1, none⟩) (by simp; omega)).trans c1
  have HB3 := Lib.hid (HB2.out.trans (hb3.mono (by omega)))
  clear c0 c1 hb3
  have ha : abx.toList = [97, 98, 120, 32, 65, 49] := by rw [ByteArray.toList_eq]; rfl
  go_wp2
  go_ret
  exact ⟨rfl, HB3.out⟩
end Go.Proofs.Ytbjfbmienlojkaa
