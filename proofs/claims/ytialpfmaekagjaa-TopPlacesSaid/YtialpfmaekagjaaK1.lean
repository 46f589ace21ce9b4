/- cluster: wide, columns, joins, where the runes are small. -/
import Derived.Test.YtialpfmaekagjaaF1
import Derived.Test.YtialpfmaekagjaaR3
import Derived.Test.YtialpfmaekagjaaT3
namespace Go.Proofs.Ytialpfmaekagjaa
open Go.RowKit
attribute [local go_sem] Oper.semAt_some

set_option maxRecDepth 100000 in
set_option maxHeartbeats 4000000 in
theorem wide_lo (r : Int) (hr : r < 4352) (w : World) : Calls Try.prog 64 #[.int .i32 r] w fun e w' => e = .returned (.bool false) ∧ Below w.heap.size w w' := by
  go_enter Try.func64, Try.ntmps64
  go_wp2
  refine iter_abs widesB rfl ?_
  intro T hT
  have hz : 0 < T.size := by rw [hT]; decide
  have hd : (Utf8.decode T 0).1 = 4352 := by rw [hT]; decide +kernel
  clear hT
  go_loopw [2, 3] (fun v2 v3 wr => v2 = .bool false ∧ v3 = .bool false ∧ wr = w.iter T 0) (fun _ _ _ => 0)
  case atStart => exact ⟨rfl, rfl, rfl⟩
  case round =>
    obtain ⟨rfl, rfl, rfl⟩ := hrel
    have hnx : ∀ ty, (Instr.next (.pointer (some ⟨w.heap.size, 0, none⟩)) true ty).run Try.prog (w.iter T 0) = _ := fun ty => Lib.run_next_any_at _ w.heap.size T 0 ty (World.iter_heap _ _ _) hz
    rw [hd] at hnx
    generalize (Utf8.decode T 0).2 = dw at *
    have hdec : decide (r < 4352) = true := decide_eq_true hr
    have HB := Lib.hid (show Below w.heap.size w ((w.iter T 0).iterAt w.heap.size T (0 + dw)) from (iter_below _ _ _).trans ((Only.iterAt (S := fun b => b = w.heap.size) (Only.refl _ _) (.inl rfl) T _).below (by simp [World.iter]) (fun b hb e => by omega)))
    go_wp2
    go_ret
    exact ⟨rfl, by have h := HB.out; rw [Nat.zero_add] at h; exact h⟩

def clV (p : Pc) : Value := .agg #[.int .i64 p.1, .int .i64 p.2.1, .int .i32 p.2.2.1, .bool p.2.2.2]
set_option maxHeartbeats 2000000 in
theorem columns_letter (a b r : Int) (hk : kindF r = 1) (hr : r < 4352) (w : World) : Calls Try.prog 61 #[.agg #[.int .i64 a, .int .i64 b, .int .i32 r, .bool false]] w fun e w' => e = .returned (.int .i64 1) ∧ Below w.heap.size w w' := by
  go_enter Try.func61, Try.ntmps61
  go_wp2_with fail
  refine (of_any a b r false _).mono ?_
  rintro e w1 ⟨rfl, hb⟩
  rw [if_neg (by decide), hk]
  have hblk : Blk w1 w.heap.size 33 #[.int .i64 a, .int .i64 b, .int .i32 r, .bool false] := (Blk.new w 33 _).below hb (by simp)
  have c2 : w1.cell? ⟨w.heap.size, 2, none⟩ = some (.int .i32 r) := hblk.cell 2
  have HB := Lib.hid (((Below.refl _ w).alloc (Nat.le_refl _) _).trans (hb.mono (by simp)) : Below w.heap.size w w1)
  clear hb hblk
  go_wp2_with fail
  refine (wide_lo r hr w1).mono ?_
  rintro e w2 ⟨rfl, hb2⟩
  have HB2 := Lib.hid (HB.out.trans (hb2.mono HB.out.size))
  clear hb2 c2
  go_wp2
  go_ret
  exact ⟨rfl, HB2.out⟩
set_option maxHeartbeats 2000000 in
theorem columns_mark (a b r : Int) (hk : kindF r = 2) (w : World) : Calls Try.prog 61 #[.agg #[.int .i64 a, .int .i64 b, .int .i32 r, .bool false]] w fun e w' => e = .returned (.int .i64 0) ∧ Below w.heap.size w w' := by
  go_enter Try.func61, Try.ntmps61
  go_wp2_with fail
  refine (of_any a b r false _).mono ?_
  rintro e w1 ⟨rfl, hb⟩
  rw [if_neg (by decide), hk]
  have HB := Lib.hid (((Below.refl _ w).alloc (Nat.le_refl _) _).trans (hb.mono (by simp)) : Below w.heap.size w w1)
  clear hb
  go_wp2
  go_ret
  exact ⟨rfl, HB.out⟩
set_option maxHeartbeats 2000000 in
theorem joins_letter (q : Pc) (a b r : Int) (hk : kindF r = 1) (hr : (r == 8205) = false) (w : World) : Calls Try.prog 60 #[.int .i64 1, clV q, .agg #[.int .i64 a, .int .i64 b, .int .i32 r, .bool false]] w fun e w' => e = .returned (.bool false) ∧ Below w.heap.size w w' := by
  unfold clV
  go_enter Try.func60, Try.ntmps60
  go_wp2_with fail
  refine (of_any a b r false _).mono ?_
  rintro e w1 ⟨rfl, hb⟩
  rw [if_neg (by decide), hk]
  have hblk : Blk w1 (w.heap.size + 1) 33 #[.int .i64 a, .int .i64 b, .int .i32 r, .bool false] := (blk_new_eq (by simp)).below hb (by simp)
  have c2 : w1.cell? ⟨w.heap.size + 1, 2, none⟩ = some (.int .i32 r) := hblk.cell 2
  have HB := Lib.hid ((((Below.refl _ w).alloc (Nat.le_refl _) _).alloc (by simp) _).trans (hb.mono (by simp; omega)) : Below w.heap.size w w1)
  clear hb hblk
  go_wp2
  go_ret
  exact ⟨rfl, HB.out⟩
set_option maxHeartbeats 2000000 in
theorem joins_mark (q : Pc) (a b r : Int) (hk : kindF r = 2) (w : World) : Calls Try.prog 60 #[.int .i64 1, clV q, .agg #[.int .i64 a, .int .i64 b, .int .i32 r, .bool false]] w fun e w' => e = .returned (.bool true) ∧ Below w.heap.size w w' := by
  unfold clV
  go_enter Try.func60, Try.ntmps60
  go_wp2_with fail
  refine (of_any a b r false _).mono ?_
  rintro e w1 ⟨rfl, hb⟩
  rw [if_neg (by decide), hk]
  have HB := Lib.hid ((((Below.refl _ w).alloc (Nat.le_refl _) _).alloc (by simp) _).trans (hb.mono (by simp; omega)) : Below w.heap.size w w1)
  clear hb
  go_wp2
  go_ret
  exact ⟨rfl, HB.out⟩
end Go.Proofs.Ytialpfmaekagjaa
