/- The closure of PhoneKnown. -/
import Derived.Test.YtogofchpocoebaaW4
import Derived.Test.YtogofchpocoebaaW22
import Derived.Test.YtogofchpocoebaaQ6
namespace Go.Proofs.Ytogofchpocoebaa
open Go.RowKit Go.Maps

set_option maxHeartbeats 8000000 in
set_option maxRecDepth 100000 in
theorem p68_any (s : ByteArray) (p : Ph) (w : World) (hz : s.size ≤ maxLen) (hr : readL s.data.toList = ([p], 0, 0)) : Calls Try.prog 68 #[.string s] w fun e w' => e = .returned (.agg #[.int .i32 p.1, .bool p.2.1, .int .i32 p.2.2]) ∧ Below w.heap.size w w' := by
  have HRR := Lib.hid hr
  clear hr
  go_enter Try.func68, Try.ntmps68
  go_wp2_with fail
  refine (read_any s _ hz).mono ?_
  rintro e w2 ⟨v, rfl, ho, hb⟩
  rw [HRR.out] at ho ⊢
  dsimp only at ho ⊢
  obtain ⟨A, c, rfl⟩ := own_slice ho
  obtain ⟨g, rfl, hg1, hg2⟩ := own_addr ho (by simp)
  have hone : ([p] : List Ph).length = 1 := rfl
  rw [hone] at ho ⊢
  have hb0 : Blk w2 w.heap.size 43 #[.int .i32 0, .bool false, .int .i32 0] := (Blk.new w 43 _).below hb (by simp)
  have H2 := Lib.hid (And.intro (((Below.refl _ w).alloc (Nat.le_refl _) (.cells #[.int .i32 0, .bool false, .int .i32 0] 43)).trans (hb.mono (by simp))) (And.intro hb0 (own_rd ho)))
  have hgw : w.heap.size < g := by simp at hg1; omega
  clear ho hb hb0 hone hg1
  go_upto_region 2 with (fail)
  refine wp_abs (fun wx => Below w2.heap.size w2 wx) ((Below.refl _ _).alloc (Nat.le_refl _) _) ?_
  rintro w3 hb
  obtain ⟨_, _, hl, e1, _, _, x0, x1, x2⟩ := ((H2.out.2.2.more (Nat.zero_le _) (Nat.le_of_lt hg2 |> fun _ => Nat.le_refl _)).below hb (Nat.le_refl _)).ph (k := 0) (by omega)
  cases e1
  simp only [List.getElem_cons_zero, Nat.zero_mul, Nat.add_zero] at x0 x1 x2
  have H3 := Lib.hid (And.intro (H2.out.1.trans (hb.mono H2.out.1.size)) (H2.out.2.1.below hb H2.out.2.1.lt))
  clear hb H2
  have y0 : w3.cell? ⟨w.heap.size, 0, none⟩ = some (.int .i32 0) := H3.out.2.cell 0
  have y1 : w3.cell? ⟨w.heap.size, 1, none⟩ = some (.bool false) := H3.out.2.cell 1
  have y2 : w3.cell? ⟨w.heap.size, 2, none⟩ = some (.int .i32 0) := H3.out.2.cell 2
  have f0 : w3.frozen? ⟨w.heap.size, 0, none⟩ = false := H3.out.2.frozen 0
  have f1 : w3.frozen? ⟨w.heap.size, 1, none⟩ = false := H3.out.2.frozen 1
  have f2 : w3.frozen? ⟨w.heap.size, 2, none⟩ = false := H3.out.2.frozen 2
  go_wp2
  have hB := ((H3.out.2.set_ 0 (.int .i32 p.1)).set_ 1 (.bool p.2.1)).set_ 2 (.int .i32 p.2.2)
  have z0 := hB.cell 0
  have z1 := hB.cell 1
  have z2 := hB.cell 2
  simp at z0 z1 z2
  refine bodyPost_ret (v := .agg #[.int .i32 p.1, .bool p.2.1, .int .i32 p.2.2]) (by simp [results, Try.results68, go_sem, z0, z1, z2]) rfl ?_
  exact ⟨rfl, ((H3.out.1.setCell (by simp) _).setCell (by simp) _).setCell (by simp) _⟩
end Go.Proofs.Ytogofchpocoebaa
