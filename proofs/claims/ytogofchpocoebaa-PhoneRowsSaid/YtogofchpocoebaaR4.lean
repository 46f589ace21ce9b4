/- law 8's works. -/
import Derived.Test.YtogofchpocoebaaR3
import Derived.Test.YtogofchpocoebaaQ8
import Derived.Great.Walk
namespace Go.Proofs.Ytogofchpocoebaa
open Go.RowKit Go.Maps

def wkS : ByteArray := ⟨#[107, 97, 203, 144, 117, 204, 175, 116]⟩
def wkL : List Ph := [(107, false, 0), (97, true, 117), (116, false, 0)]
def wkM : List Ph := [(107, false, 0), (116, false, 0)]
theorem wk_read : readL wkS.data.toList = (wkL, 0, 0) := by decide +kernel
theorem wk_prE : prE wkL = 0 := by decide +kernel
theorem wk_prS : prS wkL = wkS := by decide +kernel
theorem wk_dsE : dsE wkL wkM = 0 := by decide +kernel
theorem wk_dsV : dsV wkL wkM = 19 := by decide +kernel
theorem wk_fitL : ∀ p ∈ wkL, fitP p := by
  intro p hp
  simp [wkL] at hp
  rcases hp with rfl | rfl | rfl <;> (refine ⟨⟨?_, ?_⟩, ?_, ?_⟩ <;> decide)
theorem wk_fitM : ∀ p ∈ wkM, fitP p := by
  intro p hp
  simp [wkM] at hp
  rcases hp with rfl | rfl <;> (refine ⟨⟨?_, ?_⟩, ?_, ?_⟩ <;> decide)

theorem rdM (w : World) : Rd (w.alloc (.cells #[.int .i32 107, .bool false, .int .i32 0, .int .i32 116, .bool false, .int .i32 0] 43)) w.heap.size (w.alloc (.cells #[.int .i32 107, .bool false, .int .i32 0, .int .i32 116, .bool false, .int .i32 0] 43)).heap.size 3 (some ⟨w.heap.size, 0, none⟩) 2 (phs wkM) := by
  refine ⟨rfl, fun _ => ⟨w.heap.size, 0, rfl, Nat.le_refl _, by simp, fun j u hu => ?_⟩⟩
  rw [Nat.zero_add, (Blk.new w 43 _).cell]
  have e : (#[.int .i32 107, .bool false, .int .i32 0, .int .i32 116, .bool false, .int .i32 0] : Array Value) = (phs wkM).toArray := rfl
  rw [e, List.getElem?_toArray]
  exact hu

set_option maxHeartbeats 4000000 in
set_option maxRecDepth 100000 in
theorem works_any (w : World) : Calls Try.prog 40 #[] w fun e w' => e = .returned (.bool true) ∧ Below w.heap.size w w' := by
  go_enter Try.func40, Try.ntmps40
  go_wp2_with fail
  refine (read_any wkS _ (by decide)).mono ?_
  rintro e w1 ⟨v, rfl, ho, hb⟩
  rw [wk_read] at ho ⊢
  obtain ⟨A, c, rfl⟩ := own_slice ho
  have hr := own_rd ho
  have hc := own_cap ho
  have e3 : wkL.length = 3 := rfl
  rw [e3] at hr hc ⊢
  have H1 := Lib.hid (And.intro hr hb)
  clear hr hb ho e3
  go_upto_region 2 with (fail)
  refine wp_abs (fun wx => Rd wx w.heap.size w1.heap.size 3 A 3 (phs wkL) ∧ Below w.heap.size w wx ∧ Blk wx w1.heap.size 68 #[.int .i64 0, .int .i64 0]) ⟨H1.out.1.below ((Below.refl _ _).alloc (Nat.le_refl _) _) (Nat.le_refl _), H1.out.2.trans (((Below.refl _ _).alloc (Nat.le_refl _) _).mono H1.out.2.size), Blk.new _ _ _⟩ ?_
  generalize w1.heap.size = sb
  clear H1
  rintro w2 ⟨hr, hb, hs⟩
  have H2 := Lib.hid (And.intro hr (And.intro hb hs))
  clear hr hb hs
  go_wp2_with fail
  refine (print_any A 3 c w.heap.size wkL _ (H2.out.1.more (Nat.le_refl _) (Nat.le_of_lt H2.out.2.2.lt)) wk_fitL (by decide)).mono ?_
  rintro e w3 ⟨rfl, hb⟩
  rw [wk_prE, wk_prS]
  have H3 := Lib.hid (And.intro (H2.out.1.below hb (Nat.le_of_lt H2.out.2.2.lt)) (And.intro (H2.out.2.1.trans (hb.mono H2.out.2.1.size)) (H2.out.2.2.below hb H2.out.2.2.lt)))
  clear hb H2
  have hs3 := H3.out.2.2.lt
  go_wp2_with fail
  refine (distance_any A _ 3 c 2 _ w.heap.size w3.heap.size wkL wkM _ (H3.out.1.below ((Below.refl _ _).alloc (Nat.le_refl _) _) (by omega) |>.more (Nat.le_refl _) (by simp; omega)) (rdM _) wk_fitL wk_fitM).mono ?_
  rintro e w4 ⟨rfl, hb⟩
  rw [wk_dsE, wk_dsV]
  have hb0 : Below w3.heap.size w3 w4 := ((Below.refl _ _).alloc (Nat.le_refl _) _).trans (hb.mono (by simp))
  have H4 := Lib.hid (And.intro (H3.out.1.below hb0 (by omega)) (And.intro (H3.out.2.1.trans (hb0.mono H3.out.2.1.size)) (H3.out.2.2.below hb0 hs3)))
  clear hb hb0 H3
  obtain ⟨b, o, hl, rfl, _, _, a0, a1, a2⟩ := H4.out.1.ph (k := 1) (by decide)
  have s0 : w4.cell? ⟨sb, 0, none⟩ = some (.int .i64 0) := H4.out.2.2.cell 0
  have s1 : w4.cell? ⟨sb, 1, none⟩ = some (.int .i64 0) := H4.out.2.2.cell 1
  have e1 : wkL[1] = (97, true, 117) := rfl
  rw [e1] at a0 a1 a2
  simp only [Nat.one_mul] at a0 a1 a2
  simp only [wkS]
  clear e1 hl
  go_wp2
  go_ret
  exact ⟨rfl, H4.out.2.1⟩
end Go.Proofs.Ytogofchpocoebaa
