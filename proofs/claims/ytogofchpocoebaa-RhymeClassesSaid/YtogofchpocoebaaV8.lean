/- RhymeIsOne: what the law says, without the program; the closure. -/
import Derived.Test.YtogofchpocoebaaV4
import Derived.Test.YtogofchpocoebaaZ0
namespace Go.Proofs.Ytogofchpocoebaa
open Go.RowKit Go.Maps

theorem texts_inj {a b : List Ph} (ha : a.all isF = true) (hb : b.all isF = true) (la : a.length ≤ 128) (lb : b.length ≤ 128) (h : texts a = texts b) : a = b := by
  have h1 := read_texts ha la
  have h2 := read_texts hb lb
  rw [h, h2] at h1
  injection h1 with h1
  exact h1.symm
theorem key_eq {x y : Sd} (hf : Form x.l x.ss) (hg : Form y.l y.ss) : (bts (texts (tailF x.l x.ss)) = bts (texts (tailF y.l y.ss))) ↔ tailF x.l x.ss = tailF y.l y.ss := by
  obtain ⟨a1, _, a2, _⟩ := form_parts hf
  obtain ⟨b1, _, b2, _⟩ := form_parts hg
  exact ⟨fun h => texts_inj a1 b1 a2 b2 (bts_inj h), fun h => by rw [h]⟩
theorem kind_full (a b ta tb ha hb : List Ph) : decide (3 ≤ kindF a b ta tb ha hb) = decide (ta = tb) := by
  unfold kindF
  by_cases h : ta = tb
  · rw [if_pos h, decide_eq_true h]
    split
    · rfl
    · split <;> rfl
  · rw [if_neg h, decide_eq_false h]
    split
    · rfl
    · split <;> rfl
theorem kind_self (a ta ha : List Ph) : kindF a a ta ta ha ha = 5 := by unfold kindF; rw [if_pos rfl, if_pos rfl]
theorem far_same {x y : Sd} (hf : Form x.l x.ss) (hg : Form y.l y.ss) : farS x y = 0 ↔ tailF x.l x.ss = tailF y.l y.ss := by
  obtain ⟨a1, _, a2, _⟩ := form_parts hf
  obtain ⟨b1, _, b2, _⟩ := form_parts hg
  unfold farS
  constructor
  · intro h
    exact cost_zero _ _ (fun p hp => (isF_tab (List.all_eq_true.1 a1 p hp)).1) (fun p hp => (isF_tab (List.all_eq_true.1 b1 p hp)).1) h
  · intro h
    rw [h]
    exact cost_self _
theorem far_tri' (x y z : Sd) : farS x z ≤ farS x y + farS y z := cost_apart _ _ _
theorem far_nn' (x y : Sd) : 0 ≤ farS x y := cost_nn' _ _
theorem far_hi' {x y : Sd} (hf : Form x.l x.ss) (hg : Form y.l y.ss) : farS x y ≤ 5120 := by
  have h := cost_hi (tailF x.l x.ss) (tailF y.l y.ss)
  have h1 := (form_parts hf).2.2.1
  have h2 := (form_parts hg).2.2.1
  unfold farS
  omega
/-! the closure -/
set_option maxHeartbeats 4000000 in
set_option maxRecDepth 100000 in
theorem full_bad (x y : Sd) (BB : Nat) (w : World) (hx : SdIn w BB x) (hy : SdIn w BB y) (hBB : BB ≤ w.heap.size) (hm : (mayB x && mayB y) = false) :
    Calls Try.prog 75 #[.agg #[.slice x.A x.n x.c, .slice x.D x.m x.d], .agg #[.slice y.A y.n y.c, .slice y.D y.m y.d]] w fun e w' => e = .returned (.tuple #[.bool false, .bool false]) ∧ Below w.heap.size w w' := by
  have HX := Lib.hid hx
  have HY := Lib.hid hy
  clear hx hy
  have HM := Lib.hid hm
  clear hm
  go_enter Try.func75, Try.ntmps75
  go_upto_region 1 with (fail)
  refine wp_abs (fun wx => Below w.heap.size w wx ∧ Blk wx w.heap.size 25 #[.slice x.A x.n x.c, .slice x.D x.m x.d] ∧ Blk wx (w.heap.size + 1) 25 #[.slice y.A y.n y.c, .slice y.D y.m y.d]) ⟨((Below.refl _ _).alloc (Nat.le_refl _) _).alloc (by simp) _, (Blk.new _ _ _).alloc _, blk_new_eq (by simp)⟩ ?_
  rintro w1 ⟨hb, hB1, hB2⟩
  have e1 : w1.cell? ⟨w.heap.size, 0, none⟩ = some (.slice x.A x.n x.c) := hB1.cell 0
  have f1 : w1.cell? ⟨w.heap.size, 1, none⟩ = some (.slice x.D x.m x.d) := hB1.cell 1
  have g1 : w1.cell? ⟨w.heap.size + 1, 0, none⟩ = some (.slice y.A y.n y.c) := hB2.cell 0
  have k1 : w1.cell? ⟨w.heap.size + 1, 1, none⟩ = some (.slice y.D y.m y.d) := hB2.cell 1
  have L1 : w.heap.size + 1 < w1.heap.size := hB2.lt
  have H1 := Lib.hid hb
  clear hb hB1 hB2
  go_wp2_with fail
  refine (kind_bad x y BB w1 (HX.out.below H1.out hBB) (HY.out.below H1.out hBB) (Nat.le_trans hBB H1.out.size) HM.out).mono ?_
  rintro e w2 ⟨rfl, hb⟩
  have e2 := (hb.cell (p := ⟨w.heap.size, 0, none⟩) (show w.heap.size < w1.heap.size by have := L1; omega)).trans e1
  have f2 := (hb.cell (p := ⟨w.heap.size, 1, none⟩) (show w.heap.size < w1.heap.size by have := L1; omega)).trans f1
  have g2 := (hb.cell (p := ⟨w.heap.size + 1, 0, none⟩) L1).trans g1
  have k2 := (hb.cell (p := ⟨w.heap.size + 1, 1, none⟩) L1).trans k1
  have L2 := Nat.lt_of_lt_of_le L1 hb.size
  have H2 := Lib.hid (H1.out.trans (hb.mono H1.out.size))
  clear hb e1 f1 g1 k1
  go_wp2
  go_ret2
  exact ⟨rfl, H2.out⟩
set_option maxHeartbeats 4000000 in
set_option maxRecDepth 100000 in
theorem full_ok (x y : Sd) (BB : Nat) (w : World) (hx : SdIn w BB x) (hy : SdIn w BB y) (hBB : BB ≤ w.heap.size) (hm : mayB x = true ∧ mayB y = true) :
    Calls Try.prog 75 #[.agg #[.slice x.A x.n x.c, .slice x.D x.m x.d], .agg #[.slice y.A y.n y.c, .slice y.D y.m y.d]] w fun e w' => e = .returned (.tuple #[.bool (decide (tailF x.l x.ss = tailF y.l y.ss)), .bool true]) ∧ Below w.heap.size w w' := by
  have HX := Lib.hid hx
  have HY := Lib.hid hy
  clear hx hy
  have HF := Lib.hid (form_of (by have := hm.1; unfold mayB at this; exact eq_of_beq this))
  have HG := Lib.hid (form_of (by have := hm.2; unfold mayB at this; exact eq_of_beq this))
  have HM := Lib.hid hm
  clear hm
  go_enter Try.func75, Try.ntmps75
  go_upto_region 1 with (fail)
  refine wp_abs (fun wx => Below w.heap.size w wx ∧ Blk wx w.heap.size 25 #[.slice x.A x.n x.c, .slice x.D x.m x.d] ∧ Blk wx (w.heap.size + 1) 25 #[.slice y.A y.n y.c, .slice y.D y.m y.d]) ⟨((Below.refl _ _).alloc (Nat.le_refl _) _).alloc (by simp) _, (Blk.new _ _ _).alloc _, blk_new_eq (by simp)⟩ ?_
  rintro w1 ⟨hb, hB1, hB2⟩
  have e1 : w1.cell? ⟨w.heap.size, 0, none⟩ = some (.slice x.A x.n x.c) := hB1.cell 0
  have f1 : w1.cell? ⟨w.heap.size, 1, none⟩ = some (.slice x.D x.m x.d) := hB1.cell 1
  have g1 : w1.cell? ⟨w.heap.size + 1, 0, none⟩ = some (.slice y.A y.n y.c) := hB2.cell 0
  have k1 : w1.cell? ⟨w.heap.size + 1, 1, none⟩ = some (.slice y.D y.m y.d) := hB2.cell 1
  have L1 : w.heap.size + 1 < w1.heap.size := hB2.lt
  have H1 := Lib.hid hb
  clear hb hB1 hB2
  go_wp2_with fail
  refine (kind_ok x y BB w1 (HX.out.below H1.out hBB) (HY.out.below H1.out hBB) (Nat.le_trans hBB H1.out.size) HM.out).mono ?_
  rintro e w2 ⟨rfl, hb⟩
  have e2 := (hb.cell (p := ⟨w.heap.size, 0, none⟩) (show w.heap.size < w1.heap.size by have := L1; omega)).trans e1
  have f2 := (hb.cell (p := ⟨w.heap.size, 1, none⟩) (show w.heap.size < w1.heap.size by have := L1; omega)).trans f1
  have g2 := (hb.cell (p := ⟨w.heap.size + 1, 0, none⟩) L1).trans g1
  have k2 := (hb.cell (p := ⟨w.heap.size + 1, 1, none⟩) L1).trans k1
  have L2 := Nat.lt_of_lt_of_le L1 hb.size
  have H2 := Lib.hid (H1.out.trans (hb.mono H1.out.size))
  clear hb e1 f1 g1 k1
  have HK := Lib.hid (kind_full x.l y.l (tailF x.l x.ss) (tailF y.l y.ss) (headF x.l x.ss) (headF y.l y.ss))
  generalize kindF x.l y.l (tailF x.l x.ss) (tailF y.l y.ss) (headF x.l x.ss) (headF y.l y.ss) = K at *
  go_wp2
  go_ret2
  exact ⟨by rw [← HK.out]; rfl, H2.out⟩
end Go.Proofs.Ytogofchpocoebaa
