/- rhyme.key, Key.
   rhyme.Start, Feminine.
   The tail's first phone; its text read again (no program in sight). -/
import Derived.Test.YtogofchpocoebaaY5
import Derived.Test.YtogofchpocoebaaS2
import Derived.Test.YtogofchpocoebaaP5
namespace Go.Proofs.Ytogofchpocoebaa
open Go.RowKit Go.Maps

theorem own_lower {w : World} {base base' : Nat} {e : TypeId} {size : Nat} {v : Value} {n : Nat} {xs : List Value} (h : w.ownsRow base e size v n xs) (hb : base' ≤ base) : w.ownsRow base' e size v n xs :=
  ⟨h.1, h.2.imp id fun ⟨g, cap, cur, e1, h2, r⟩ => ⟨g, cap, cur, e1, Nat.le_trans hb h2, r⟩⟩
theorem form_parts {l : List Ph} {ss : List Sy} (hf : Form l ss) : (tailF l ss).all isF = true ∧ (headF l ss).all isF = true ∧ (tailF l ss).length ≤ 128 ∧ (headF l ss).length ≤ 128 := by
  have h := List.all_eq_true.1 hf.all
  have hn := hf.n128
  refine ⟨List.all_eq_true.2 fun p hp => h p (List.mem_of_mem_drop hp), List.all_eq_true.2 fun p hp => h p (List.mem_of_mem_drop (List.mem_of_mem_take hp)), ?_, ?_⟩
  · unfold tailF; rw [List.length_drop]; omega
  · unfold headF; rw [List.length_take, List.length_drop]; omega
theorem prS_tail {l : List Ph} {ss : List Sy} (hf : Form l ss) : prS (tailF l ss) = bts (texts (tailF l ss)) ∧ prE (tailF l ss) = 0 := by
  obtain ⟨h1, _, h2, _⟩ := form_parts hf
  have he : prE (tailF l ss) = 0 := by unfold prE; rw [if_neg (by omega), if_pos h1]
  exact ⟨by unfold prS; rw [if_pos he], he⟩

set_option maxHeartbeats 4000000 in
set_option maxRecDepth 100000 in
theorem key_any (x : Sd) (BB : Nat) (w : World) (hx : SdIn w BB x) (hBB : BB ≤ w.heap.size) (hf : Form x.l x.ss) :
    Calls Try.prog 110 #[.agg #[.slice x.A x.n x.c, .slice x.D x.m x.d]] w fun e w' => e = .returned (.string (bts (texts (tailF x.l x.ss)))) ∧ Below w.heap.size w w' := by
  have HX := Lib.hid (And.intro hx hf)
  have hfit := Lib.hid (show ∀ p ∈ tailF x.l x.ss, fitP p from fun p hp => hx.fit p (List.mem_of_mem_drop hp))
  have hlen := (form_parts hf).2.2.1
  clear hx hf
  go_enter Try.func110, Try.ntmps110
  go_upto_region 1 with (fail)
  refine wp_abs (fun wx => Below w.heap.size w wx ∧ Blk wx w.heap.size 25 #[.slice x.A x.n x.c, .slice x.D x.m x.d]) ⟨(Below.refl _ _).alloc (Nat.le_refl _) _, Blk.new _ _ _⟩ ?_
  rintro w1 ⟨hb, hB1⟩
  have c0 : w1.cell? ⟨w.heap.size, 0, none⟩ = some (.slice x.A x.n x.c) := hB1.cell 0
  have c1 : w1.cell? ⟨w.heap.size, 1, none⟩ = some (.slice x.D x.m x.d) := hB1.cell 1
  have H1 := Lib.hid hb
  clear hb hB1
  go_wp2_with fail
  refine (tail_any x BB _ (HX.out.1.below H1.out hBB) (Nat.le_trans hBB H1.out.size) HX.out.2).mono ?_
  rintro e w2 ⟨X, C, rfl, hR, hC, hb⟩
  have H2 := Lib.hid (H1.out.trans (hb.mono H1.out.size))
  clear hb
  go_wp2_with fail
  refine (print_any X _ C 0 (tailF x.l x.ss) w2 (hR.more (Nat.le_refl _) (Nat.le_trans hBB H2.out.size)) hfit.out (by unfold maxLen; omega)).mono ?_
  rintro e w3 ⟨rfl, hb⟩
  rw [(prS_tail HX.out.2).1, (prS_tail HX.out.2).2]
  have H3 := Lib.hid (H2.out.trans (hb.mono H2.out.size))
  clear hb c0 c1
  go_wp2
  go_ret
  exact ⟨rfl, H3.out⟩

theorem mayOne_any (x : Sd) (BB : Nat) (w : World) (hx : SdIn w BB x) (hBB : BB ≤ w.heap.size) :
    Calls Try.prog 106 #[.slice (some ⟨w.heap.size, 0, none⟩) 1 1] (w.alloc (.cells #[.slice x.A x.n x.c, .slice x.D x.m x.d] 25)) fun e w' => e = .returned (.bool (mayB x)) ∧ Below w.heap.size w w' := by
  have hb : Below w.heap.size w (w.alloc (.cells #[.slice x.A x.n x.c, .slice x.D x.m x.d] 25)) := (Below.refl _ _).alloc (Nat.le_refl _) _
  have hB1 : Blk (w.alloc (.cells #[.slice x.A x.n x.c, .slice x.D x.m x.d] 25)) w.heap.size 25 #[.slice x.A x.n x.c, .slice x.D x.m x.d] := Blk.new _ _ _
  have c0 := hB1.cell 0
  have c1 := hB1.cell 1
  refine (mayAll_any (some ⟨w.heap.size, 0, none⟩) 1 1 0 (w.heap.size + 1) BB [x] _ ⟨rfl, fun _ => ⟨w.heap.size, 0, rfl, Nat.zero_le _, Nat.lt_succ_self _, fun j u hu => ?_⟩⟩ hB1.lt (Nat.le_trans hBB hb.size) (fun y hy => by rw [List.mem_singleton] at hy; subst hy; exact hx.below hb hBB) (by unfold maxLen; omega)).mono ?_
  · match j, hu with
    | 0, hu => injection hu with hu; subst hu; exact c0
    | 1, hu => injection hu with hu; subst hu; exact c1
    | j + 2, hu => simp [sdC] at hu
  · rintro e w' ⟨rfl, h⟩
    exact ⟨by simp, hb.trans (h.mono hb.size)⟩

set_option maxHeartbeats 4000000 in
set_option maxRecDepth 100000 in
theorem keyUp_any (x : Sd) (BB : Nat) (w : World) (hx : SdIn w BB x) (hBB : BB ≤ w.heap.size) :
    Calls Try.prog 31 #[.agg #[.slice x.A x.n x.c, .slice x.D x.m x.d]] w fun e w' => e = .returned (if mayB x then .tuple #[.string (bts (texts (tailF x.l x.ss))), .int .i64 0] else .tuple #[.string (bts []), .int .i64 2]) ∧ Below w.heap.size w w' := by
  have HX := Lib.hid hx
  clear hx
  by_cases hm : mayB x = true
  case neg =>
    have hm' : mayB x = false := by simpa using hm
    simp only [hm', Bool.false_eq_true, if_false]
    have HM := Lib.hid hm'
    clear hm hm'
    go_enter Try.func31, Try.ntmps31
    go_upto_region 1 with (fail)
    refine wp_abs (fun wx => Below w.heap.size w wx ∧ Blk wx w.heap.size 25 #[.slice x.A x.n x.c, .slice x.D x.m x.d]) ⟨(Below.refl _ _).alloc (Nat.le_refl _) _, Blk.new _ _ _⟩ ?_
    rintro w1 ⟨hb, hB1⟩
    have c0 : w1.cell? ⟨w.heap.size, 0, none⟩ = some (.slice x.A x.n x.c) := hB1.cell 0
    have c1 : w1.cell? ⟨w.heap.size, 1, none⟩ = some (.slice x.D x.m x.d) := hB1.cell 1
    have H1n : w.heap.size < w1.heap.size := hB1.lt
    have H1 := Lib.hid hb
    clear hb hB1
    go_wp2_with fail
    refine (mayOne_any x BB w1 (HX.out.below H1.out hBB) (Nat.le_trans hBB H1.out.size)).mono ?_
    rintro e w2 ⟨rfl, hb⟩
    have e0 := (hb.cell (p := ⟨w.heap.size, 0, none⟩) H1n).trans c0
    have e1 := (hb.cell (p := ⟨w.heap.size, 1, none⟩) H1n).trans c1
    have H2n := Nat.lt_of_lt_of_le H1n hb.size
    have H2 := Lib.hid (H1.out.trans (hb.mono H1.out.size))
    clear hb c0 c1
    rw [HM.out]
    clear HM
    go_wp2
    go_ret2
    exact ⟨rfl, H2.out⟩
  case pos =>
    simp only [hm, if_true]
    have HF := Lib.hid (form_of (by have := hm; unfold mayB at this; exact eq_of_beq this))
    have HM := Lib.hid hm
    clear hm
    go_enter Try.func31, Try.ntmps31
    go_upto_region 1 with (fail)
    refine wp_abs (fun wx => Below w.heap.size w wx ∧ Blk wx w.heap.size 25 #[.slice x.A x.n x.c, .slice x.D x.m x.d]) ⟨(Below.refl _ _).alloc (Nat.le_refl _) _, Blk.new _ _ _⟩ ?_
    rintro w1 ⟨hb, hB1⟩
    have c0 : w1.cell? ⟨w.heap.size, 0, none⟩ = some (.slice x.A x.n x.c) := hB1.cell 0
    have c1 : w1.cell? ⟨w.heap.size, 1, none⟩ = some (.slice x.D x.m x.d) := hB1.cell 1
    have H1n : w.heap.size < w1.heap.size := hB1.lt
    have H1 := Lib.hid hb
    clear hb hB1
    go_wp2_with fail
    refine (mayOne_any x BB w1 (HX.out.below H1.out hBB) (Nat.le_trans hBB H1.out.size)).mono ?_
    rintro e w2 ⟨rfl, hb⟩
    have e0 := (hb.cell (p := ⟨w.heap.size, 0, none⟩) H1n).trans c0
    have e1 := (hb.cell (p := ⟨w.heap.size, 1, none⟩) H1n).trans c1
    have H2n := Nat.lt_of_lt_of_le H1n hb.size
    have H2 := Lib.hid (H1.out.trans (hb.mono H1.out.size))
    clear hb c0 c1
    rw [HM.out]
    clear HM
    go_wp2_with fail
    refine (key_any x BB w2 (HX.out.below H2.out hBB) (Nat.le_trans hBB H2.out.size) HF.out).mono ?_
    rintro e w3 ⟨rfl, hb⟩
    have H3 := Lib.hid (H2.out.trans (hb.mono H2.out.size))
    clear hb e0 e1
    go_wp2
    go_ret2
    exact ⟨rfl, H3.out⟩

set_option maxHeartbeats 4000000 in
set_option maxRecDepth 100000 in
theorem tailUp_any (x : Sd) (BB : Nat) (w : World) (hx : SdIn w BB x) (hBB : BB ≤ w.heap.size) :
    Calls Try.prog 29 #[.agg #[.slice x.A x.n x.c, .slice x.D x.m x.d]] w fun e w' => ∃ X C, e = .returned (if mayB x then .tuple #[.slice X (tailF x.l x.ss).length C, .int .i64 0] else .tuple #[.slice none 0 0, .int .i64 2]) ∧ (mayB x = true → w'.ownsRow w.heap.size 43 3 (.slice X (tailF x.l x.ss).length C) (tailF x.l x.ss).length (phs (tailF x.l x.ss))) ∧ Below w.heap.size w w' := by
  have HX := Lib.hid hx
  clear hx
  by_cases hm : mayB x = true
  case neg =>
    have hm' : mayB x = false := by simpa using hm
    simp only [hm', Bool.false_eq_true, if_false]
    have HM := Lib.hid hm'
    clear hm hm'
    go_enter Try.func29, Try.ntmps29
    go_upto_region 1 with (fail)
    refine wp_abs (fun wx => Below w.heap.size w wx ∧ Blk wx w.heap.size 25 #[.slice x.A x.n x.c, .slice x.D x.m x.d]) ⟨(Below.refl _ _).alloc (Nat.le_refl _) _, Blk.new _ _ _⟩ ?_
    rintro w1 ⟨hb, hB1⟩
    have c0 : w1.cell? ⟨w.heap.size, 0, none⟩ = some (.slice x.A x.n x.c) := hB1.cell 0
    have c1 : w1.cell? ⟨w.heap.size, 1, none⟩ = some (.slice x.D x.m x.d) := hB1.cell 1
    have H1n : w.heap.size < w1.heap.size := hB1.lt
    have H1 := Lib.hid hb
    clear hb hB1
    go_wp2_with fail
    refine (mayOne_any x BB w1 (HX.out.below H1.out hBB) (Nat.le_trans hBB H1.out.size)).mono ?_
    rintro e w2 ⟨rfl, hb⟩
    have e0 := (hb.cell (p := ⟨w.heap.size, 0, none⟩) H1n).trans c0
    have e1 := (hb.cell (p := ⟨w.heap.size, 1, none⟩) H1n).trans c1
    have H2n := Nat.lt_of_lt_of_le H1n hb.size
    have H2 := Lib.hid (H1.out.trans (hb.mono H1.out.size))
    clear hb c0 c1
    rw [HM.out]
    clear HM
    go_wp2
    go_ret2
    exact ⟨none, 0, rfl, fun h => by simp at h, H2.out⟩
  case pos =>
    simp only [hm, if_true]
    have HF := Lib.hid (form_of (by have := hm; unfold mayB at this; exact eq_of_beq this))
    have HM := Lib.hid hm
    clear hm
    go_enter Try.func29, Try.ntmps29
    go_upto_region 1 with (fail)
    refine wp_abs (fun wx => Below w.heap.size w wx ∧ Blk wx w.heap.size 25 #[.slice x.A x.n x.c, .slice x.D x.m x.d]) ⟨(Below.refl _ _).alloc (Nat.le_refl _) _, Blk.new _ _ _⟩ ?_
    rintro w1 ⟨hb, hB1⟩
    have c0 : w1.cell? ⟨w.heap.size, 0, none⟩ = some (.slice x.A x.n x.c) := hB1.cell 0
    have c1 : w1.cell? ⟨w.heap.size, 1, none⟩ = some (.slice x.D x.m x.d) := hB1.cell 1
    have H1n : w.heap.size < w1.heap.size := hB1.lt
    have H1 := Lib.hid hb
    clear hb hB1
    go_wp2_with fail
    refine (mayOne_any x BB w1 (HX.out.below H1.out hBB) (Nat.le_trans hBB H1.out.size)).mono ?_
    rintro e w2 ⟨rfl, hb⟩
    have e0 := (hb.cell (p := ⟨w.heap.size, 0, none⟩) H1n).trans c0
    have e1 := (hb.cell (p := ⟨w.heap.size, 1, none⟩) H1n).trans c1
    have H2n := Nat.lt_of_lt_of_le H1n hb.size
    have H2 := Lib.hid (H1.out.trans (hb.mono H1.out.size))
    clear hb c0 c1
    rw [HM.out]
    clear HM
    have hlen := (form_parts HF.out).2.2.1
    go_wp2_with fail
    refine (tail_any x BB w2 (HX.out.below H2.out hBB) (Nat.le_trans hBB H2.out.size) HF.out).mono ?_
    rintro e w3 ⟨X, C, rfl, hR, hC, hb⟩
    have H3 := Lib.hid (H2.out.trans (hb.mono H2.out.size))
    clear hb e0 e1
    go_wp2_with fail
    refine (cloneH_any X _ C 0 BB (tailF x.l x.ss) w3 hR (by omega)).mono ?_
    rintro e w4 ⟨A', C', rfl, ho, hb⟩
    have HO := Lib.hid (own_lower ho H3.out.size)
    have H4 := Lib.hid (H3.out.trans (hb.mono H3.out.size))
    clear hb ho
    go_wp2
    go_ret2
    exact ⟨A', C', rfl, fun _ => HO.out, H4.out⟩
set_option maxHeartbeats 4000000 in
set_option maxRecDepth 100000 in
theorem headUp_any (x : Sd) (BB : Nat) (w : World) (hx : SdIn w BB x) (hBB : BB ≤ w.heap.size) :
    Calls Try.prog 30 #[.agg #[.slice x.A x.n x.c, .slice x.D x.m x.d]] w fun e w' => ∃ X C, e = .returned (if mayB x then .tuple #[.slice X (headF x.l x.ss).length C, .int .i64 0] else .tuple #[.slice none 0 0, .int .i64 2]) ∧ (mayB x = true → w'.ownsRow w.heap.size 43 3 (.slice X (headF x.l x.ss).length C) (headF x.l x.ss).length (phs (headF x.l x.ss))) ∧ Below w.heap.size w w' := by
  have HX := Lib.hid hx
  clear hx
  by_cases hm : mayB x = true
  case neg =>
    have hm' : mayB x = false := by simpa using hm
    simp only [hm', Bool.false_eq_true, if_false]
    have HM := Lib.hid hm'
    clear hm hm'
    go_enter Try.func30, Try.ntmps30
    go_upto_region 1 with (fail)
    refine wp_abs (fun wx => Below w.heap.size w wx ∧ Blk wx w.heap.size 25 #[.slice x.A x.n x.c, .slice x.D x.m x.d]) ⟨(Below.refl _ _).alloc (Nat.le_refl _) _, Blk.new _ _ _⟩ ?_
    rintro w1 ⟨hb, hB1⟩
    have c0 : w1.cell? ⟨w.heap.size, 0, none⟩ = some (.slice x.A x.n x.c) := hB1.cell 0
    have c1 : w1.cell? ⟨w.heap.size, 1, none⟩ = some (.slice x.D x.m x.d) := hB1.cell 1
    have H1n : w.heap.size < w1.heap.size := hB1.lt
    have H1 := Lib.hid hb
    clear hb hB1
    go_wp2_with fail
    refine (mayOne_any x BB w1 (HX.out.below H1.out hBB) (Nat.le_trans hBB H1.out.size)).mono ?_
    rintro e w2 ⟨rfl, hb⟩
    have e0 := (hb.cell (p := ⟨w.heap.size, 0, none⟩) H1n).trans c0
    have e1 := (hb.cell (p := ⟨w.heap.size, 1, none⟩) H1n).trans c1
    have H2n := Nat.lt_of_lt_of_le H1n hb.size
    have H2 := Lib.hid (H1.out.trans (hb.mono H1.out.size))
    clear hb c0 c1
    rw [HM.out]
    clear HM
    go_wp2
    go_ret2
    exact ⟨none, 0, rfl, fun h => by simp at h, H2.out⟩
  case pos =>
    simp only [hm, if_true]
    have HF := Lib.hid (form_of (by have := hm; unfold mayB at this; exact eq_of_beq this))
    have HM := Lib.hid hm
    clear hm
    go_enter Try.func30, Try.ntmps30
    go_upto_region 1 with (fail)
    refine wp_abs (fun wx => Below w.heap.size w wx ∧ Blk wx w.heap.size 25 #[.slice x.A x.n x.c, .slice x.D x.m x.d]) ⟨(Below.refl _ _).alloc (Nat.le_refl _) _, Blk.new _ _ _⟩ ?_
    rintro w1 ⟨hb, hB1⟩
    have c0 : w1.cell? ⟨w.heap.size, 0, none⟩ = some (.slice x.A x.n x.c) := hB1.cell 0
    have c1 : w1.cell? ⟨w.heap.size, 1, none⟩ = some (.slice x.D x.m x.d) := hB1.cell 1
    have H1n : w.heap.size < w1.heap.size := hB1.lt
    have H1 := Lib.hid hb
    clear hb hB1
    go_wp2_with fail
    refine (mayOne_any x BB w1 (HX.out.below H1.out hBB) (Nat.le_trans hBB H1.out.size)).mono ?_
    rintro e w2 ⟨rfl, hb⟩
    have e0 := (hb.cell (p := ⟨w.heap.size, 0, none⟩) H1n).trans c0
    have e1 := (hb.cell (p := ⟨w.heap.size, 1, none⟩) H1n).trans c1
    have H2n := Nat.lt_of_lt_of_le H1n hb.size
    have H2 := Lib.hid (H1.out.trans (hb.mono H1.out.size))
    clear hb c0 c1
    rw [HM.out]
    clear HM
    have hlen := (form_parts HF.out).2.2.2
    go_wp2_with fail
    refine (head_any x BB w2 (HX.out.below H2.out hBB) (Nat.le_trans hBB H2.out.size) HF.out).mono ?_
    rintro e w3 ⟨X, C, rfl, hR, hC, hb⟩
    have H3 := Lib.hid (H2.out.trans (hb.mono H2.out.size))
    clear hb e0 e1
    go_wp2_with fail
    refine (cloneH_any X _ C 0 BB (headF x.l x.ss) w3 hR (by omega)).mono ?_
    rintro e w4 ⟨A', C', rfl, ho, hb⟩
    have HO := Lib.hid (own_lower ho H3.out.size)
    have H4 := Lib.hid (H3.out.trans (hb.mono H3.out.size))
    clear hb ho
    go_wp2
    go_ret2
    exact ⟨A', C', rfl, fun _ => HO.out, H4.out⟩

end Go.Proofs.Ytogofchpocoebaa

namespace Go.Proofs.Ytogofchpocoebaa
open Go.RowKit Go.Maps

set_option maxHeartbeats 4000000 in
set_option maxRecDepth 100000 in
theorem startUp_any (x : Sd) (BB : Nat) (w : World) (hx : SdIn w BB x) (hBB : BB ≤ w.heap.size) :
    Calls Try.prog 28 #[.agg #[.slice x.A x.n x.c, .slice x.D x.m x.d]] w fun e w' => e = .returned (if mayB x then .tuple #[.int .i64 (lastS x.ss).nu, .int .i64 0] else .tuple #[.int .i64 0, .int .i64 2]) ∧ Below w.heap.size w w' := by
  have HX := Lib.hid hx
  clear hx
  by_cases hm : mayB x = true
  case neg =>
    have hm' : mayB x = false := by simpa using hm
    simp only [hm', Bool.false_eq_true, if_false]
    have HM := Lib.hid hm'
    clear hm hm'
    go_enter Try.func28, Try.ntmps28
    go_upto_region 1 with (fail)
    refine wp_abs (fun wx => Below w.heap.size w wx ∧ Blk wx w.heap.size 25 #[.slice x.A x.n x.c, .slice x.D x.m x.d]) ⟨(Below.refl _ _).alloc (Nat.le_refl _) _, Blk.new _ _ _⟩ ?_
    rintro w1 ⟨hb, hB1⟩
    have c0 : w1.cell? ⟨w.heap.size, 0, none⟩ = some (.slice x.A x.n x.c) := hB1.cell 0
    have c1 : w1.cell? ⟨w.heap.size, 1, none⟩ = some (.slice x.D x.m x.d) := hB1.cell 1
    have H1n : w.heap.size < w1.heap.size := hB1.lt
    have H1 := Lib.hid hb
    clear hb hB1
    go_wp2_with fail
    refine (mayOne_any x BB w1 (HX.out.below H1.out hBB) (Nat.le_trans hBB H1.out.size)).mono ?_
    rintro e w2 ⟨rfl, hb⟩
    have e0 := (hb.cell (p := ⟨w.heap.size, 0, none⟩) H1n).trans c0
    have e1 := (hb.cell (p := ⟨w.heap.size, 1, none⟩) H1n).trans c1
    have H2n := Nat.lt_of_lt_of_le H1n hb.size
    have H2 := Lib.hid (H1.out.trans (hb.mono H1.out.size))
    clear hb c0 c1
    rw [HM.out]
    clear HM
    go_wp2
    go_ret2
    exact ⟨rfl, H2.out⟩
  case pos =>
    simp only [hm, if_true]
    have HF := Lib.hid (form_of (by have := hm; unfold mayB at this; exact eq_of_beq this))
    have HM := Lib.hid hm
    clear hm
    obtain ⟨q1, q2, q3, q4⟩ := HF.out.last
    have eM := HX.out.sy.len_sy
    have hm64 : x.m ≤ 64 := by have := HF.out.m64; omega
    have hl128 := HF.out.n128
    obtain ⟨i, hi⟩ : ∃ i, i = lastF x.ss := ⟨_, rfl⟩
    have him : i < x.m := by have := lastF_lt HF.out.pos; omega
    obtain ⟨nu, hnu⟩ : ∃ k : Nat, (lastS x.ss).nu = k := ⟨(lastS x.ss).nu.toNat, by omega⟩
    have hls0 : i < x.ss.length := by have := HX.out.sy.len_sy; omega
    have hls : lastS x.ss = x.ss[i] := by unfold lastS; rw [← hi, List.getD_eq_getElem?_getD, List.getElem?_eq_getElem hls0]; rfl
    have hnu2 : x.ss[i].nu = (nu : Int) := by rw [← hls]; exact hnu
    rw [hnu]
    go_enter Try.func28, Try.ntmps28
    go_upto_region 1 with (fail)
    refine wp_abs (fun wx => Below w.heap.size w wx ∧ Blk wx w.heap.size 25 #[.slice x.A x.n x.c, .slice x.D x.m x.d]) ⟨(Below.refl _ _).alloc (Nat.le_refl _) _, Blk.new _ _ _⟩ ?_
    rintro w1 ⟨hb, hB1⟩
    have c0 : w1.cell? ⟨w.heap.size, 0, none⟩ = some (.slice x.A x.n x.c) := hB1.cell 0
    have c1 : w1.cell? ⟨w.heap.size, 1, none⟩ = some (.slice x.D x.m x.d) := hB1.cell 1
    have H1n : w.heap.size < w1.heap.size := hB1.lt
    have H1 := Lib.hid hb
    clear hb hB1
    go_wp2_with fail
    refine (mayOne_any x BB w1 (HX.out.below H1.out hBB) (Nat.le_trans hBB H1.out.size)).mono ?_
    rintro e w2 ⟨rfl, hb⟩
    have e0 := (hb.cell (p := ⟨w.heap.size, 0, none⟩) H1n).trans c0
    have e1 := (hb.cell (p := ⟨w.heap.size, 1, none⟩) H1n).trans c1
    have H2n := Nat.lt_of_lt_of_le H1n hb.size
    have H2 := Lib.hid (H1.out.trans (hb.mono H1.out.size))
    clear hb c0 c1
    rw [HM.out]
    clear HM
    have hX2 := HX.out.below H2.out hBB
    obtain ⟨b, o, hl, eD, _, hlt, y0, y1, y2, y3, y4⟩ := hX2.sy.sy (k := i) him
    rw [hnu2] at y1
    have HLAST := Lib.hid (fun (W : World) (hb : Below w2.heap.size w2 W) => last_any x.A x.n x.c x.D x.m x.d 0 BB x.ss W (hX2.sy.below hb (Nat.le_trans hBB H2.out.size)) (Nat.le_trans (Nat.le_trans hBB H2.out.size) hb.size) (by omega) hm64)
    rw [← hi] at HLAST
    clear y0 y2 y3 y4 hls hnu2 hX2 hi hnu q1 q2 q3 q4
    rw [eD] at e1 HLAST ⊢
    have i1 : (0 : Int) ≤ (i : Int) := by omega
    have i2 : (i : Int) < (x.m : Int) := by omega
    have wf : ∀ k, Fence.wide.fn k := fun _ => trivial
    have wd : Fence.wide.depth = none := rfl
    go_wp2
    have Xe0 := Bel.cell e0
    have Xe1 := Bel.cell e1
    have Xy1 := Bel.cell y1
    clear e0 e1 y1
    refine wp_bel (by kernel_rfl) (by kernel_rfl) ?_
    repeat (gi_big_quiet_step (fail))
    gi_big_quiet_want
    gi_big_quiet_op
    refine ⟨.int .i64 (i : Int), fun z => ?_, ?_⟩
    · exact callsIn_wide.2 ((HLAST.out z.1 z.2).mono (fun e w' h => ⟨h.1, z.next h.2⟩))
    go_big_quiet_on
    repeat (gi_big_quiet_step (fail))
    refine wpQuietIn_nil ?_
    intro _ hw'
    obtain ⟨xW, hw''⟩ := hw'
    subst hw''
    have HZ := Lib.hid (H2.out.trans (xW.2.mono H2.out.size))
    go_wp2
    go_ret2
    exact ⟨rfl, HZ.out⟩

set_option maxHeartbeats 4000000 in
set_option maxRecDepth 100000 in
theorem femUp_any (x : Sd) (BB : Nat) (w : World) (hx : SdIn w BB x) (hBB : BB ≤ w.heap.size) :
    Calls Try.prog 32 #[.agg #[.slice x.A x.n x.c, .slice x.D x.m x.d]] w fun e w' => e = .returned (if mayB x then .tuple #[.int .i64 ((x.ss.length : Int) - 1 - (lastF x.ss : Int)), .int .i64 0] else .tuple #[.int .i64 0, .int .i64 2]) ∧ Below w.heap.size w w' := by
  have HX := Lib.hid hx
  clear hx
  by_cases hm : mayB x = true
  case neg =>
    have hm' : mayB x = false := by simpa using hm
    simp only [hm', Bool.false_eq_true, if_false]
    have HM := Lib.hid hm'
    clear hm hm'
    go_enter Try.func32, Try.ntmps32
    go_upto_region 1 with (fail)
    refine wp_abs (fun wx => Below w.heap.size w wx ∧ Blk wx w.heap.size 25 #[.slice x.A x.n x.c, .slice x.D x.m x.d]) ⟨(Below.refl _ _).alloc (Nat.le_refl _) _, Blk.new _ _ _⟩ ?_
    rintro w1 ⟨hb, hB1⟩
    have c0 : w1.cell? ⟨w.heap.size, 0, none⟩ = some (.slice x.A x.n x.c) := hB1.cell 0
    have c1 : w1.cell? ⟨w.heap.size, 1, none⟩ = some (.slice x.D x.m x.d) := hB1.cell 1
    have H1n : w.heap.size < w1.heap.size := hB1.lt
    have H1 := Lib.hid hb
    clear hb hB1
    go_wp2_with fail
    refine (mayOne_any x BB w1 (HX.out.below H1.out hBB) (Nat.le_trans hBB H1.out.size)).mono ?_
    rintro e w2 ⟨rfl, hb⟩
    have e0 := (hb.cell (p := ⟨w.heap.size, 0, none⟩) H1n).trans c0
    have e1 := (hb.cell (p := ⟨w.heap.size, 1, none⟩) H1n).trans c1
    have H2n := Nat.lt_of_lt_of_le H1n hb.size
    have H2 := Lib.hid (H1.out.trans (hb.mono H1.out.size))
    clear hb c0 c1
    rw [HM.out]
    clear HM
    go_wp2
    go_ret2
    exact ⟨rfl, H2.out⟩
  case pos =>
    simp only [hm, if_true]
    have HF := Lib.hid (form_of (by have := hm; unfold mayB at this; exact eq_of_beq this))
    have HM := Lib.hid hm
    clear hm
    obtain ⟨q1, q2, q3, q4⟩ := HF.out.last
    have eM := HX.out.sy.len_sy
    have hm64 : x.m ≤ 64 := by have := HF.out.m64; omega
    have hl128 := HF.out.n128
    obtain ⟨i, hi⟩ : ∃ i, i = lastF x.ss := ⟨_, rfl⟩
    have him : i < x.m := by have := lastF_lt HF.out.pos; omega
    obtain ⟨nu, hnu⟩ : ∃ k : Nat, (lastS x.ss).nu = k := ⟨(lastS x.ss).nu.toNat, by omega⟩
    have hls0 : i < x.ss.length := by have := HX.out.sy.len_sy; omega
    have hls : lastS x.ss = x.ss[i] := by unfold lastS; rw [← hi, List.getD_eq_getElem?_getD, List.getElem?_eq_getElem hls0]; rfl
    have hnu2 : x.ss[i].nu = (nu : Int) := by rw [← hls]; exact hnu
    rw [eM, ← hi]
    go_enter Try.func32, Try.ntmps32
    go_upto_region 1 with (fail)
    refine wp_abs (fun wx => Below w.heap.size w wx ∧ Blk wx w.heap.size 25 #[.slice x.A x.n x.c, .slice x.D x.m x.d]) ⟨(Below.refl _ _).alloc (Nat.le_refl _) _, Blk.new _ _ _⟩ ?_
    rintro w1 ⟨hb, hB1⟩
    have c0 : w1.cell? ⟨w.heap.size, 0, none⟩ = some (.slice x.A x.n x.c) := hB1.cell 0
    have c1 : w1.cell? ⟨w.heap.size, 1, none⟩ = some (.slice x.D x.m x.d) := hB1.cell 1
    have H1n : w.heap.size < w1.heap.size := hB1.lt
    have H1 := Lib.hid hb
    clear hb hB1
    go_wp2_with fail
    refine (mayOne_any x BB w1 (HX.out.below H1.out hBB) (Nat.le_trans hBB H1.out.size)).mono ?_
    rintro e w2 ⟨rfl, hb⟩
    have e0 := (hb.cell (p := ⟨w.heap.size, 0, none⟩) H1n).trans c0
    have e1 := (hb.cell (p := ⟨w.heap.size, 1, none⟩) H1n).trans c1
    have H2n := Nat.lt_of_lt_of_le H1n hb.size
    have H2 := Lib.hid (H1.out.trans (hb.mono H1.out.size))
    clear hb c0 c1
    rw [HM.out]
    clear HM
    have hX2 := HX.out.below H2.out hBB
    obtain ⟨b, o, hl, eD, _, hlt, y0, y1, y2, y3, y4⟩ := hX2.sy.sy (k := i) him
    rw [hnu2] at y1
    have HLAST := Lib.hid (fun (W : World) (hb : Below w2.heap.size w2 W) => last_any x.A x.n x.c x.D x.m x.d 0 BB x.ss W (hX2.sy.below hb (Nat.le_trans hBB H2.out.size)) (Nat.le_trans (Nat.le_trans hBB H2.out.size) hb.size) (by omega) hm64)
    rw [← hi] at HLAST
    clear y0 y2 y3 y4 hls hnu2 hX2 hi hnu q1 q2 q3 q4
    rw [eD] at e1 HLAST ⊢
    have i1 : (0 : Int) ≤ (i : Int) := by omega
    have i2 : (i : Int) < (x.m : Int) := by omega
    have i3 : IntKind.i64.wrap ((x.m : Int) - 1) = (x.m : Int) - 1 := IntWalk.i64_in _ (by omega)
    have i4 : IntKind.i64.wrap ((x.m : Int) - 1 - (i : Int)) = (x.m : Int) - 1 - (i : Int) := IntWalk.i64_in _ (by omega)
    have wf : ∀ k, Fence.wide.fn k := fun _ => trivial
    have wd : Fence.wide.depth = none := rfl
    go_wp2
    have Xe0 := Bel.cell e0
    have Xe1 := Bel.cell e1
    have Xy1 := Bel.cell y1
    clear e0 e1 y1
    refine wp_bel (by kernel_rfl) (by kernel_rfl) ?_
    repeat (gi_big_quiet_step (fail))
    gi_big_quiet_want
    gi_big_quiet_op
    refine ⟨.int .i64 (i : Int), fun z => ?_, ?_⟩
    · exact callsIn_wide.2 ((HLAST.out z.1 z.2).mono (fun e w' h => ⟨h.1, z.next h.2⟩))
    go_big_quiet_on
    repeat (gi_big_quiet_step (fail))
    refine wpQuietIn_nil ?_
    intro _ hw'
    obtain ⟨xW, hw''⟩ := hw'
    subst hw''
    have HZ := Lib.hid (H2.out.trans (xW.2.mono H2.out.size))
    go_wp2
    go_ret2
    exact ⟨rfl, HZ.out⟩
end Go.Proofs.Ytogofchpocoebaa

namespace Go.Proofs.Ytogofchpocoebaa

theorem vbad_nu {l : List Ph} {nu : Nat} : ∀ {n k : Nat}, vbad l nu k n = false → k ≤ nu → nu < k + n → vowF (l.getD nu ph0) = true := by
  intro n
  induction n with
  | zero => intro k _ h1 h2; omega
  | succ n ih =>
    intro k h h1 h2
    unfold vbad at h
    simp only [Bool.or_eq_false_iff] at h
    by_cases e : k = nu
    · subst e
      have := h.1
      simpa using this
    · exact ih h.2 (by omega) (by omega)
theorem mayGo_vow {l : List Ph} : ∀ {ss : List Sy} {f : Nat}, mayGo l ss f = 0 → ∀ s ∈ ss, vowF (l.getD s.nu.toNat ph0) = true := by
  intro ss
  induction ss with
  | nil => intro f _ s hs; simp at hs
  | cons s r ih =>
    intro f h x hx
    unfold mayGo at h
    split at h
    · rename_i he
      rcases List.mem_cons.1 hx with rfl | hx
      · obtain ⟨q1, q2, q3, q4, q5, _⟩ := one_ok he
        exact vbad_nu q5 (by omega) (by omega)
      · exact ih h x hx
    · rename_i he
      exact absurd h he
theorem may_go {l : List Ph} {ss : List Sy} (h : mayF l ss = 0) : mayGo l ss 0 = 0 := by
  unfold mayF at h
  split at h
  · cases h
  · split at h
    · split at h
      · cases h
      · exact h
    · cases h
/-- the tail begins with a vowel -/
theorem tail_vow {l : List Ph} {ss : List Sy} (h : mayF l ss = 0) : ∃ p r, tailF l ss = p :: r ∧ vowF p = true ∧ isF p = true := by
  have hf := form_of h
  obtain ⟨q1, q2, q3, q4⟩ := hf.last
  have hv := mayGo_vow (may_go h) _ (lastS_mem hf.pos)
  have hlt : (lastS ss).nu.toNat < l.length := by omega
  unfold tailF
  rw [List.drop_eq_getElem_cons hlt]
  rw [List.getD_eq_getElem?_getD, List.getElem?_eq_getElem hlt] at hv
  exact ⟨_, _, rfl, hv, List.all_eq_true.1 hf.all _ (List.getElem_mem hlt)⟩
theorem tail_read {l : List Ph} {ss : List Sy} (h : mayF l ss = 0) : readL (texts (tailF l ss)) = (tailF l ss, 0, 0) := by
  obtain ⟨h1, _, h2, _⟩ := form_parts (form_of h)
  exact read_texts h1 h2
/-- the rune with which the tail's text begins -/
theorem text_head {p : Ph} {r : List Ph} (h : isF p = true) : (Utf8.decode (bts (texts (p :: r))) 0).1 = p.1.toNat ∧ 0 ≤ p.1 ∧ p.1 < 2048 ∧ 0 < (texts (p :: r)).length := by
  have ht := (isF_tab h).1
  obtain ⟨h0, h1⟩ := tab_small ht
  have e : texts (p :: r) = encL p.1 ++ ((if p.2.1 then longL else []) ++ (if p.2.2 = 0 then [] else encL p.2.2 ++ glideL) ++ texts r) := by
    simp [texts, textP, List.append_assoc]
  obtain ⟨h2, h3⟩ := pre_dec (texts (p :: r)) p.1 h0 h1 (by rw [e]; exact List.prefix_append _ _)
  exact ⟨by rw [h2], h0, h1, List.length_pos_iff.2 h3⟩
/-- what Each gives of a tail's text -/
theorem ev_tail {ps : List Ph} (h : ps.all isF = true) : (evL (texts ps)).1.map (·.1) = ps := by
  have := ev_texts ps [] ((texts ps).length + 1) h (by have := texts_ge ps h; omega)
  exact this.1
/-- the vowels of a row, or its consonants -/
def onlyF (v : Bool) (l : List Ph) : List Ph := l.filter fun p => vowF p == v
theorem only_snoc (v : Bool) (l : List Ph) (p : Ph) : onlyF v (l ++ [p]) = onlyF v l ++ (if vowF p == v then [p] else []) := by
  unfold onlyF
  rw [List.filter_append]
  congr 1
  cases h : vowF p == v <;> simp [h]
/-- how two forms go together -/
def kindF (a b : List Ph) (ta tb ha hb : List Ph) : Int :=
  if ta = tb then if a = b then 5 else if ha = hb then 4 else 3
  else if onlyF true ta = onlyF true tb then 2 else if 0 < (onlyF false ta).length ∧ onlyF false ta = onlyF false tb then 1 else 0
theorem kind_comm (a b ta tb ha hb : List Ph) : kindF a b ta tb ha hb = kindF b a tb ta hb ha := by
  unfold kindF
  have e1 : (ta = tb) = (tb = ta) := propext ⟨Eq.symm, Eq.symm⟩
  have e2 : (a = b) = (b = a) := propext ⟨Eq.symm, Eq.symm⟩
  have e3 : (ha = hb) = (hb = ha) := propext ⟨Eq.symm, Eq.symm⟩
  have e4 : (onlyF true ta = onlyF true tb) = (onlyF true tb = onlyF true ta) := propext ⟨Eq.symm, Eq.symm⟩
  have e5 : (0 < (onlyF false ta).length ∧ onlyF false ta = onlyF false tb) = (0 < (onlyF false tb).length ∧ onlyF false tb = onlyF false ta) :=
    propext ⟨fun h => ⟨by rw [← h.2]; exact h.1, h.2.symm⟩, fun h => ⟨by rw [← h.2]; exact h.1, h.2.symm⟩⟩
  simp only [e1, e2, e3, e4, e5]
end Go.Proofs.Ytogofchpocoebaa
