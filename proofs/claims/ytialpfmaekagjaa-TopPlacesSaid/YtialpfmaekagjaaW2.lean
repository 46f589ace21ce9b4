/- word: the scanner's steps, where the units are letters, blanks, dashes, quotes and points. -/
import Derived.Test.YtialpfmaekagjaaW1
namespace Go.Proofs.Ytialpfmaekagjaa
open Go.RowKit
attribute [local go_sem] Oper.semAt_some

def jointF (r : Int) : Bool := r == 39 || r == 8217 || r == 45 || r == 8208
set_option maxHeartbeats 2000000 in
theorem joint_any (p : Pc) (w : World) : Calls Try.prog 52 #[uV p] w fun e w' => e = .returned (.bool (jointF p.2.2.1)) ∧ Below w.heap.size w w' := by
  have HV := Lib.hid (show jointF p.2.2.1 = (p.2.2.1 == 39 || p.2.2.1 == 8217 || p.2.2.1 == 45 || p.2.2.1 == 8208) from rfl)
  rw [show uV p = .agg #[.int .i64 (kd p), .int .i32 p.2.2.1, .int .i64 p.1, .int .i64 (p.1 + p.2.1), .bool true] from rfl]
  generalize p.2.2.1 = r at *
  go_enter Try.func52, Try.ntmps52
  cases h1 : (r == 39) with
  | true =>
    rw [h1] at HV
    go_wp2
    go_ret
    exact ⟨by rw [HV.out]; rfl, (Below.refl _ _).alloc (Nat.le_refl _) _⟩
  | false =>
    cases h2 : (r == 8217) with
    | true =>
      rw [h1, h2] at HV
      go_wp2
      go_ret
      exact ⟨by rw [HV.out]; rfl, (Below.refl _ _).alloc (Nat.le_refl _) _⟩
    | false =>
      cases h3 : (r == 45) with
      | true =>
        rw [h1, h2, h3] at HV
        go_wp2
        go_ret
        exact ⟨by rw [HV.out]; rfl, (Below.refl _ _).alloc (Nat.le_refl _) _⟩
      | false =>
        cases h4 : (r == 8208) with
        | true =>
          rw [h1, h2, h3, h4] at HV
          go_wp2
          go_ret
          exact ⟨by rw [HV.out]; rfl, (Below.refl _ _).alloc (Nat.le_refl _) _⟩
        | false =>
          rw [h1, h2, h3, h4] at HV
          go_wp2
          go_ret
          exact ⟨by rw [HV.out]; rfl, (Below.refl _ _).alloc (Nat.le_refl _) _⟩

/-- the scanner: its state; the open token: kind, from, to; what is held -/
structure Sc where
  st : Int
  tk : Int
  tf : Int
  tt : Int
  hd : Option Pc
def heldC : Option Pc → Array Value := uC
def scC (s : Sc) : Array Value := #[.int .i64 s.st, .int .i64 s.tk, .int .i64 s.tf, .int .i64 s.tt] ++ uC s.hd
def fitF (s : Sc) (p : Pc) : Int × Sc :=
  if s.st == 1 || s.st == 2 then (if kd p == 1 then (1, { s with st := 1 }) else if s.st == 1 && jointF p.2.2.1 then (2, { s with st := 2, hd := some p }) else (0, s))
  else if s.st == 5 then (if kd p == 5 then (1, s) else (0, s)) else (0, s)
def okSt (s : Sc) : Bool := s.st == 0 || s.st == 1 || s.st == 2 || s.st == 5 || s.st == 9
theorem okSt_of {s : Sc} (h : okSt s = true) : s.st = 0 ∨ s.st = 1 ∨ s.st = 2 ∨ s.st = 5 ∨ s.st = 9 := by
  unfold okSt at h
  simp only [Bool.or_eq_true, beq_iff_eq] at h
  omega

theorem scC_held (s : Sc) : ∃ a b c d e, scC s = #[.int .i64 s.st, .int .i64 s.tk, .int .i64 s.tf, .int .i64 s.tt, .int .i64 a, .int .i32 b, .int .i64 c, .int .i64 d, .bool e] ∧ uC s.hd = #[.int .i64 a, .int .i32 b, .int .i64 c, .int .i64 d, .bool e] := by
  cases h : s.hd with
  | none => exact ⟨0, 0, 0, 0, false, by unfold scC; rw [h]; rfl, rfl⟩
  | some p => exact ⟨kd p, p.2.2.1, p.1, p.1 + p.2.1, true, by unfold scC; rw [h]; rfl, rfl⟩

theorem scC_st (s : Sc) {a b c d : Int} {e : Bool} (h : uC s.hd = #[.int .i64 a, .int .i32 b, .int .i64 c, .int .i64 d, .bool e]) {x : Int} : scC { s with st := x } = #[.int .i64 x, .int .i64 s.tk, .int .i64 s.tf, .int .i64 s.tt, .int .i64 a, .int .i32 b, .int .i64 c, .int .i64 d, .bool e] := by
  unfold scC
  dsimp only
  rw [h]
  rfl

theorem sc_hold (s : Sc) (p : Pc) (a b c d : Int) (e : Bool) : (((((((#[.int .i64 s.st, .int .i64 s.tk, .int .i64 s.tf, .int .i64 s.tt, .int .i64 a, .int .i32 b, .int .i64 c, .int .i64 d, .bool e] : Array Value).setIfInBounds 0 (.int .i64 2)).setIfInBounds 4 (.int .i64 (kd p))).setIfInBounds 5 (.int .i32 p.2.2.1)).setIfInBounds 6 (.int .i64 p.1)).setIfInBounds 7 (.int .i64 (p.1 + p.2.1))).setIfInBounds 8 (.bool true)) = scC { s with st := 2, hd := some p } := by
  simp [scC, uC]
theorem sc_hold2 (s : Sc) (p : Pc) (w : World) (scb : Nat) (a b c d : Int) (e : Bool) (h : Blk w scb 89 #[.int .i64 s.st, .int .i64 s.tk, .int .i64 s.tf, .int .i64 s.tt, .int .i64 a, .int .i32 b, .int .i64 c, .int .i64 d, .bool e]) :
   Blk ((((((w.setCell ⟨scb, 0, none⟩ (.int .i64 2)).setCell ⟨scb, 4, none⟩ (.int .i64 (kd p))).setCell ⟨scb, 5, none⟩ (.int .i32 p.2.2.1)).setCell ⟨scb, 6, none⟩ (.int .i64 p.1)).setCell ⟨scb, 7, none⟩ (.int .i64 (p.1 + p.2.1))).setCell ⟨scb, 8, none⟩ (.bool true)) scb 89 (scC { s with st := 2, hd := some p }) := by
  rw [← sc_hold s p a b c d e]
  exact (((((h.set_ 0 (.int .i64 2)).set_ 4 (.int .i64 (kd p))).set_ 5 (.int .i32 p.2.2.1)).set_ 6 (.int .i64 p.1)).set_ 7 (.int .i64 (p.1 + p.2.1))).set_ 8 (.bool true)
theorem sc_hold3 (w0 w : World) (scb : Nat) (h : Only (fun b => b = scb) w0 w) (v0 v4 v5 v6 v7 v8 : Value) :
   Only (fun b => b = scb) w0 ((((((w.setCell ⟨scb, 0, none⟩ v0).setCell ⟨scb, 4, none⟩ v4).setCell ⟨scb, 5, none⟩ v5).setCell ⟨scb, 6, none⟩ v6).setCell ⟨scb, 7, none⟩ v7).setCell ⟨scb, 8, none⟩ v8) :=
  (((((h.setCell (.inl rfl) _).setCell (.inl rfl) _).setCell (.inl rfl) _).setCell (.inl rfl) _).setCell (.inl rfl) _).setCell (.inl rfl) _
set_option maxHeartbeats 4000000 in
theorem fits_any (s : Sc) (p : Pc) (scb : Nat) (w : World) (hs : okSt s = true) (hB : Blk w scb 89 (scC s)) :
    Calls Try.prog 39 #[.pointer (some ⟨scb, 0, none⟩), uV p] w fun e w' => e = .returned (.int .i64 (fitF s p).1) ∧ Blk w' scb 89 (scC (fitF s p).2) ∧ Only (fun b => b = scb) w w' := by
  have hlt := hB.lt
  obtain ⟨a, b, c, d, e, he, he2⟩ := scC_held s
  have HS := Lib.hid hs
  rw [he] at hB
  have HB := Lib.hid hB
  have HE := Lib.hid (And.intro he he2)
  have HV := Lib.hid (show fitF s p = if s.st == 1 || s.st == 2 then (if kd p == 1 then (1, { s with st := 1 }) else if s.st == 1 && jointF p.2.2.1 then (2, { s with st := 2, hd := some p }) else (0, s)) else if s.st == 5 then (if kd p == 5 then (1, s) else (0, s)) else (0, s) from rfl)
  clear hs hB he he2
  go_enter Try.func39, Try.ntmps39
  rw [show uV p = .agg #[.int .i64 (kd p), .int .i32 p.2.2.1, .int .i64 p.1, .int .i64 (p.1 + p.2.1), .bool true] from rfl]
  go_upto_region 2 with (fail)
  refine wp_abs (fun wx => Blk wx scb 89 #[.int .i64 s.st, .int .i64 s.tk, .int .i64 s.tf, .int .i64 s.tt, .int .i64 a, .int .i32 b, .int .i64 c, .int .i64 d, .bool e] ∧ Blk wx w.heap.size 87 (uC (some p)) ∧ Only (fun b => b = scb) w wx) ⟨HB.out.alloc _, Blk.new _ _ _, (Only.refl _ _).alloc _⟩ ?_
  rintro w1 ⟨h1, h2, h3⟩
  have c0 : w1.cell? ⟨scb, 0, none⟩ = some (.int .i64 s.st) := h1.cell 0
  have H1 := Lib.hid (And.intro h1 (And.intro h2 h3))
  have u0 : w1.cell? ⟨w.heap.size, 0, none⟩ = some (.int .i64 (kd p)) := h2.cell 0
  have u1 : w1.cell? ⟨w.heap.size, 1, none⟩ = some (.int .i32 p.2.2.1) := h2.cell 1
  have u2 : w1.cell? ⟨w.heap.size, 2, none⟩ = some (.int .i64 p.1) := h2.cell 2
  have u3 : w1.cell? ⟨w.heap.size, 3, none⟩ = some (.int .i64 (p.1 + p.2.1)) := h2.cell 3
  have u4 : w1.cell? ⟨w.heap.size, 4, none⟩ = some (.bool true) := h2.cell 4
  have f0 : w1.frozen? ⟨scb, 0, none⟩ = false := h1.frozen 0
  have f4 : w1.frozen? ⟨scb, 4, none⟩ = false := h1.frozen 4
  have f5 : w1.frozen? ⟨scb, 5, none⟩ = false := h1.frozen 5
  have f6 : w1.frozen? ⟨scb, 6, none⟩ = false := h1.frozen 6
  have f7 : w1.frozen? ⟨scb, 7, none⟩ = false := h1.frozen 7
  have f8 : w1.frozen? ⟨scb, 8, none⟩ = false := h1.frozen 8
  have c4 : w1.cell? ⟨scb, 4, none⟩ = some (.int .i64 a) := h1.cell 4
  have c5 : w1.cell? ⟨scb, 5, none⟩ = some (.int .i32 b) := h1.cell 5
  have c6 : w1.cell? ⟨scb, 6, none⟩ = some (.int .i64 c) := h1.cell 6
  have c7 : w1.cell? ⟨scb, 7, none⟩ = some (.int .i64 d) := h1.cell 7
  have c8 : w1.cell? ⟨scb, 8, none⟩ = some (.bool e) := h1.cell 8
  clear h1 h2 h3 HB
  cases hk1 : (kd p == 1) with
  | true =>
    rcases okSt_of HS.out with h | h | h | h | h
    · rw [h] at c0
      have HR := Lib.hid (show fitF s p = (0, s) by rw [HV.out, h]; rfl)
      clear h HV
      go_wp2
      go_ret
      rw [HR.out]
      exact ⟨rfl, by rw [HE.out.1]; exact H1.out.1, H1.out.2.2⟩
    · rw [h] at c0
      have HR := Lib.hid (show fitF s p = (1, { s with st := 1 }) by rw [HV.out, h, hk1]; rfl)
      clear h HV
      go_wp2
      go_ret
      rw [HR.out]
      exact ⟨rfl, by rw [scC_st s HE.out.2]; exact H1.out.1.set_ 0 _, H1.out.2.2.setCell (.inl rfl) _⟩
    · rw [h] at c0
      have HR := Lib.hid (show fitF s p = (1, { s with st := 1 }) by rw [HV.out, h, hk1]; rfl)
      clear h HV
      go_wp2
      go_ret
      rw [HR.out]
      exact ⟨rfl, by rw [scC_st s HE.out.2]; exact H1.out.1.set_ 0 _, H1.out.2.2.setCell (.inl rfl) _⟩
    · rw [h] at c0
      cases hk5 : (kd p == 5) with
      | true =>
        have HR := Lib.hid (show fitF s p = (1, s) by rw [HV.out, h, hk5]; rfl)
        clear h HV
        go_wp2
        go_ret
        rw [HR.out]
        exact ⟨rfl, by rw [HE.out.1]; exact H1.out.1, H1.out.2.2⟩
      | false =>
        have HR := Lib.hid (show fitF s p = (0, s) by rw [HV.out, h, hk5]; rfl)
        clear h HV
        go_wp2
        go_ret
        rw [HR.out]
        exact ⟨rfl, by rw [HE.out.1]; exact H1.out.1, H1.out.2.2⟩
    · rw [h] at c0
      have HR := Lib.hid (show fitF s p = (0, s) by rw [HV.out, h]; rfl)
      clear h HV
      go_wp2
      go_ret
      rw [HR.out]
      exact ⟨rfl, by rw [HE.out.1]; exact H1.out.1, H1.out.2.2⟩
  | false =>
    rcases okSt_of HS.out with h | h | h | h | h
    · rw [h] at c0
      have HR := Lib.hid (show fitF s p = (0, s) by rw [HV.out, h]; rfl)
      clear h HV
      go_wp2
      go_ret
      rw [HR.out]
      exact ⟨rfl, by rw [HE.out.1]; exact H1.out.1, H1.out.2.2⟩
    · rw [h] at c0
      cases hj : jointF p.2.2.1 with
      | true =>
        have HR := Lib.hid (show fitF s p = (2, { s with st := 2, hd := some p }) by rw [HV.out, h, hk1, hj]; rfl)
        clear h HV
        go_wp2_with fail
        refine (joint_any p _).mono ?_
        rintro e w2 ⟨rfl, hb⟩
        have H2 := Lib.hid (And.intro (H1.out.1.below hb H1.out.1.lt) (And.intro (H1.out.2.1.below hb H1.out.2.1.lt) (H1.out.2.2.trans (Only.of_below hb _))))
        rw [hj]
        clear c0 u0 u1 u2 u3 u4 f0 f4 f5 f6 f7 f8 c4 c5 c6 c7 c8 H1 hb hj
        have h1 := H2.out.1
        have h2 := H2.out.2.1
        have c0 : w2.cell? ⟨scb, 0, none⟩ = some (.int .i64 s.st) := h1.cell 0
        have u0 : w2.cell? ⟨w.heap.size, 0, none⟩ = some (.int .i64 (kd p)) := h2.cell 0
        have u1 : w2.cell? ⟨w.heap.size, 1, none⟩ = some (.int .i32 p.2.2.1) := h2.cell 1
        have u2 : w2.cell? ⟨w.heap.size, 2, none⟩ = some (.int .i64 p.1) := h2.cell 2
        have u3 : w2.cell? ⟨w.heap.size, 3, none⟩ = some (.int .i64 (p.1 + p.2.1)) := h2.cell 3
        have u4 : w2.cell? ⟨w.heap.size, 4, none⟩ = some (.bool true) := h2.cell 4
        have f0 : w2.frozen? ⟨scb, 0, none⟩ = false := h1.frozen 0
        have f4 : w2.frozen? ⟨scb, 4, none⟩ = false := h1.frozen 4
        have f5 : w2.frozen? ⟨scb, 5, none⟩ = false := h1.frozen 5
        have f6 : w2.frozen? ⟨scb, 6, none⟩ = false := h1.frozen 6
        have f7 : w2.frozen? ⟨scb, 7, none⟩ = false := h1.frozen 7
        have f8 : w2.frozen? ⟨scb, 8, none⟩ = false := h1.frozen 8
        have c4 : w2.cell? ⟨scb, 4, none⟩ = some (.int .i64 a) := h1.cell 4
        have c5 : w2.cell? ⟨scb, 5, none⟩ = some (.int .i32 b) := h1.cell 5
        have c6 : w2.cell? ⟨scb, 6, none⟩ = some (.int .i64 c) := h1.cell 6
        have c7 : w2.cell? ⟨scb, 7, none⟩ = some (.int .i64 d) := h1.cell 7
        have c8 : w2.cell? ⟨scb, 8, none⟩ = some (.bool e) := h1.cell 8
        clear h1 h2
        go_upto_region 9 with (fail)
        go_region
        go_wp2
        go_ret
        rw [HR.out]
        exact ⟨rfl, (sc_hold2 s p w2 scb a b c d e H2.out.1).drew, (sc_hold3 w w2 scb H2.out.2.2 _ _ _ _ _ _).drew⟩
      | false =>
        have HR := Lib.hid (show fitF s p = (0, s) by rw [HV.out, h, hk1, hj]; rfl)
        clear h HV
        go_wp2_with fail
        refine (joint_any p _).mono ?_
        rintro e w2 ⟨rfl, hb⟩
        have H2 := Lib.hid (And.intro (H1.out.1.below hb H1.out.1.lt) (And.intro (H1.out.2.1.below hb H1.out.2.1.lt) (H1.out.2.2.trans (Only.of_below hb _))))
        rw [hj]
        clear c0 u0 u1 u2 u3 u4 f0 f4 f5 f6 f7 f8 c4 c5 c6 c7 c8 H1 hb hj
        go_wp2
        go_ret
        rw [HR.out]
        exact ⟨rfl, by rw [HE.out.1]; exact H2.out.1, H2.out.2.2⟩
    · rw [h] at c0
      have HR := Lib.hid (show fitF s p = (0, s) by rw [HV.out, h, hk1]; rfl)
      clear h HV
      go_wp2
      go_ret
      rw [HR.out]
      exact ⟨rfl, by rw [HE.out.1]; exact H1.out.1, H1.out.2.2⟩
    · rw [h] at c0
      cases hk5 : (kd p == 5) with
      | true =>
        have HR := Lib.hid (show fitF s p = (1, s) by rw [HV.out, h, hk5]; rfl)
        clear h HV
        go_wp2
        go_ret
        rw [HR.out]
        exact ⟨rfl, by rw [HE.out.1]; exact H1.out.1, H1.out.2.2⟩
      | false =>
        have HR := Lib.hid (show fitF s p = (0, s) by rw [HV.out, h, hk5]; rfl)
        clear h HV
        go_wp2
        go_ret
        rw [HR.out]
        exact ⟨rfl, by rw [HE.out.1]; exact H1.out.1, H1.out.2.2⟩
    · rw [h] at c0
      have HR := Lib.hid (show fitF s p = (0, s) by rw [HV.out, h]; rfl)
      clear h HV
      go_wp2
      go_ret
      rw [HR.out]
      exact ⟨rfl, by rw [HE.out.1]; exact H1.out.1, H1.out.2.2⟩

theorem sc_arr1 (s : Sc) (f t x : Int) (a b c d : Int) (e : Bool) (h : uC s.hd = #[.int .i64 a, .int .i32 b, .int .i64 c, .int .i64 d, .bool e]) : ((((((#[.int .i64 s.st, .int .i64 s.tk, .int .i64 s.tf, .int .i64 s.tt, .int .i64 a, .int .i32 b, .int .i64 c, .int .i64 d, .bool e] : Array Value).setIfInBounds 1 (.int .i64 6)).setIfInBounds 2 (.int .i64 f)).setIfInBounds 3 (.int .i64 t)).setIfInBounds 0 (.int .i64 9)).setIfInBounds 1 (.int .i64 x)) = scC { s with st := 9, tk := x, tf := f, tt := t } := by
  unfold scC
  dsimp only
  rw [h]
  simp
theorem sc_arr2 (s : Sc) (f t x y : Int) (a b c d : Int) (e : Bool) (h : uC s.hd = #[.int .i64 a, .int .i32 b, .int .i64 c, .int .i64 d, .bool e]) : (((((((#[.int .i64 s.st, .int .i64 s.tk, .int .i64 s.tf, .int .i64 s.tt, .int .i64 a, .int .i32 b, .int .i64 c, .int .i64 d, .bool e] : Array Value).setIfInBounds 1 (.int .i64 6)).setIfInBounds 2 (.int .i64 f)).setIfInBounds 3 (.int .i64 t)).setIfInBounds 0 (.int .i64 9)).setIfInBounds 1 (.int .i64 x)).setIfInBounds 0 (.int .i64 y)) = scC { s with st := y, tk := x, tf := f, tt := t } := by
  unfold scC
  dsimp only
  rw [h]
  simp
theorem sc_beg1 (s : Sc) (w : World) (scb : Nat) (f t x : Int) (a b c d : Int) (e : Bool) (h : uC s.hd = #[.int .i64 a, .int .i32 b, .int .i64 c, .int .i64 d, .bool e]) (hB : Blk w scb 89 #[.int .i64 s.st, .int .i64 s.tk, .int .i64 s.tf, .int .i64 s.tt, .int .i64 a, .int .i32 b, .int .i64 c, .int .i64 d, .bool e]) :
    Blk (((((w.setCell ⟨scb, 1, none⟩ (.int .i64 6)).setCell ⟨scb, 2, none⟩ (.int .i64 f)).setCell ⟨scb, 3, none⟩ (.int .i64 t)).setCell ⟨scb, 0, none⟩ (.int .i64 9)).setCell ⟨scb, 1, none⟩ (.int .i64 x)) scb 89 (scC { s with st := 9, tk := x, tf := f, tt := t }) := by
  rw [← sc_arr1 s f t x a b c d e h]
  exact ((((hB.set_ 1 (.int .i64 6)).set_ 2 (.int .i64 f)).set_ 3 (.int .i64 t)).set_ 0 (.int .i64 9)).set_ 1 (.int .i64 x)
theorem sc_beg2 (s : Sc) (w : World) (scb : Nat) (f t x y : Int) (a b c d : Int) (e : Bool) (h : uC s.hd = #[.int .i64 a, .int .i32 b, .int .i64 c, .int .i64 d, .bool e]) (hB : Blk w scb 89 #[.int .i64 s.st, .int .i64 s.tk, .int .i64 s.tf, .int .i64 s.tt, .int .i64 a, .int .i32 b, .int .i64 c, .int .i64 d, .bool e]) :
    Blk ((((((w.setCell ⟨scb, 1, none⟩ (.int .i64 6)).setCell ⟨scb, 2, none⟩ (.int .i64 f)).setCell ⟨scb, 3, none⟩ (.int .i64 t)).setCell ⟨scb, 0, none⟩ (.int .i64 9)).setCell ⟨scb, 1, none⟩ (.int .i64 x)).setCell ⟨scb, 0, none⟩ (.int .i64 y)) scb 89 (scC { s with st := y, tk := x, tf := f, tt := t }) := by
  rw [← sc_arr2 s f t x y a b c d e h]
  exact (((((hB.set_ 1 (.int .i64 6)).set_ 2 (.int .i64 f)).set_ 3 (.int .i64 t)).set_ 0 (.int .i64 9)).set_ 1 (.int .i64 x)).set_ 0 (.int .i64 y)
theorem sc_beg1o (w0 w : World) (scb : Nat) (h : Only (fun b => b = scb) w0 w) (v0 v4 v5 v6 v7 : Value) :
   Only (fun b => b = scb) w0 (((((w.setCell ⟨scb, 1, none⟩ v0).setCell ⟨scb, 2, none⟩ v4).setCell ⟨scb, 3, none⟩ v5).setCell ⟨scb, 0, none⟩ v6).setCell ⟨scb, 1, none⟩ v7) :=
  ((((h.setCell (.inl rfl) _).setCell (.inl rfl) _).setCell (.inl rfl) _).setCell (.inl rfl) _).setCell (.inl rfl) _
theorem sc_beg2o (w0 w : World) (scb : Nat) (h : Only (fun b => b = scb) w0 w) (v0 v4 v5 v6 v7 v8 : Value) :
   Only (fun b => b = scb) w0 ((((((w.setCell ⟨scb, 1, none⟩ v0).setCell ⟨scb, 2, none⟩ v4).setCell ⟨scb, 3, none⟩ v5).setCell ⟨scb, 0, none⟩ v6).setCell ⟨scb, 1, none⟩ v7).setCell ⟨scb, 0, none⟩ v8) :=
  (((((h.setCell (.inl rfl) _).setCell (.inl rfl) _).setCell (.inl rfl) _).setCell (.inl rfl) _).setCell (.inl rfl) _).setCell (.inl rfl) _

def begF (s : Sc) (p : Pc) : Sc :=
  if kd p == 1 then { s with st := 1, tk := 1, tf := p.1, tt := p.1 + p.2.1 } else if kd p == 5 then { s with st := 5, tk := 3, tf := p.1, tt := p.1 + p.2.1 } else { s with st := 9, tk := 5, tf := p.1, tt := p.1 + p.2.1 }
theorem scC_all (s : Sc) {a b c d : Int} {e : Bool} (h : uC s.hd = #[.int .i64 a, .int .i32 b, .int .i64 c, .int .i64 d, .bool e]) {x y z u : Int} : scC { s with st := x, tk := y, tf := z, tt := u } = #[.int .i64 x, .int .i64 y, .int .i64 z, .int .i64 u, .int .i64 a, .int .i32 b, .int .i64 c, .int .i64 d, .bool e] := by
  unfold scC
  dsimp only
  rw [h]
  rfl
/-- a letter, a blank, a dash, a quote or a point -/
def okK (p : Pc) : Bool := kd p == 1 || kd p == 5 || kd p == 6 || kd p == 7 || kd p == 8
theorem okK_of {p : Pc} (h : okK p = true) : kd p = 1 ∨ kd p = 5 ∨ kd p = 6 ∨ kd p = 7 ∨ kd p = 8 := by
  unfold okK at h
  simp only [Bool.or_eq_true, beq_iff_eq] at h
  omega
set_option maxHeartbeats 4000000 in
theorem begin_any (s : Sc) (p : Pc) (scb : Nat) (w : World) (hs : okK p = true) (hB : Blk w scb 89 (scC s)) :
    Calls Try.prog 41 #[.pointer (some ⟨scb, 0, none⟩), uV p] w fun e w' => (∃ v, e = .returned v) ∧ Blk w' scb 89 (scC (begF s p)) ∧ Only (fun b => b = scb) w w' := by
  have hlt := hB.lt
  obtain ⟨a, b, c, d, e, he, he2⟩ := scC_held s
  rw [he] at hB
  have HB := Lib.hid hB
  have HE := Lib.hid (And.intro he he2)
  have HV := Lib.hid (show begF s p = if kd p == 1 then { s with st := 1, tk := 1, tf := p.1, tt := p.1 + p.2.1 } else if kd p == 5 then { s with st := 5, tk := 3, tf := p.1, tt := p.1 + p.2.1 } else { s with st := 9, tk := 5, tf := p.1, tt := p.1 + p.2.1 } from rfl)
  clear hB he he2
  go_enter Try.func41, Try.ntmps41
  rw [show uV p = .agg #[.int .i64 (kd p), .int .i32 p.2.2.1, .int .i64 p.1, .int .i64 (p.1 + p.2.1), .bool true] from rfl]
  go_upto_region 1 with (fail)
  refine wp_abs (fun wx => Blk wx scb 89 #[.int .i64 s.st, .int .i64 s.tk, .int .i64 s.tf, .int .i64 s.tt, .int .i64 a, .int .i32 b, .int .i64 c, .int .i64 d, .bool e] ∧ Blk wx w.heap.size 87 (uC (some p)) ∧ Only (fun b => b = scb) w wx) ⟨HB.out.alloc _, Blk.new _ _ _, (Only.refl _ _).alloc _⟩ ?_
  rintro w1 ⟨h1, h2, h3⟩
  have c0 : w1.cell? ⟨scb, 0, none⟩ = some (.int .i64 s.st) := h1.cell 0
  have c1 : w1.cell? ⟨scb, 1, none⟩ = some (.int .i64 s.tk) := h1.cell 1
  have c2 : w1.cell? ⟨scb, 2, none⟩ = some (.int .i64 s.tf) := h1.cell 2
  have c3 : w1.cell? ⟨scb, 3, none⟩ = some (.int .i64 s.tt) := h1.cell 3
  have f0 : w1.frozen? ⟨scb, 0, none⟩ = false := h1.frozen 0
  have f1 : w1.frozen? ⟨scb, 1, none⟩ = false := h1.frozen 1
  have f2 : w1.frozen? ⟨scb, 2, none⟩ = false := h1.frozen 2
  have f3 : w1.frozen? ⟨scb, 3, none⟩ = false := h1.frozen 3
  have H1 := Lib.hid (And.intro h1 (And.intro h2 h3))
  have u0 : w1.cell? ⟨w.heap.size, 0, none⟩ = some (.int .i64 (kd p)) := h2.cell 0
  have u2 : w1.cell? ⟨w.heap.size, 2, none⟩ = some (.int .i64 p.1) := h2.cell 2
  have u3 : w1.cell? ⟨w.heap.size, 3, none⟩ = some (.int .i64 (p.1 + p.2.1)) := h2.cell 3
  have hnb : scb ≠ w.heap.size := by omega
  clear h1 h2 h3 HB
  rcases okK_of hs with h | h | h | h | h
  · rw [h] at u0
    have HR := Lib.hid (show begF s p = { s with st := 1, tk := 1, tf := p.1, tt := p.1 + p.2.1 } by rw [HV.out, h]; rfl)
    clear h HV
    go_wp2
    go_end0
    rw [HR.out]
    exact ⟨⟨_, rfl⟩, sc_beg2 s w1 scb _ _ _ _ a b c d e HE.out.2 H1.out.1, sc_beg2o w w1 scb H1.out.2.2 _ _ _ _ _ _⟩
  · rw [h] at u0
    have HR := Lib.hid (show begF s p = { s with st := 5, tk := 3, tf := p.1, tt := p.1 + p.2.1 } by rw [HV.out, h]; rfl)
    clear h HV
    go_wp2
    go_end0
    rw [HR.out]
    exact ⟨⟨_, rfl⟩, sc_beg2 s w1 scb _ _ _ _ a b c d e HE.out.2 H1.out.1, sc_beg2o w w1 scb H1.out.2.2 _ _ _ _ _ _⟩
  · rw [h] at u0
    have HR := Lib.hid (show begF s p = { s with st := 9, tk := 5, tf := p.1, tt := p.1 + p.2.1 } by rw [HV.out, h]; rfl)
    clear h HV
    go_wp2
    go_end0
    rw [HR.out]
    exact ⟨⟨_, rfl⟩, sc_beg1 s w1 scb _ _ _ a b c d e HE.out.2 H1.out.1, sc_beg1o w w1 scb H1.out.2.2 _ _ _ _ _⟩
  · rw [h] at u0
    have HR := Lib.hid (show begF s p = { s with st := 9, tk := 5, tf := p.1, tt := p.1 + p.2.1 } by rw [HV.out, h]; rfl)
    clear h HV
    go_wp2
    go_end0
    rw [HR.out]
    exact ⟨⟨_, rfl⟩, sc_beg1 s w1 scb _ _ _ a b c d e HE.out.2 H1.out.1, sc_beg1o w w1 scb H1.out.2.2 _ _ _ _ _⟩
  · rw [h] at u0
    have HR := Lib.hid (show begF s p = { s with st := 9, tk := 5, tf := p.1, tt := p.1 + p.2.1 } by rw [HV.out, h]; rfl)
    clear h HV
    go_wp2
    go_end0
    rw [HR.out]
    exact ⟨⟨_, rfl⟩, sc_beg1 s w1 scb _ _ _ a b c d e HE.out.2 H1.out.1, sc_beg1o w w1 scb H1.out.2.2 _ _ _ _ _⟩
end Go.Proofs.Ytialpfmaekagjaa
