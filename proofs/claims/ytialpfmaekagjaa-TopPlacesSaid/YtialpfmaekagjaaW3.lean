/- word.Scan: a text's tokens. -/
import Derived.Test.YtialpfmaekagjaaW2
import Derived.Test.YtialpfmaekagjaaT2
namespace Go.Proofs.Ytialpfmaekagjaa
open Go.RowKit
attribute [local go_sem] Oper.semAt_some

/-- a token: kind, from, to -/
abbrev Tok : Type := Int × Int × Int
def tkA (t : Tok) : Array Value := #[.agg #[.int .i64 t.1, .int .i64 t.2.1, .int .i64 t.2.2]]
def hdS (s : Sc) : Int × Int := match s.hd with | none => (0, 0) | some p => (p.1, p.1 + p.2.1)
def endF (s : Sc) : List Tok := if s.st == 0 then [] else if s.st == 2 then [(s.tk, s.tf, s.tt), (5, hdS s)] else [(s.tk, s.tf, s.tt)]
theorem scC_hdS (s : Sc) : ∃ a b e, scC s = #[.int .i64 s.st, .int .i64 s.tk, .int .i64 s.tf, .int .i64 s.tt, .int .i64 a, .int .i32 b, .int .i64 (hdS s).1, .int .i64 (hdS s).2, .bool e] := by
  cases h : s.hd with
  | none => exact ⟨0, 0, false, by unfold scC hdS; rw [h]; rfl⟩
  | some p => exact ⟨kd p, p.2.2.1, true, by unfold scC hdS; rw [h]; rfl⟩

set_option maxHeartbeats 4000000 in
theorem scEnd_any (s : Sc) (scb l : Nat) (W0 w : World) (C S : Nat → Prop) (J : List (Array Value) → (Nat → Prop) → World → Prop) (rest : List (Array Value)) (hs : okSt s = true) (hJ : AbideS W0.heap.size J) (hY : YieldsT Try.prog W0 C l J)
    (hB : Blk w scb 89 (scC s)) (hlo : W0.heap.size ≤ scb) (hS : ∀ b, S b → W0.heap.size ≤ b ∧ b < w.heap.size) (hns : ¬ S scb) (hj : J ((endF s).map tkA ++ rest) S w) :
    Calls Try.prog 40 #[.pointer (some ⟨scb, 0, none⟩), .func (.yield l) #[] #[]] w fun e w' => e = .returned (.bool true) ∧ ∃ S', J rest S' w' ∧ (∀ b, S' b → S b ∨ (w.heap.size ≤ b ∧ b < w'.heap.size)) ∧ Only (fun b => (b < W0.heap.size ∧ ¬ C b) ∨ S b) w w' := by
  obtain ⟨a, b, e, he⟩ := scC_hdS s
  rw [he] at hB
  have hlt := hB.lt
  have c0 : w.cell? ⟨scb, 0, none⟩ = some (.int .i64 s.st) := hB.cell 0
  have c1 : w.cell? ⟨scb, 1, none⟩ = some (.int .i64 s.tk) := hB.cell 1
  have c2 : w.cell? ⟨scb, 2, none⟩ = some (.int .i64 s.tf) := hB.cell 2
  have c3 : w.cell? ⟨scb, 3, none⟩ = some (.int .i64 s.tt) := hB.cell 3
  have HB := Lib.hid hB
  have HV := Lib.hid (show endF s = if s.st == 0 then [] else if s.st == 2 then [(s.tk, s.tf, s.tt), (5, hdS s)] else [(s.tk, s.tf, s.tt)] from rfl)
  have HY := Lib.hid hY
  have HJ := Lib.hid hj
  have HS := Lib.hid (And.intro hS (And.intro hns hJ))
  have wf : ∀ k, Fence.wide.fn k := fun _ => trivial
  have wd : Fence.wide.depth = none := rfl
  clear he hB hY hj hS hns hJ
  have one : ∀ x : Int, s.st = x → (x = 1 ∨ x = 5 ∨ x = 9) → endF s = [(s.tk, s.tf, s.tt)] := by
    intro x hx h
    rw [HV.out, hx]
    rcases h with h | h | h <;> subst h <;> rfl
  have HO := Lib.hid one
  clear one
  rcases okSt_of hs with h | h | h | h | h
  · have HE := Lib.hid (show endF s = [] by rw [HV.out, h]; rfl)
    rw [h] at c0
    clear h HV hs
    go_enter Try.func40, Try.ntmps40
    go_wp2
    go_ret
    have hj := HJ.out
    rw [HE.out] at hj
    exact ⟨rfl, S, hj, fun b hb => .inl hb, Only.refl _ _⟩
  · have HE := Lib.hid (HO.out 1 h (by omega))
    rw [h] at c0
    clear h HV hs
    have hj := HJ.out
    rw [HE.out] at hj
    obtain ⟨fn, tmps, assign, body, hy, hR⟩ := HY.out (tkA (s.tk, s.tf, s.tt)) rest S w HS.out.1 (by omega) hj
    have HRR := Lib.hid hR
    clear hR hj
    replace hy : (Instr.yield l #[.agg #[.int .i64 s.tk, .int .i64 s.tf, .int .i64 s.tt]]).run Try.prog w = _ := hy
    go_enter Try.func40, Try.ntmps40
    go_upto_region 7 with (fail)
    refine (wpIn_wide (n := 0)).1 ?_
    gi_wp2_with (with_reducible refine HRR.out.mono ?_)
    rintro e2 w3 ⟨rfl, S3, hj3, hS3, ho3⟩
    have HW3 := Lib.hid (And.intro hj3 (And.intro hS3 ho3))
    clear hj3 hS3 ho3 hy c0 c1 c2 c3
    gi_wp2
    go_wp2
    go_ret
    exact ⟨rfl, S3, HW3.out.1, HW3.out.2.1, HW3.out.2.2⟩
  · have HE := Lib.hid (show endF s = [(s.tk, s.tf, s.tt), (5, hdS s)] by rw [HV.out, h]; rfl)
    rw [h] at c0
    clear h HV hs
    have hj := HJ.out
    rw [HE.out] at hj
    obtain ⟨fn, tmps, assign, body, hy, hR⟩ := HY.out (tkA (s.tk, s.tf, s.tt)) (tkA (5, hdS s) :: rest) S w HS.out.1 (by omega) hj
    have HRR := Lib.hid hR
    clear hR hj
    replace hy : (Instr.yield l #[.agg #[.int .i64 s.tk, .int .i64 s.tf, .int .i64 s.tt]]).run Try.prog w = _ := hy
    go_enter Try.func40, Try.ntmps40
    go_upto_region 6 with (fail)
    refine (wpIn_wide (n := 0)).1 ?_
    gi_wp2_with (with_reducible refine HRR.out.mono ?_)
    rintro e2 w3 ⟨rfl, S3, hj3, hS3, ho3⟩
    have h3 := HB.out.only ho3 (fun h => by rcases h with h | h; omega; exact HS.out.2.1 h)
    have c6 : w3.cell? ⟨scb, 6, none⟩ = some (.int .i64 (hdS s).1) := h3.cell 6
    have c7 : w3.cell? ⟨scb, 7, none⟩ = some (.int .i64 (hdS s).2) := h3.cell 7
    have hsz := ho3.size
    obtain ⟨fn, tmps, assign, body, hy2, hR⟩ := HY.out (tkA (5, hdS s)) rest S3 w3 (fun b hb => by
      rcases hS3 b hb with h | h
      · have := HS.out.1 b h; omega
      · omega) (by omega) hj3
    have HR3 := Lib.hid hR
    replace hy2 : (Instr.yield l #[.agg #[.int .i64 5, .int .i64 (hdS s).1, .int .i64 (hdS s).2]]).run Try.prog w3 = _ := hy2
    have HW3 := Lib.hid (And.intro hS3 ho3)
    clear hR hj3 hS3 ho3 h3 hsz hy c0 c1 c2 c3
    generalize hdS s = hh at *
    gi_wp2_with (with_reducible refine HR3.out.mono ?_)
    rintro e2 w4 ⟨rfl, S4, hj4, hS4, ho4⟩
    have HW4 := Lib.hid (And.intro hj4 (And.intro hS4 ho4))
    clear hj4 hS4 ho4 hy2 c6 c7
    gi_wp2
    go_wp2
    go_ret
    have h34 := HW3.out.2.size
    have h45 := HW4.out.2.2.size
    refine ⟨rfl, S4, HW4.out.1, fun b hb => ?_, only_then HW3.out.2 (fun b hb => (HW3.out.1 b hb).imp id (fun h => h.1)) HW4.out.2.2⟩
    rcases HW4.out.2.1 b hb with h | h
    · rcases HW3.out.1 b h with h | h
      · exact .inl h
      · exact .inr ⟨h.1, by omega⟩
    · exact .inr ⟨by omega, h.2⟩
  · have HE := Lib.hid (HO.out 5 h (by omega))
    rw [h] at c0
    clear h HV hs
    have hj := HJ.out
    rw [HE.out] at hj
    obtain ⟨fn, tmps, assign, body, hy, hR⟩ := HY.out (tkA (s.tk, s.tf, s.tt)) rest S w HS.out.1 (by omega) hj
    have HRR := Lib.hid hR
    clear hR hj
    replace hy : (Instr.yield l #[.agg #[.int .i64 s.tk, .int .i64 s.tf, .int .i64 s.tt]]).run Try.prog w = _ := hy
    go_enter Try.func40, Try.ntmps40
    go_upto_region 7 with (fail)
    refine (wpIn_wide (n := 0)).1 ?_
    gi_wp2_with (with_reducible refine HRR.out.mono ?_)
    rintro e2 w3 ⟨rfl, S3, hj3, hS3, ho3⟩
    have HW3 := Lib.hid (And.intro hj3 (And.intro hS3 ho3))
    clear hj3 hS3 ho3 hy c0 c1 c2 c3
    gi_wp2
    go_wp2
    go_ret
    exact ⟨rfl, S3, HW3.out.1, HW3.out.2.1, HW3.out.2.2⟩
  · have HE := Lib.hid (HO.out 9 h (by omega))
    rw [h] at c0
    clear h HV hs
    have hj := HJ.out
    rw [HE.out] at hj
    obtain ⟨fn, tmps, assign, body, hy, hR⟩ := HY.out (tkA (s.tk, s.tf, s.tt)) rest S w HS.out.1 (by omega) hj
    have HRR := Lib.hid hR
    clear hR hj
    replace hy : (Instr.yield l #[.agg #[.int .i64 s.tk, .int .i64 s.tf, .int .i64 s.tt]]).run Try.prog w = _ := hy
    go_enter Try.func40, Try.ntmps40
    go_upto_region 7 with (fail)
    refine (wpIn_wide (n := 0)).1 ?_
    gi_wp2_with (with_reducible refine HRR.out.mono ?_)
    rintro e2 w3 ⟨rfl, S3, hj3, hS3, ho3⟩
    have HW3 := Lib.hid (And.intro hj3 (And.intro hS3 ho3))
    clear hj3 hS3 ho3 hy c0 c1 c2 c3
    gi_wp2
    go_wp2
    go_ret
    exact ⟨rfl, S3, HW3.out.1, HW3.out.2.1, HW3.out.2.2⟩
end Go.Proofs.Ytialpfmaekagjaa
