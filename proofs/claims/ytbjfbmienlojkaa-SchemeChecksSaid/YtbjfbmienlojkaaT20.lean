/- The reference's Alike and First: which lines are alike; the first line that is alike to a line. -/
import Derived.Test.YtbjfbmienlojkaaT1
import Derived.Deep.QuietTactic
import Derived.BigQuiet
namespace Go.Proofs.Ytbjfbmienlojkaa
open Go.RowKit

theorem bdrawn {B : Nat} {w w' : World} (h : Below B w w') (n : Nat) : Below B w (w'.drewN n) := ⟨h.os, h.tape, h.output, h.size, h.block⟩

def clsAt (ls : List (Int × Int)) (i : Nat) : Int := (ls.getD i (0, 0)).1
def alikeB (ls : List (Int × Int)) (i k : Nat) : Bool := decide (i = k) || (decide (0 ≤ clsAt ls i) && decide (clsAt ls i = clsAt ls k))
/-- the first line from k on, before i, that is alike to line i; else i -/
def firstFrom (ls : List (Int × Int)) (i : Nat) : Nat → Nat → Nat
  | 0, _ => i
  | f + 1, k => if k < i then (if alikeB ls k i then k else firstFrom ls i f (k + 1)) else i
def firstF (ls : List (Int × Int)) (i : Nat) : Nat := firstFrom ls i i 0
theorem clsAt_get {ls : List (Int × Int)} {i : Nat} (h : i < ls.length) : clsAt ls i = ls[i].1 := by
  unfold clsAt; rw [List.getD_eq_getElem?_getD, List.getElem?_eq_getElem h]; rfl

set_option maxHeartbeats 1000000 in
theorem alike_any (A1 A2 : Option Addr) (n1 c1 n2 c2 L1 : Nat) (ls : List (Int × Int)) (i k : Nat) (w : World)
    (h1 : Rd w L1 w.heap.size 2 A1 n1 (prs ls)) (hn1 : n1 ≤ maxLen) (hi : i < n1) (hk : k < n1) :
    Calls Try.prog 61 #[.agg #[.slice A1 n1 c1, .slice A2 n2 c2], .int .i64 i, .int .i64 k] w fun e w' => e = .returned (.bool (alikeB ls i k)) ∧ Below w.heap.size w w' := by
  have hq1 := hn1
  unfold maxLen at hq1
  clear hn1
  obtain ⟨b, o, hl, rfl, hL, hB, p1, _⟩ := h1.two hi
  obtain ⟨b', o', hl', hA, _, _, q1, _⟩ := h1.two hk
  injection hA with hA
  injection hA with e1 e2
  subst e1 e2
  have ha : alikeB ls i k = (decide (i = k) || (decide (0 ≤ ls[i].1) && decide (ls[i].1 = ls[k].1))) := by
    unfold alikeB; rw [clsAt_get hl, clsAt_get hl']
  rw [ha]
  clear ha
  generalize ls[i].1 = x at p1 ⊢
  generalize ls[k].1 = y at q1 ⊢
  have i0 : (0 : Int) ≤ (i : Int) := by omega
  have i1 : (i : Int) < (n1 : Int) := by omega
  have k0 : (0 : Int) ≤ (k : Int) := by omega
  have k1 : (k : Int) < (n1 : Int) := by omega
  have m1 : (w.alloc (.cells #[.slice (some ⟨b, o, none⟩) n1 c1, .slice A2 n2 c2] 26)).cell? ⟨b, o + i * 2, none⟩ = some (.int .i64 x) := (((Below.refl w.heap.size w).alloc (Nat.le_refl _) _).cell (p := ⟨b, o + i * 2, none⟩) hB).trans p1
  have m2 : (w.alloc (.cells #[.slice (some ⟨b, o, none⟩) n1 c1, .slice A2 n2 c2] 26)).cell? ⟨b, o + k * 2, none⟩ = some (.int .i64 y) := (((Below.refl w.heap.size w).alloc (Nat.le_refl _) _).cell (p := ⟨b, o + k * 2, none⟩) hB).trans q1
  have m0 : (w.alloc (.cells #[.slice (some ⟨b, o, none⟩) n1 c1, .slice A2 n2 c2] 26)).cell? ⟨w.heap.size, 0, none⟩ = some (.slice (some ⟨b, o, none⟩) n1 c1) := (Blk.new w 26 _).cell 0
  by_cases he : i = k
  · subst he
    go_enter Try.func61, Try.ntmps61
    go_wp2
    go_quiet (fail)
    go_wp2
    go_ret
    exact ⟨ret_bool (by simp), bdrawn ((Below.refl _ _).alloc (Nat.le_refl _) _) _⟩
  · have hb : ((i : Int) == (k : Int)) = false := by simp only [beq_eq_false_iff_ne, ne_eq]; omega
    by_cases hx : 0 ≤ x
    · have hxb : decide (x ≥ 0) = true := by simpa using hx
      by_cases hy : x = y
      · subst hy
        go_enter Try.func61, Try.ntmps61
        go_wp2
        go_quiet (fail)
        go_wp2
        go_ret
        exact ⟨ret_bool (by simp [he, hx]), bdrawn ((Below.refl _ _).alloc (Nat.le_refl _) _) _⟩
      · have hyb : (x == y) = false := by simp [hy]
        go_enter Try.func61, Try.ntmps61
        go_wp2
        go_quiet (fail)
        go_wp2
        go_ret
        exact ⟨ret_bool (by simp [he, hx, hy]), bdrawn ((Below.refl _ _).alloc (Nat.le_refl _) _) _⟩
    · have hxb : decide (x ≥ 0) = false := by simpa using hx
      go_enter Try.func61, Try.ntmps61
      go_wp2
      go_quiet (fail)
      go_wp2
      go_ret
      exact ⟨ret_bool (by simp [he]; intro; omega), bdrawn ((Below.refl _ _).alloc (Nat.le_refl _) _) _⟩

set_option maxHeartbeats 1000000 in
theorem first_any (A1 A2 : Option Addr) (n1 c1 n2 c2 L1 : Nat) (ls : List (Int × Int)) (i : Nat) (w : World)
    (h1 : Rd w L1 w.heap.size 2 A1 n1 (prs ls)) (hn1 : n1 ≤ maxLen) (hi : i < n1) :
    Calls Try.prog 60 #[.agg #[.slice A1 n1 c1, .slice A2 n2 c2], .int .i64 i] w fun e w' => e = .returned (.int .i64 (firstF ls i)) ∧ Below w.heap.size w w' := by
  have HI := Lib.hid hi
  have HM := Lib.hid hn1
  unfold maxLen at hn1
  have H1 := Lib.hid h1
  clear h1
  go_enter Try.func60, Try.ntmps60
  go_wp2
  refine wp_abs (fun wx => Blk wx w.heap.size 26 #[.slice A1 n1 c1, .slice A2 n2 c2] ∧ Below w.heap.size w wx) ⟨Blk.new _ _ _, (Below.refl _ _).alloc (Nat.le_refl _) _⟩ ?_
  rintro w1 ⟨hB0, hb0⟩
  go_loopw [5] (fun v wr => ∃ k : Nat, k ≤ i ∧ v = .int .i64 k ∧ Hid (Blk wr w.heap.size 26 #[.slice A1 n1 c1, .slice A2 n2 c2] ∧ Below w.heap.size w wr ∧ firstF ls i = firstFrom ls i (i - k) k)) (fun v _ => i - (intOf v).toNat)
  case atStart => exact ⟨0, by omega, rfl, hB0, hb0, rfl⟩
  case round =>
    clear hB0 hb0 w1
    obtain ⟨k, hk, rfl, H⟩ := hrel
    have c0 : wr.cell? ⟨w.heap.size, 0, none⟩ = some (.slice A1 n1 c1) := H.out.1.cell 0
    have c1' : wr.cell? ⟨w.heap.size, 1, none⟩ = some (.slice A2 n2 c2) := H.out.1.cell 1
    by_cases hlt : k < i
    · have hf : firstFrom ls i (i - k) k = if alikeB ls k i then k else firstFrom ls i (i - (k + 1)) (k + 1) := by
        rw [show i - k = (i - (k + 1)) + 1 by omega, firstFrom, if_pos hlt]
      have HF := Lib.hid hf
      clear hf
      go_wp2_with fail
      refine (alike_any A1 A2 n1 c1 n2 c2 L1 ls k i wr ((H1.out.below H.out.2.1 (Nat.le_refl _)).more (Nat.le_refl _) H.out.2.1.size) HM.out (by have := HI.out; omega) HI.out).mono ?_
      rintro e w2 ⟨rfl, hb2⟩
      have H2 := Lib.hid (show Blk w2 w.heap.size 26 #[.slice A1 n1 c1, .slice A2 n2 c2] ∧ Below w.heap.size w w2 from ⟨H.out.1.below hb2 H.out.1.lt, H.out.2.1.trans (hb2.mono H.out.2.1.size)⟩)
      clear hb2
      cases hal : alikeB ls k i with
      | true =>
        go_wp2
        go_ret
        exact ⟨ret_int (by rw [H.out.2.2, HF.out, if_pos hal]), H2.out.2⟩
      | false =>
        go_wp2
        go_roundw
        case rel => exact ⟨k + 1, by omega, by go_num, H2.out.1, H2.out.2, by rw [H.out.2.2, HF.out, if_neg (by simp [hal])]⟩
        case measure => simp [intOf]; omega
    · have hki : k = i := by omega
      subst hki
      go_wp2
      go_ret
      exact ⟨ret_int (by rw [H.out.2.2, Nat.sub_self]; rfl), H.out.2.1⟩
end Go.Proofs.Ytbjfbmienlojkaa
