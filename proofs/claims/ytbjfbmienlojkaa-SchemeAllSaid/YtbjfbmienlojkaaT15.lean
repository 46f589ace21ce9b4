/- Equal, and spoil.
   The reference's Alike and First: which lines are alike; the first line that is alike to a line.
   slices.Clone at []Rhyme and at []int; the scheme's own copied. -/
import Derived.Test.YtbjfbmienlojkaaMem
import Derived.Test.YtbjfbmienlojkaaChecked
import Derived.Deep.QuietTactic
import Derived.BigQuiet
import Derived.Test.YtbjfbmienlojkaaT1
import Derived.Lib.SliceRun
import Derived.Lib.Walk
import Derived.Laws.AppendOwn
namespace Go.Proofs.Ytbjfbmienlojkaa
open Go.RowKit

def eqS (l1 l2 : List (Int × Int)) (s1 s2 : List Int) : Bool := decide (l1 = l2) && decide (s1 = s2)

/-- memory while Equal runs -/
structure EqSt (w0 : World) (a1 a2 b1_ b2 : Value) (w : World) : Prop where
  b0 : Blk w w0.heap.size 26 #[a1, a2]
  b1 : Blk w (w0.heap.size + 1) 26 #[b1_, b2]
  below : Below w0.heap.size w0 w
theorem eqst_init (w : World) (a1 a2 b1 b2 : Value) : EqSt w a1 a2 b1 b2 ((w.alloc (.cells #[a1, a2] 26)).alloc (.cells #[b1, b2] 26)) :=
  ⟨(Blk.new w _ _).alloc _, by simpa using Blk.new (w.alloc (.cells #[a1, a2] 26)) 26 #[b1, b2], ((Below.refl _ _).alloc (Nat.le_refl _) _).alloc (by simp) _⟩
theorem EqSt.drewN {w0 : World} {a1 a2 b1 b2 : Value} {w : World} (h : EqSt w0 a1 a2 b1 b2 w) (n : Nat) : EqSt w0 a1 a2 b1 b2 (w.drewN n) := ⟨h.b0, h.b1, ⟨h.below.os, h.below.tape, h.below.output, h.below.size, h.below.block⟩⟩

set_option maxHeartbeats 1000000 in
theorem equal_any (A1 A2 B1 B2 : Option Addr) (n1 c1 n2 c2 m1 d1 m2 d2 L1 L2 L3 L4 : Nat) (l1 l2 : List (Int × Int)) (s1 s2 : List Int) (w : World)
    (h1 : Rd w L1 w.heap.size 2 A1 n1 (prs l1)) (h2 : Rd w L2 w.heap.size 1 A2 n2 (s1.map (Value.int .i64))) (h3 : Rd w L3 w.heap.size 2 B1 m1 (prs l2)) (h4 : Rd w L4 w.heap.size 1 B2 m2 (s2.map (Value.int .i64)))
    (e1 : n1 ≤ maxLen) (e2 : n2 ≤ maxLen) (e3 : m1 ≤ maxLen) (e4 : m2 ≤ maxLen) :
    Calls Try.prog 16 #[.agg #[.slice A1 n1 c1, .slice A2 n2 c2], .agg #[.slice B1 m1 d1, .slice B2 m2 d2]] w fun e w' => e = .returned (.bool (eqS l1 l2 s1 s2)) ∧ Below w.heap.size w w' := by
  unfold maxLen at e1 e2 e3 e4
  have q1 : l1.length = n1 := by have := h1.1; rw [prs_len] at this; omega
  have q2 : s1.length = n2 := by have := h2.1; simpa using this
  have q3 : l2.length = m1 := by have := h3.1; rw [prs_len] at this; omega
  have q4 : s2.length = m2 := by have := h4.1; simpa using this
  have Q := Lib.hid (And.intro q1 (And.intro q2 (And.intro q3 q4)))
  have H1 := Lib.hid h1
  have H2 := Lib.hid h2
  have H3 := Lib.hid h3
  have H4 := Lib.hid h4
  clear q1 q2 q3 q4 h1 h2 h3 h4
  have b2 : ∀ (o1 o2 : Obj), Below w.heap.size w ((w.alloc o1).alloc o2) := fun o1 o2 => ((Below.refl _ _).alloc (Nat.le_refl _) _).alloc (by simp) _
  by_cases hn : n1 = m1
  · subst hn
    by_cases hm : n2 = m2
    · subst hm
      have hb1 : ((n1 : Int) != (n1 : Int)) = false := by simp
      go_enter Try.func16, Try.ntmps16
      go_wp2
      refine wp_abs (EqSt w (.slice A1 n1 c1) (.slice A2 n2 c2) (.slice B1 n1 d1) (.slice B2 n2 d2)) (eqst_init w _ _ _ _) ?_
      intro w1 hw1
      go_loopw [26] (fun v wr => ∃ k : Nat, k ≤ n1 ∧ v = .int .i64 k ∧ Hid (EqSt w (.slice A1 n1 c1) (.slice A2 n2 c2) (.slice B1 n1 d1) (.slice B2 n2 d2) wr ∧ decide (l1 = l2) = decide (l1.drop k = l2.drop k))) (fun v _ => n1 - (intOf v).toNat)
      case atStart => exact ⟨0, by omega, rfl, hw1, rfl⟩
      case round =>
        clear hw1 w1
        obtain ⟨k, hk, rfl, H⟩ := hrel
        by_cases hlt : k < n1
        · obtain ⟨b, o, hl, rfl, hL, hB, p1, p2⟩ := H1.out.two hlt
          obtain ⟨b', o', hl', rfl, hL', hB', p3, p4⟩ := H3.out.two hlt
          generalize hx : l1[k] = x at p1 p2
          generalize hy : l2[k] = y at p3 p4
          obtain ⟨x1, x2⟩ := x
          obtain ⟨y1, y2⟩ := y
          have c0 : wr.cell? ⟨w.heap.size, 0, none⟩ = some (.slice (some ⟨b, o, none⟩) n1 c1) := H.out.1.b0.cell 0
          have c1' : wr.cell? ⟨w.heap.size + 1, 0, none⟩ = some (.slice (some ⟨b', o', none⟩) n1 d1) := H.out.1.b1.cell 0
          have r1 := (H.out.1.below.cell (p := ⟨b, o + k * 2, none⟩) hB).trans p1
          have r2 := (H.out.1.below.cell (p := ⟨b, o + k * 2 + 1, none⟩) hB).trans p2
          have r3 := (H.out.1.below.cell (p := ⟨b', o' + k * 2, none⟩) hB').trans p3
          have r4 := (H.out.1.below.cell (p := ⟨b', o' + k * 2 + 1, none⟩) hB').trans p4
          have hde : decide (l1.drop k = l2.drop k) = (decide ((x1, x2) = (y1, y2)) && decide (l1.drop (k + 1) = l2.drop (k + 1))) := by
            rw [drop_at l1 k hl, drop_at l2 k hl', hx, hy]
            simp [Bool.and_assoc, List.cons.injEq]
          have HDE := Lib.hid hde
          have i1 : (0 : Int) ≤ (k : Int) := by omega
          have i2 : (k : Int) < (n1 : Int) := by omega
          clear hde hx hy p1 p2 p3 p4
          by_cases g1 : x1 = y1
          · subst g1
            by_cases g2 : x2 = y2
            · subst g2
              go_wp2
              go_quiet (fail)
              go_wp2
              go_roundw
              case rel => exact ⟨k + 1, by omega, by go_num, Lib.hid ⟨H.out.1.drewN _, by rw [H.out.2, HDE.out]; simp⟩⟩
              case measure => simp [intOf]; omega
            · go_wp2
              go_quiet (fail)
              go_wp2
              go_ret
              exact ⟨ret_bool (by unfold eqS; rw [H.out.2, HDE.out]; simp [g2]), (H.out.1.drewN _).below⟩
          · go_wp2
            go_quiet (fail)
            go_wp2
            go_ret
            exact ⟨ret_bool (by unfold eqS; rw [H.out.2, HDE.out]; simp [g1]), (H.out.1.drewN _).below⟩
        · have hkn : k = n1 := by omega
          subst hkn
          have HL := Lib.hid (show decide (l1 = l2) = true by rw [H.out.2, List.drop_of_length_le (by rw [Q.out.1]; exact Nat.le_refl _), List.drop_of_length_le (by rw [Q.out.2.2.1]; exact Nat.le_refl _)]; rfl)
          have e0 : wr.cell? ⟨w.heap.size, 1, none⟩ = some (.slice A2 n2 c2) := H.out.1.b0.cell 1
          have e1' : wr.cell? ⟨w.heap.size + 1, 1, none⟩ = some (.slice B2 n2 d2) := H.out.1.b1.cell 1
          have HE := Lib.hid H.out.1
          clear H
          go_wp2
          clear e0 e1'
          go_loopw [44] (fun v wr => ∃ j : Nat, j ≤ n2 ∧ v = .int .i64 j ∧ Hid (EqSt w (.slice A1 k c1) (.slice A2 n2 c2) (.slice B1 k d1) (.slice B2 n2 d2) wr ∧ decide (s1 = s2) = decide (s1.drop j = s2.drop j))) (fun v _ => n2 - (intOf v).toNat)
          case atStart => exact ⟨0, by omega, rfl, HE.out, rfl⟩
          case round =>
            obtain ⟨j, hj, rfl, H⟩ := hrel
            by_cases hlt2 : j < n2
            · obtain ⟨b, o, hl, rfl, hL, hB, p1⟩ := H2.out.one hlt2
              obtain ⟨b', o', hl', rfl, hL', hB', p3⟩ := H4.out.one hlt2
              generalize hx : s1[j] = x at p1
              generalize hy : s2[j] = y at p3
              have c0 : wr.cell? ⟨w.heap.size, 1, none⟩ = some (.slice (some ⟨b, o, none⟩) n2 c2) := H.out.1.b0.cell 1
              have c1' : wr.cell? ⟨w.heap.size + 1, 1, none⟩ = some (.slice (some ⟨b', o', none⟩) n2 d2) := H.out.1.b1.cell 1
              have r1 := (H.out.1.below.cell (p := ⟨b, o + j, none⟩) hB).trans p1
              have r3 := (H.out.1.below.cell (p := ⟨b', o' + j, none⟩) hB').trans p3
              have hde : decide (s1.drop j = s2.drop j) = (decide (x = y) && decide (s1.drop (j + 1) = s2.drop (j + 1))) := by
                rw [drop_at s1 j hl, drop_at s2 j hl', hx, hy]
                simp [List.cons.injEq]
              have HDE := Lib.hid hde
              have i1 : (0 : Int) ≤ (j : Int) := by omega
              have i2 : (j : Int) < (n2 : Int) := by omega
              clear hde hx hy p1 p3
              by_cases g1 : x = y
              · subst g1
                go_wp2
                go_quiet (fail)
                go_wp2
                go_roundw
                case rel => exact ⟨j + 1, by omega, by go_num, Lib.hid ⟨H.out.1.drewN _, by rw [H.out.2, HDE.out]; simp⟩⟩
                case measure => simp [intOf]; omega
              · have g1b : (x != y) = true := by simpa using g1
                go_wp2
                go_quiet (fail)
                go_wp2
                go_ret
                exact ⟨ret_bool (by unfold eqS; rw [H.out.2, HDE.out]; simp [g1]), (H.out.1.drewN _).below⟩
            · have HS := Lib.hid (show decide (s1 = s2) = true by rw [H.out.2, List.drop_of_length_le (by rw [Q.out.2.1]; omega), List.drop_of_length_le (by rw [Q.out.2.2.2]; omega)]; rfl)
              go_wp2
              go_ret
              exact ⟨ret_bool (by unfold eqS; rw [HL.out, HS.out]; rfl), H.out.1.below⟩
    · have hs : decide (s1 = s2) = false := by
        simp only [decide_eq_false_iff_not]
        intro hh; apply hm; rw [← Q.out.2.1, ← Q.out.2.2.2, hh]
      have HS := Lib.hid hs
      have hb1 : ((n2 : Int) != (m2 : Int)) = true := by simp; omega
      clear hs
      go_enter Try.func16, Try.ntmps16
      go_wp2
      go_ret
      exact ⟨ret_bool (by unfold eqS; rw [HS.out, Bool.and_false]), b2 _ _⟩
  · have hs : decide (l1 = l2) = false := by
      simp only [decide_eq_false_iff_not]
      intro hh; apply hn; rw [← Q.out.1, ← Q.out.2.2.1, hh]
    have HS := Lib.hid hs
    have hb1 : ((n1 : Int) != (m1 : Int)) = true := by simp; omega
    clear hs
    go_enter Try.func16, Try.ntmps16
    go_wp2
    go_ret
    exact ⟨ret_bool (by unfold eqS; rw [HS.out, Bool.false_and]), b2 _ _⟩
end Go.Proofs.Ytbjfbmienlojkaa

namespace Go.Proofs.Ytbjfbmienlojkaa
open Go.RowKit

theorem bdrawn {B : Nat} {w w' : World} (h : Below B w w') (n : Nat) : Below B w (w'.drewN n) := ⟨h.os, h.tape, h.output, h.size, h.block⟩

def clsAt (ls : List (Int × Int)) (i : Nat) : Int := (ls.getD i (0, 0)).1
def alikeB (ls : List (Int × Int)) (i k : Nat) : Bool := decide (i = k) || (decide (0 ≤ clsAt ls i) && decide (clsAt ls i = clsAt ls k))
/-- the first line from k on, before i, that is alike to line i; else i -/
def firstFrom (ls : List (Int × Int)) (i : Nat) : Nat → Nat → Nat
  | 0, _ => i
  | f + 1, k => if k < i then (if alikeB ls k i then k else firstFrom ls i f (k + 1)) else i
def firstF (ls : List (Int × Int)) (i : Nat) : Nat := firstFrom ls i i 0
theorem clsAt_get {ls : List (Int × Int)} {i : Nat} (h : i < ls.length) : clsAt ls i = ls[i].1 := by
  unfold clsAt; rw [List.getD_eq_getElem?_getD, List.getElem?_eq_getElem h]; rfl

set_option maxHeartbeats 1000000 in
theorem alike_any (A1 A2 : Option Addr) (n1 c1 n2 c2 L1 : Nat) (ls : List (Int × Int)) (i k : Nat) (w : World)
    (h1 : Rd w L1 w.heap.size 2 A1 n1 (prs ls)) (hn1 : n1 ≤ maxLen) (hi : i < n1) (hk : k < n1) :
    Calls Try.prog 61 #[.agg #[.slice A1 n1 c1, .slice A2 n2 c2], .int .i64 i, .int .i64 k] w fun e w' => e = .returned (.bool (alikeB ls i k)) ∧ Below w.heap.size w w' := by
  have hq1 := hn1
  unfold maxLen at hq1
  clear hn1
  obtain ⟨b, o, hl, rfl, hL, hB, p1, _⟩ := h1.two hi
  obtain ⟨b', o', hl', hA, _, _, q1, _⟩ := h1.two hk
  injection hA with hA
  injection hA with e1 e2
  subst e1 e2
  have ha : alikeB ls i k = (decide (i = k) || (decide (0 ≤ ls[i].1) && decide (ls[i].1 = ls[k].1))) := by
    unfold alikeB; rw [clsAt_get hl, clsAt_get hl']
  rw [ha]
  clear ha
  generalize ls[i].1 = x at p1 ⊢
  generalize ls[k].1 = y at q1 ⊢
  have i0 : (0 : Int) ≤ (i : Int) := by omega
  have i1 : (i : Int) < (n1 : Int) := by omega
  have k0 : (0 : Int) ≤ (k : Int) := by omega
  have k1 : (k : Int) < (n1 : Int) := by omega
  have m1 : (w.alloc (.cells #[.slice (some ⟨b, o, none⟩) n1 c1, .slice A2 n2 c2] 26)).cell? ⟨b, o + i * 2, none⟩ = some (.int .i64 x) := (((Below.refl w.heap.size w).alloc (Nat.le_refl _) _).cell (p := ⟨b, o + i * 2, none⟩) hB).trans p1
  have m2 : (w.alloc (.cells #[.slice (some ⟨b, o, none⟩) n1 c1, .slice A2 n2 c2] 26)).cell? ⟨b, o + k * 2, none⟩ = some (.int .i64 y) := (((Below.refl w.heap.size w).alloc (Nat.le_refl _) _).cell (p := ⟨b, o + k * 2, none⟩) hB).trans q1
  have m0 : (w.alloc (.cells #[.slice (some ⟨b, o, none⟩) n1 c1, .slice A2 n2 c2] 26)).cell? ⟨w.heap.size, 0, none⟩ = some (.slice (some ⟨b, o, none⟩) n1 c1) := (Blk.new w 26 _).cell 0
  by_cases he : i = k
  · subst he
    go_enter Try.func61, Try.ntmps61
    go_wp2
    go_quiet (fail)
    go_wp2
    go_ret
    exact ⟨ret_bool (by simp), bdrawn ((Below.refl _ _).alloc (Nat.le_refl _) _) _⟩
  · have hb : ((i : Int) == (k : Int)) = false := by simp only [beq_eq_false_iff_ne, ne_eq]; omega
    by_cases hx : 0 ≤ x
    · have hxb : decide (x ≥ 0) = true := by simpa using hx
      by_cases hy : x = y
      · subst hy
        go_enter Try.func61, Try.ntmps61
        go_wp2
        go_quiet (fail)
        go_wp2
        go_ret
        exact ⟨ret_bool (by simp [he, hx]), bdrawn ((Below.refl _ _).alloc (Nat.le_refl _) _) _⟩
      · have hyb : (x == y) = false := by simp [hy]
        go_enter Try.func61, Try.ntmps61
        go_wp2
        go_quiet (fail)
        go_wp2
        go_ret
        exact ⟨ret_bool (by simp [he, hx, hy]), bdrawn ((Below.refl _ _).alloc (Nat.le_refl _) _) _⟩
    · have hxb : decide (x ≥ 0) = false := by simpa using hx
      go_enter Try.func61, Try.ntmps61
      go_wp2
      go_quiet (fail)
      go_wp2
      go_ret
      exact ⟨ret_bool (by simp [he]; intro; omega), bdrawn ((Below.refl _ _).alloc (Nat.le_refl _) _) _⟩

set_option maxHeartbeats 1000000 in
theorem first_any (A1 A2 : Option Addr) (n1 c1 n2 c2 L1 : Nat) (ls : List (Int × Int)) (i : Nat) (w : World)
    (h1 : Rd w L1 w.heap.size 2 A1 n1 (prs ls)) (hn1 : n1 ≤ maxLen) (hi : i < n1) :
    Calls Try.prog 60 #[.agg #[.slice A1 n1 c1, .slice A2 n2 c2], .int .i64 i] w fun e w' => e = .returned (.int .i64 (firstF ls i)) ∧ Below w.heap.size w w' := by
  have HI := Lib.hid hi
  have HM := Lib.hid hn1
  unfold maxLen at hn1
  have H1 := Lib.hid h1
  clear h1
  go_enter Try.func60, Try.ntmps60
  go_wp2
  refine wp_abs (fun wx => Blk wx w.heap.size 26 #[.slice A1 n1 c1, .slice A2 n2 c2] ∧ Below w.heap.size w wx) ⟨Blk.new _ _ _, (Below.refl _ _).alloc (Nat.le_refl _) _⟩ ?_
  rintro w1 ⟨hB0, hb0⟩
  go_loopw [5] (fun v wr => ∃ k : Nat, k ≤ i ∧ v = .int .i64 k ∧ Hid (Blk wr w.heap.size 26 #[.slice A1 n1 c1, .slice A2 n2 c2] ∧ Below w.heap.size w wr ∧ firstF ls i = firstFrom ls i (i - k) k)) (fun v _ => i - (intOf v).toNat)
  case atStart => exact ⟨0, by omega, rfl, hB0, hb0, rfl⟩
  case round =>
    clear hB0 hb0 w1
    obtain ⟨k, hk, rfl, H⟩ := hrel
    have c0 : wr.cell? ⟨w.heap.size, 0, none⟩ = some (.slice A1 n1 c1) := H.out.1.cell 0
    have c1' : wr.cell? ⟨w.heap.size, 1, none⟩ = some (.slice A2 n2 c2) := H.out.1.cell 1
    by_cases hlt : k < i
    · have hf : firstFrom ls i (i - k) k = if alikeB ls k i then k else firstFrom ls i (i - (k + 1)) (k + 1) := by
        rw [show i - k = (i - (k + 1)) + 1 by omega, firstFrom, if_pos hlt]
      have HF := Lib.hid hf
      clear hf
      go_wp2_with fail
      refine (alike_any A1 A2 n1 c1 n2 c2 L1 ls k i wr ((H1.out.below H.out.2.1 (Nat.le_refl _)).more (Nat.le_refl _) H.out.2.1.size) HM.out (by have := HI.out; omega) HI.out).mono ?_
      rintro e w2 ⟨rfl, hb2⟩
      have H2 := Lib.hid (show Blk w2 w.heap.size 26 #[.slice A1 n1 c1, .slice A2 n2 c2] ∧ Below w.heap.size w w2 from ⟨H.out.1.below hb2 H.out.1.lt, H.out.2.1.trans (hb2.mono H.out.2.1.size)⟩)
      clear hb2
      cases hal : alikeB ls k i with
      | true =>
        go_wp2
        go_ret
        exact ⟨ret_int (by rw [H.out.2.2, HF.out, if_pos hal]), H2.out.2⟩
      | false =>
        go_wp2
        go_roundw
        case rel => exact ⟨k + 1, by omega, by go_num, H2.out.1, H2.out.2, by rw [H.out.2.2, HF.out, if_neg (by simp [hal])]⟩
        case measure => simp [intOf]; omega
    · have hki : k = i := by omega
      subst hki
      go_wp2
      go_ret
      exact ⟨ret_int (by rw [H.out.2.2, Nat.sub_self]; rfl), H.out.2.1⟩
end Go.Proofs.Ytbjfbmienlojkaa

namespace Go.Proofs.Ytbjfbmienlojkaa
open Go.RowKit

theorem prs_one (ls : List (Int × Int)) : ∀ u ∈ prs ls, u.oneCell' = true := by
  intro u hu
  simp only [prs, List.mem_flatMap] at hu
  obtain ⟨p, _, hp⟩ := hu
  simp at hp
  rcases hp with rfl | rfl <;> rfl
theorem Rd.at_add {w : World} {L B sz n : Nat} {ad : Addr} {xs : List Value} (h : Rd w L B sz (some ad) n xs) : ∀ j u, xs[j]? = some u → w.cell? (ad.add j) = some u := by
  intro j u hu
  have hl := h.1
  have hj : j < xs.length := (List.getElem?_eq_some_iff.1 hu).1
  have hn : 0 < n := by
    rcases Nat.eq_zero_or_pos n with h0 | h0
    · subst h0; omega
    · exact h0
  obtain ⟨b, o, e, _, _, hc⟩ := h.2 hn
  injection e with e
  subst e
  rw [show (⟨b, o, none⟩ : Addr).add j = ⟨b, o + j, none⟩ from by unfold Addr.add; split <;> simp_all]
  exact hc j u hu

set_option maxHeartbeats 1000000 in
set_option maxRecDepth 100000 in
theorem cloneP_any (A : Option Addr) (n c L B : Nat) (ls : List (Int × Int)) (w : World) (h : Rd w L B 2 A n (prs ls)) (hn : n ≤ 100000) :
    Calls Try.prog 58 #[.slice A n c] w fun e w' => ∃ A' C', e = .returned (.slice A' n C') ∧ w'.ownsRow w.heap.size 66 2 (.slice A' n C') n (prs ls) ∧ Below w.heap.size w w' := by
  have q23 : ∀ (w : World) (a : Option Addr) (n c n' c' : Nat), (binOp .eql 23 (.slice a n c) (.slice none n' c')).run Try.prog w = .ok (.bool a.isNone) w := fun w a n c n' c' => Lib.run_eql_slice_nil w _ _ a n c n' c' Try.underlying23
  have u23 : ∀ w, Sem.run Try.prog (underlying 23) w = .ok (TypeDesc.slice 66) w := run_underlying Try.underlying23
  have H := Lib.hid h
  clear h
  cases A with
  | none =>
    have hn0 : n = 0 := by
      rcases Nat.eq_zero_or_pos n with h0 | h0
      · exact h0
      · obtain ⟨_, _, e, _⟩ := H.out.2 h0; cases e
    subst hn0
    have hl : prs ls = [] := List.eq_nil_of_length_eq_zero (by have := H.out.1; omega)
    rw [hl]
    go_enter Try.func58, Try.ntmps58
    go_wp2
    go_ret
    exact ⟨none, 0, rfl, World.ownsRow_nil _ _ _ _, Below.refl _ _⟩
  | some ad =>
    have hinfo : (Try.prog.info? 66).map (fun i => (i.zero, i.size, i.bytes)) = some (some (.agg #[.int .i64 0, .int .i64 0]), 2, 16) := by kernel_rfl
    obtain ⟨j0, hj, jz0, jz1, jz2⟩ := info_parts hinfo
    clear hinfo
    go_enter Try.func58, Try.ntmps58
    go_wp2_with (at_builtin; refine wpList_append_own _ rfl _ _ 23 rfl w.heap.size 66 j0 (.agg #[.int .i64 0, .int .i64 0]) 2 16 Try.underlying23 hj jz0 jz1 jz2 rfl (by decide) _ _ _ rfl (World.ownsRow_made w #[] 0 (Nat.le_refl _) (Nat.zero_le _) rfl) ad n c (prs ls) rfl ?qc1 ?qc2 ?qc3 ?qc4 ?qc5 ?qc6 ?_)
    case qc1 => exact H.out.1
    case qc2 =>
      intro j u hu
      exact Lib.cell?_alloc_some _ (H.out.at_add j u hu)
    case qc3 => exact prs_one ls
    case qc4 => unfold maxLen; omega
    case qc5 => omega
    case qc6 => simp
    intro v' w1 hown hgrow hnil
    obtain ⟨A', C', rfl⟩ := own_slice hown
    go_wp2
    go_ret
    exact ⟨A', C', rfl, by simpa using hown, ((Below.refl _ w).alloc (Nat.le_refl _) _).grown hgrow (by simp) (by intro k hk; simp [Value.ownBlock] at hk; omega)⟩

set_option maxHeartbeats 1000000 in
set_option maxRecDepth 100000 in
theorem cloneI_any (A : Option Addr) (n c L B : Nat) (st : List Int) (w : World) (h : Rd w L B 1 A n (st.map (Value.int .i64))) (hn : n ≤ 100000) :
    Calls Try.prog 76 #[.slice A n c] w fun e w' => ∃ A' C', e = .returned (.slice A' n C') ∧ w'.ownsRow w.heap.size 3 1 (.slice A' n C') n (st.map (Value.int .i64)) ∧ Below w.heap.size w w' := by
  have q24 : ∀ (w : World) (a : Option Addr) (n c n' c' : Nat), (binOp .eql 24 (.slice a n c) (.slice none n' c')).run Try.prog w = .ok (.bool a.isNone) w := fun w a n c n' c' => Lib.run_eql_slice_nil w _ _ a n c n' c' Try.underlying24
  have u24 : ∀ w, Sem.run Try.prog (underlying 24) w = .ok (TypeDesc.slice 3) w := run_underlying Try.underlying24
  have H := Lib.hid h
  clear h
  cases A with
  | none =>
    have hn0 : n = 0 := by
      rcases Nat.eq_zero_or_pos n with h0 | h0
      · exact h0
      · obtain ⟨_, _, e, _⟩ := H.out.2 h0; cases e
    subst hn0
    have hl : st.map (Value.int .i64) = [] := List.eq_nil_of_length_eq_zero (by have := H.out.1; omega)
    rw [hl]
    go_enter Try.func76, Try.ntmps76
    go_wp2
    go_ret
    exact ⟨none, 0, rfl, World.ownsRow_nil _ _ _ _, Below.refl _ _⟩
  | some ad =>
    have hinfo : (Try.prog.info? 3).map (fun i => (i.zero, i.size, i.bytes)) = some (some (.int .i64 0), 1, 8) := by kernel_rfl
    obtain ⟨j0, hj, jz0, jz1, jz2⟩ := info_parts hinfo
    clear hinfo
    go_enter Try.func76, Try.ntmps76
    go_wp2_with (at_builtin; refine wpList_append_own _ rfl _ _ 24 rfl w.heap.size 3 j0 (.int .i64 0) 1 8 Try.underlying24 hj jz0 jz1 jz2 rfl (by decide) _ _ _ rfl (World.ownsRow_made w #[] 0 (Nat.le_refl _) (Nat.zero_le _) rfl) ad n c (st.map (Value.int .i64)) rfl ?qc1 ?qc2 ?qc3 ?qc4 ?qc5 ?qc6 ?_)
    case qc1 => exact H.out.1
    case qc2 =>
      intro j u hu
      exact Lib.cell?_alloc_some _ (H.out.at_add j u hu)
    case qc3 => intro u hu; obtain ⟨x, _, rfl⟩ := List.mem_map.1 hu; rfl
    case qc4 => unfold maxLen; omega
    case qc5 => omega
    case qc6 => simp
    intro v' w1 hown hgrow hnil
    obtain ⟨A', C', rfl⟩ := own_slice hown
    go_wp2
    go_ret
    exact ⟨A', C', rfl, by simpa using hown, ((Below.refl _ w).alloc (Nat.le_refl _) _).grown hgrow (by simp) (by intro k hk; simp [Value.ownBlock] at hk; omega)⟩
end Go.Proofs.Ytbjfbmienlojkaa
