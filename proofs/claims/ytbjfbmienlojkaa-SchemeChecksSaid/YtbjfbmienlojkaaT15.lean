/- Equal, and spoil. -/
import Derived.Test.YtbjfbmienlojkaaMem
import Derived.Test.YtbjfbmienlojkaaChecked
import Derived.Deep.QuietTactic
import Derived.BigQuiet
namespace Go.Proofs.Ytbjfbmienlojkaa
open Go.RowKit

def eqS (l1 l2 : List (Int × Int)) (s1 s2 : List Int) : Bool := decide (l1 = l2) && decide (s1 = s2)

/-- memory while Equal runs -/
structure EqSt (w0 : World) (a1 a2 b1_ b2 : Value) (w : World) : Prop where
  b0 : Blk w w0.heap.size 26 #[a1, a2]
  b1 : Blk w (w0.heap.size + 1) 26 #[b1_, b2]
  below : Below w0.heap.size w0 w
theorem eqst_init (w : World) (a1 a2 b1 b2 : Value) : EqSt w a1 a2 b1 b2 ((w.alloc (.cells #[a1, a2] 26)).alloc (.cells #[b1, b2] 26)) :=
  ⟨(Blk.new w _ _).alloc _, by simpa using Blk.new (w.alloc (.cells #[a1, a2] 26)) 26 #[b1, b2], ((Below.refl _ _).alloc (Nat.le_refl _) _).alloc (by simp) _⟩
theorem EqSt.drewN {w0 : World} {a1 a2 b1 b2 : Value} {w : World} (h : EqSt w0 a1 a2 b1 b2 w) (n : Nat) : EqSt w0 a1 a2 b1 b2 (w.drewN n) := ⟨h.b0, h.b1, ⟨h.below.os, h.below.tape, h.below.output, h.below.size, h.below.block⟩⟩

set_option maxHeartbeats 1000000 in
theorem equal_any (A1 A2 B1 B2 : Option Addr) (n1 c1 n2 c2 m1 d1 m2 d2 L1 L2 L3 L4 : Nat) (l1 l2 : List (Int × Int)) (s1 s2 : List Int) (w : World)
    (h1 : Rd w L1 w.heap.size 2 A1 n1 (prs l1)) (h2 : Rd w L2 w.heap.size 1 A2 n2 (s1.map (Value.int .i64))) (h3 : Rd w L3 w.heap.size 2 B1 m1 (prs l2)) (h4 : Rd w L4 w.heap.size 1 B2 m2 (s2.map (Value.int .i64)))
    (e1 : n1 ≤ maxLen) (e2 : n2 ≤ maxLen) (e3 : m1 ≤ maxLen) (e4 : m2 ≤ maxLen) :
    Calls Try.prog 16 #[.agg #[.slice A1 n1 c1, .slice A2 n2 c2], .agg #[.slice B1 m1 d1, .slice B2 m2 d2]] w fun e w' => e = .returned (.bool (eqS l1 l2 s1 s2)) ∧ Below w.heap.size w w' := by
  unfold maxLen at e1 e2 e3 e4
  have q1 : l1.length = n1 := by have := h1.1; rw [prs_len] at this; omega
  have q2 : s1.length = n2 := by have := h2.1; simpa using this
  have q3 : l2.length = m1 := by have := h3.1; rw [prs_len] at this; omega
  have q4 : s2.length = m2 := by have := h4.1; simpa using this
  have Q := Lib.hid (And.intro q1 (And.intro q2 (And.intro q3 q4)))
  have H1 := Lib.hid h1
  have H2 := Lib.hid h2
  have H3 := Lib.hid h3
  have H4 := Lib.hid h4
  clear q1 q2 q3 q4 h1 h2 h3 h4
  have b2 : ∀ (o1 o2 : Obj), Below w.heap.size w ((w.alloc o1).alloc o2) := fun o1 o2 => ((Below.refl _ _).alloc (Nat.le_refl _) _).alloc (by simp) _
  by_cases hn : n1 = m1
  · subst hn
    by_cases hm : n2 = m2
    · subst hm
      have hb1 : ((n1 : Int) != (n1 : Int)) = false := by simp
      go_enter Try.func16, Try.ntmps16
      go_wp2
      refine wp_abs (EqSt w (.slice A1 n1 c1) (.slice A2 n2 c2) (.slice B1 n1 d1) (.slice B2 n2 d2)) (eqst_init w _ _ _ _) ?_
      intro w1 hw1
      go_loopw [26] (fun v wr => ∃ k : Nat, k ≤ n1 ∧ v = .int .i64 k ∧ Hid (EqSt w (.slice A1 n1 c1) (.slice A2 n2 c2) (.slice B1 n1 d1) (.slice B2 n2 d2) wr ∧ decide (l1 = l2) = decide (l1.drop k = l2.drop k))) (fun v _ => n1 - (intOf v).toNat)
      case atStart => exact ⟨0, by omega, rfl, hw1, rfl⟩
      case round =>
        clear hw1 w1
        obtain ⟨k, hk, rfl, H⟩ := hrel
        by_cases hlt : k < n1
        · obtain ⟨b, o, hl, rfl, hL, hB, p1, p2⟩ := H1.out.two hlt
          obtain ⟨b', o', hl', rfl, hL', hB', p3, p4⟩ := H3.out.two hlt
          generalize hx : l1[k] = x at p1 p2
          generalize hy : l2[k] = y at p3 p4
          obtain ⟨x1, x2⟩ := x
          obtain ⟨y1, y2⟩ := y
          have c0 : wr.cell? ⟨w.heap.size, 0, none⟩ = some (.slice (some ⟨b, o, none⟩) n1 c1) := H.out.1.b0.cell 0
          have c1' : wr.cell? ⟨w.heap.size + 1, 0, none⟩ = some (.slice (some ⟨b', o', none⟩) n1 d1) := H.out.1.b1.cell 0
          have r1 := (H.out.1.below.cell (p := ⟨b, o + k * 2, none⟩) hB).trans p1
          have r2 := (H.out.1.below.cell (p := ⟨b, o + k * 2 + 1, none⟩) hB).trans p2
          have r3 := (H.out.1.below.cell (p := ⟨b', o' + k * 2, none⟩) hB').trans p3
          have r4 := (H.out.1.below.cell (p := ⟨b', o' + k * 2 + 1, none⟩) hB').trans p4
          have hde : decide (l1.drop k = l2.drop k) = (decide ((x1, x2) = (y1, y2)) && decide (l1.drop (k + 1) = l2.drop (k + 1))) := by
            rw [drop_at l1 k hl, drop_at l2 k hl', hx, hy]
            simp [Bool.and_assoc, List.cons.injEq]
          have HDE := Lib.hid hde
          have i1 : (0 : Int) ≤ (k : Int) := by omega
          have i2 : (k : Int) < (n1 : Int) := by omega
          clear hde hx hy p1 p2 p3 p4
          by_cases g1 : x1 = y1
          · subst g1
            by_cases g2 : x2 = y2
            · subst g2
              go_wp2
              go_quiet (fail)
              go_wp2
              go_roundw
              case rel => exact ⟨k + 1, by omega, by go_num, Lib.hid ⟨H.out.1.drewN _, by rw [H.out.2, HDE.out]; simp⟩⟩
              case measure => simp [intOf]; omega
            · go_wp2
              go_quiet (fail)
              go_wp2
              go_ret
              exact ⟨ret_bool (by unfold eqS; rw [H.out.2, HDE.out]; simp [g2]), (H.out.1.drewN _).below⟩
          · go_wp2
            go_quiet (fail)
            go_wp2
            go_ret
            exact ⟨ret_bool (by unfold eqS; rw [H.out.2, HDE.out]; simp [g1]), (H.out.1.drewN _).below⟩
        · have hkn : k = n1 := by omega
          subst hkn
          have HL := Lib.hid (show decide (l1 = l2) = true by rw [H.out.2, List.drop_of_length_le (by rw [Q.out.1]; exact Nat.le_refl _), List.drop_of_length_le (by rw [Q.out.2.2.1]; exact Nat.le_refl _)]; rfl)
          have e0 : wr.cell? ⟨w.heap.size, 1, none⟩ = some (.slice A2 n2 c2) := H.out.1.b0.cell 1
          have e1' : wr.cell? ⟨w.heap.size + 1, 1, none⟩ = some (.slice B2 n2 d2) := H.out.1.b1.cell 1
          have HE := Lib.hid H.out.1
          clear H
          go_wp2
          clear e0 e1'
          go_loopw [44] (fun v wr => ∃ j : Nat, j ≤ n2 ∧ v = .int .i64 j ∧ Hid (EqSt w (.slice A1 k c1) (.slice A2 n2 c2) (.slice B1 k d1) (.slice B2 n2 d2) wr ∧ decide (s1 = s2) = decide (s1.drop j = s2.drop j))) (fun v _ => n2 - (intOf v).toNat)
          case atStart => exact ⟨0, by omega, rfl, HE.out, rfl⟩
          case round =>
            obtain ⟨j, hj, rfl, H⟩ := hrel
            by_cases hlt2 : j < n2
            · obtain ⟨b, o, hl, rfl, hL, hB, p1⟩ := H2.out.one hlt2
              obtain ⟨b', o', hl', rfl, hL', hB', p3⟩ := H4.out.one hlt2
              generalize hx : s1[j] = x at p1
              generalize hy : s2[j] = y at p3
              have c0 : wr.cell? ⟨w.heap.size, 1, none⟩ = some (.slice (some ⟨b, o, none⟩) n2 c2) := H.out.1.b0.cell 1
              have c1' : wr.cell? ⟨w.heap.size + 1, 1, none⟩ = some (.slice (some ⟨b', o', none⟩) n2 d2) := H.out.1.b1.cell 1
              have r1 := (H.out.1.below.cell (p := ⟨b, o + j, none⟩) hB).trans p1
              have r3 := (H.out.1.below.cell (p := ⟨b', o' + j, none⟩) hB').trans p3
              have hde : decide (s1.drop j = s2.drop j) = (decide (x = y) && decide (s1.drop (j + 1) = s2.drop (j + 1))) := by
                rw [drop_at s1 j hl, drop_at s2 j hl', hx, hy]
                simp [List.cons.injEq]
              have HDE := Lib.hid hde
              have i1 : (0 : Int) ≤ (j : Int) := by omega
              have i2 : (j : Int) < (n2 : Int) := by omega
              clear hde hx hy p1 p3
              by_cases g1 : x = y
              · subst g1
                go_wp2
                go_quiet (fail)
                go_wp2
                go_roundw
                case rel => exact ⟨j + 1, by omega, by go_num, Lib.hid ⟨H.out.1.drewN _, by rw [H.out.2, HDE.out]; simp⟩⟩
                case measure => simp [intOf]; omega
              · have g1b : (x != y) = true := by simpa using g1
                go_wp2
                go_quiet (fail)
                go_wp2
                go_ret
                exact ⟨ret_bool (by unfold eqS; rw [H.out.2, HDE.out]; simp [g1]), (H.out.1.drewN _).below⟩
            · have HS := Lib.hid (show decide (s1 = s2) = true by rw [H.out.2, List.drop_of_length_le (by rw [Q.out.2.1]; omega), List.drop_of_length_le (by rw [Q.out.2.2.2]; omega)]; rfl)
              go_wp2
              go_ret
              exact ⟨ret_bool (by unfold eqS; rw [HL.out, HS.out]; rfl), H.out.1.below⟩
    · have hs : decide (s1 = s2) = false := by
        simp only [decide_eq_false_iff_not]
        intro hh; apply hm; rw [← Q.out.2.1, ← Q.out.2.2.2, hh]
      have HS := Lib.hid hs
      have hb1 : ((n2 : Int) != (m2 : Int)) = true := by simp; omega
      clear hs
      go_enter Try.func16, Try.ntmps16
      go_wp2
      go_ret
      exact ⟨ret_bool (by unfold eqS; rw [HS.out, Bool.and_false]), b2 _ _⟩
  · have hs : decide (l1 = l2) = false := by
      simp only [decide_eq_false_iff_not]
      intro hh; apply hn; rw [← Q.out.1, ← Q.out.2.2.1, hh]
    have HS := Lib.hid hs
    have hb1 : ((n1 : Int) != (m1 : Int)) = true := by simp; omega
    clear hs
    go_enter Try.func16, Try.ntmps16
    go_wp2
    go_ret
    exact ⟨ret_bool (by unfold eqS; rw [HS.out, Bool.false_and]), b2 _ _⟩
end Go.Proofs.Ytbjfbmienlojkaa
