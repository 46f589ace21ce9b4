/- Rows of syllables: equal, cloned; their weight, main stress, pattern; alike: the program's and the reference's. -/
import Derived.Test.YtogofchpocoebaaW4
import Derived.Test.YtogofchpocoebaaU2
import Derived.Test.YtogofchpocoebaaS2
namespace Go.Proofs.Ytogofchpocoebaa
open Go.RowKit Go.Maps

theorem drop_atS (l : List Sy) (k : Nat) (h : k < l.length) : l.drop k = l[k] :: l.drop (k + 1) := List.drop_eq_getElem_cons h
theorem getD_at {l : List Sy} {k : Nat} (h : k < l.length) : l.getD k sy0 = l[k] := by rw [List.getD_eq_getElem?_getD, List.getElem?_eq_getElem h]; rfl
theorem wtK_in (l : List Sy) : ∀ k : Nat, (k : Int) ≤ wtK l k ∧ wtK l k ≤ 2 * (k : Int) := by
  intro k
  induction k with
  | zero => simp [wtK]
  | succ k ih =>
    unfold wtK
    split <;> omega

set_option maxHeartbeats 4000000 in
theorem equalS_any (A B : Option Addr) (n c m d L1 L2 B1 B2 : Nat) (l1 l2 : List Sy) (w : World)
    (h1 : Rd w L1 B1 5 A n (sys l1)) (h2 : Rd w L2 B2 5 B m (sys l2)) (e1 : n ≤ maxLen) (e2 : m ≤ maxLen) (z1 : B1 ≤ w.heap.size) (z2 : B2 ≤ w.heap.size) :
    Calls Try.prog 88 #[.slice A n c, .slice B m d] w fun e w' => e = .returned (.bool (decide (l1 = l2))) ∧ Below w.heap.size w w' := by
  unfold maxLen at e1 e2
  have Q := Lib.hid (And.intro h1.len_sy h2.len_sy)
  have H1 := Lib.hid h1
  have H2 := Lib.hid h2
  clear h1 h2
  by_cases hn : n = m
  · subst hn
    have hb1 : ((n : Int) != (n : Int)) = false := by simp
    go_enter Try.func88, Try.ntmps88
    go_wp2
    go_loopw [13] (fun v wr => ∃ k : Nat, k ≤ n ∧ v = .int .i64 k ∧ Hid (Below w.heap.size w wr ∧ decide (l1 = l2) = decide (l1.drop k = l2.drop k))) (fun v _ => n - (intOf v).toNat)
    case atStart => exact ⟨0, by omega, rfl, Below.refl _ _, rfl⟩
    case round =>
      obtain ⟨k, hk, rfl, H⟩ := hrel
      by_cases hlt : k < n
      · obtain ⟨b, o, hl, rfl, hL, hB, p1, p2, p3, p4, p5⟩ := (H1.out.below H.out.1 z1).sy (k := k) hlt
        obtain ⟨b', o', hl', rfl, hL', hB', r1, r2, r3, r4, r5⟩ := (H2.out.below H.out.1 z2).sy (k := k) hlt
        have hde : decide (l1.drop k = l2.drop k) = (decide (l1[k] = l2[k]) && decide (l1.drop (k + 1) = l2.drop (k + 1))) := by
          refine (decide_eq_decide.2 ?_).trans (Bool.decide_and _ _)
          rw [drop_atS l1 k hl, drop_atS l2 k hl']
          exact List.cons_eq_cons
        generalize l1[k] = x at *
        generalize l2[k] = y at *
        obtain ⟨x1, x2, x3, x4, x5⟩ := x
        obtain ⟨y1, y2, y3, y4, y5⟩ := y
        change wr.cell? _ = some (.int .i64 x1) at p1
        change wr.cell? _ = some (.int .i64 x2) at p2
        change wr.cell? _ = some (.int .i64 x3) at p3
        change wr.cell? _ = some (.int .i64 x4) at p4
        change wr.cell? _ = some (.bool x5) at p5
        change wr.cell? _ = some (.int .i64 y1) at r1
        change wr.cell? _ = some (.int .i64 y2) at r2
        change wr.cell? _ = some (.int .i64 y3) at r3
        change wr.cell? _ = some (.int .i64 y4) at r4
        change wr.cell? _ = some (.bool y5) at r5
        have HDE := Lib.hid hde
        have i1 : (0 : Int) ≤ (k : Int) := by omega
        have i2 : (k : Int) < (n : Int) := by omega
        clear hde
        by_cases g : ((x1, x2, x3, x4, x5) : Sy) = (y1, y2, y3, y4, y5)
        · cases g
          go_wp2
          go_quiet (fail)
          go_wp2
          go_roundw
          case rel => exact ⟨k + 1, by omega, by go_num, Lib.hid ⟨bdrawn H.out.1 _, by rw [H.out.2, HDE.out]; simp⟩⟩
          case measure => simp [intOf]; omega
        · have HG := Lib.hid (show decide (l1 = l2) = false by rw [H.out.2, HDE.out, decide_eq_false g]; rfl)
          have hg : ¬ (x1 = y1 ∧ x2 = y2 ∧ x3 = y3 ∧ x4 = y4 ∧ x5 = y5) := by simpa using g
          clear g
          by_cases g1 : x1 = y1
          case neg =>
            clear hg
            go_wp2
            go_quiet (fail)
            go_wp2
            go_ret
            exact ⟨ret_bool HG.out.symm, bdrawn H.out.1 _⟩
          subst g1
          by_cases g2 : x2 = y2
          case neg =>
            clear hg
            go_wp2
            go_quiet (fail)
            go_wp2
            go_ret
            exact ⟨ret_bool HG.out.symm, bdrawn H.out.1 _⟩
          subst g2
          by_cases g3 : x3 = y3
          case neg =>
            clear hg
            go_wp2
            go_quiet (fail)
            go_wp2
            go_ret
            exact ⟨ret_bool HG.out.symm, bdrawn H.out.1 _⟩
          subst g3
          by_cases g4 : x4 = y4
          case neg =>
            clear hg
            go_wp2
            go_quiet (fail)
            go_wp2
            go_ret
            exact ⟨ret_bool HG.out.symm, bdrawn H.out.1 _⟩
          subst g4
          have g5 : x5 ≠ y5 := fun e => hg ⟨rfl, rfl, rfl, rfl, e⟩
          clear hg
          go_wp2
          go_quiet (fail)
          go_wp2
          go_ret
          exact ⟨ret_bool HG.out.symm, bdrawn H.out.1 _⟩
      · have hkn : k = n := by omega
        subst hkn
        have HL := Lib.hid (show decide (l1 = l2) = true by rw [H.out.2, List.drop_of_length_le (by rw [Q.out.1]; exact Nat.le_refl _), List.drop_of_length_le (by rw [Q.out.2]; exact Nat.le_refl _)]; rfl)
        go_wp2
        go_ret
        exact ⟨ret_bool HL.out.symm, H.out.1⟩
  · have hs : decide (l1 = l2) = false := by
      simp only [decide_eq_false_iff_not]
      intro hh; apply hn; rw [← Q.out.1, ← Q.out.2, hh]
    have hb1 : ((n : Int) != (m : Int)) = true := by simp; omega
    have HS := Lib.hid hs
    clear hs hn
    go_enter Try.func88, Try.ntmps88
    go_wp2
    go_ret
    exact ⟨ret_bool HS.out.symm, Below.refl _ _⟩

set_option maxHeartbeats 1000000 in
set_option maxRecDepth 100000 in
theorem cloneS_any (A : Option Addr) (n c L B : Nat) (ls : List Sy) (w : World) (h : Rd w L B 5 A n (sys ls)) (hn : n * 40 ≤ 140737488351232) :
    Calls Try.prog 100 #[.slice A n c] w fun e w' => ∃ A' C', e = .returned (.slice A' n C') ∧ w'.ownsRow w.heap.size 37 5 (.slice A' n C') n (sys ls) ∧ Below w.heap.size w w' := by
  have q23 : ∀ (w : World) (a : Option Addr) (n c n' c' : Nat), (binOp .eql 23 (.slice a n c) (.slice none n' c')).run Try.prog w = .ok (.bool a.isNone) w := fun w a n c n' c' => Lib.run_eql_slice_nil w _ _ a n c n' c' Try.underlying23
  have u23 : ∀ w, Sem.run Try.prog (underlying 23) w = .ok (TypeDesc.slice 37) w := run_underlying Try.underlying23
  have H := Lib.hid h
  clear h
  cases A with
  | none =>
    have hn0 : n = 0 := by
      rcases Nat.eq_zero_or_pos n with h0 | h0
      · exact h0
      · obtain ⟨_, _, e, _⟩ := H.out.2 h0; cases e
    subst hn0
    have hl : sys ls = [] := List.eq_nil_of_length_eq_zero (by have := H.out.1; omega)
    rw [hl]
    go_enter Try.func100, Try.ntmps100
    go_wp2
    go_ret
    exact ⟨none, 0, rfl, World.ownsRow_nil _ _ _ _, Below.refl _ _⟩
  | some ad =>
    obtain ⟨j0, hj, jz0, jz1, jz2⟩ := info_parts info37
    go_enter Try.func100, Try.ntmps100
    go_wp2_with (at_builtin; refine wpList_append_own _ rfl _ _ 23 rfl w.heap.size 37 j0 (.agg #[.int .i64 0, .int .i64 0, .int .i64 0, .int .i64 0, .bool false]) 5 40 Try.underlying23 hj jz0 jz1 jz2 rfl (by decide) _ _ _ rfl (World.ownsRow_made w #[] 0 (Nat.le_refl _) (Nat.zero_le _) rfl) ad n c (sys ls) rfl ?qc1 ?qc2 ?qc3 ?qc4 ?qc5 ?qc6 ?_)
    case qc1 => exact H.out.1
    case qc2 =>
      intro j u hu
      exact Lib.cell?_alloc_some _ (H.out.at_add j u hu)
    case qc3 => exact sys_one ls
    case qc4 => unfold maxLen; omega
    case qc5 => omega
    case qc6 => simp
    intro v' w1 hown hgrow hnil
    obtain ⟨A', C', rfl⟩ := own_slice hown
    go_wp2
    go_ret
    exact ⟨A', C', rfl, by simpa using hown, ((Below.refl _ w).alloc (Nat.le_refl _) _).grown hgrow (by simp) (by intro k hk; simp [Value.ownBlock] at hk; omega)⟩

set_option maxHeartbeats 4000000 in
theorem weight_any (A : Option Addr) (n c L B : Nat) (ss : List Sy) (w : World) (h : Rd w L B 5 A n (sys ss)) (hB : B ≤ w.heap.size) (hz : n ≤ 140737488355328) :
    Calls Try.prog 91 #[.slice A n c] w fun e w' => e = .returned (.int .i64 (wtK ss n)) ∧ Below w.heap.size w w' := by
  have HN := Lib.hid h.len_sy
  have H := Lib.hid h
  clear h
  go_enter Try.func91, Try.ntmps91
  go_wp2
  go_loopw [3, 5, 10] (fun v3 _ v10 wr => ∃ k : Nat, k ≤ n ∧ v10 = .int .i64 k ∧ Hid (Below w.heap.size w wr ∧ v3 = .int .i64 ((n : Int) + (wtK ss k - (k : Int))))) (fun _ _ v10 _ => n - (intOf v10).toNat)
  case atStart => exact ⟨0, by omega, rfl, Lib.hid ⟨Below.refl _ _, by simp [wtK]⟩⟩
  case round =>
    obtain ⟨k, hk, rfl, HR⟩ := hrel
    have hv3 := HR.out.2
    subst hv3
    have hin := wtK_in ss k
    by_cases hlt : k < n
    · skip
      obtain ⟨b, o, hl, rfl, hL, hB2, x0, x1, x2, x3, x4⟩ := (H.out.below HR.out.1 hB).sy (k := k) hlt
      have hge := getD_at hl
      have hst : wtK ss (k + 1) = wtK ss k + (if ss[k].hv then 2 else 1) := by
        show wtK ss k + _ = _
        rw [hge]
      generalize ss[k] = s at *
      generalize hW : (n : Int) + (wtK ss k - (k : Int)) = W at *
      have HW := Lib.hid hW
      have w1 : IntKind.i64.wrap (W + 1) = W + 1 := IntWalk.i64_in _ (by omega)
      have HST := Lib.hid hst
      clear hst hge hW hL hB2
      have i1 : (0 : Int) ≤ (k : Int) := by omega
      have i2 : (k : Int) < (n : Int) := by omega
      go_upto_region 5 with (fail)
      refine wp_abs (fun wx => Below w.heap.size w wx ∧ Blk wx wr.heap.size 37 #[.int .i64 s.fr, .int .i64 s.nu, .int .i64 s.to_, .int .i64 s.st, .bool s.hv]) ⟨HR.out.1.trans (((Below.refl _ _).alloc (Nat.le_refl _) _).mono HR.out.1.size), Blk.new _ _ _⟩ ?_
      clear x0 x1 x2 x3 x4
      rintro wx ⟨hbx, hX⟩
      have x4 : wx.cell? ⟨wr.heap.size, 4, none⟩ = some (.bool s.hv) := hX.cell 4
      have HX := Lib.hid hbx
      clear hbx hX
      cases hhv : s.hv with
      | true =>
        rw [hhv] at x4
        have HV := Lib.hid (show wtK ss (k + 1) = wtK ss k + 2 by rw [HST.out, hhv]; rfl)
        clear hhv
        go_wp2
        go_roundw
        case rel => exact ⟨k + 1, by omega, by go_num, Lib.hid ⟨HX.out, congrArg (Value.int .i64) (by have h1 := HW.out; have h2 := HV.out; omega)⟩⟩
        case measure => simp [intOf]; omega
      | false =>
        rw [hhv] at x4
        have HV := Lib.hid (show wtK ss (k + 1) = wtK ss k + 1 by rw [HST.out, hhv]; rfl)
        clear hhv
        go_wp2
        go_roundw
        case rel => exact ⟨k + 1, by omega, by go_num, Lib.hid ⟨HX.out, congrArg (Value.int .i64) (by have h1 := HW.out; have h2 := HV.out; omega)⟩⟩
        case measure => simp [intOf]; omega
    · obtain rfl : k = n := by omega
      have di : ¬ ((k : Int) < (k : Int)) := by omega
      generalize hW : (k : Int) + (wtK ss k - (k : Int)) = W at *
      have HW := Lib.hid hW
      clear hW
      go_wp2
      go_ret
      exact ⟨ret_int (by have := HW.out; omega), HR.out.1⟩

set_option maxHeartbeats 4000000 in
theorem refWeight_any (A : Option Addr) (n c L B : Nat) (ss : List Sy) (w : World) (h : Rd w L B 5 A n (sys ss)) (hB : B ≤ w.heap.size) (hz : n ≤ 140737488355328) :
    Calls Try.prog 103 #[.slice A n c] w fun e w' => e = .returned (.int .i64 (wtK ss n)) ∧ Below w.heap.size w w' := by
  have HN := Lib.hid h.len_sy
  have H := Lib.hid h
  clear h
  go_enter Try.func103, Try.ntmps103
  go_wp2
  go_loopw [3, 4] (fun v3 v4 wr => ∃ k : Nat, k ≤ n ∧ v4 = .int .i64 k ∧ Hid (Below w.heap.size w wr ∧ v3 = .int .i64 (wtK ss k))) (fun _ v4 _ => n - (intOf v4).toNat)
  case atStart => exact ⟨0, by omega, rfl, Lib.hid ⟨Below.refl _ _, by simp [wtK]⟩⟩
  case round =>
    obtain ⟨k, hk, rfl, HR⟩ := hrel
    have hv3 := HR.out.2
    subst hv3
    have hin := wtK_in ss k
    by_cases hlt : k < n
    · skip
      obtain ⟨b, o, hl, rfl, hL, hB2, x0, x1, x2, x3, x4⟩ := (H.out.below HR.out.1 hB).sy (k := k) hlt
      have hge := getD_at hl
      have hst : wtK ss (k + 1) = wtK ss k + (if ss[k].hv then 2 else 1) := by
        show wtK ss k + _ = _
        rw [hge]
      generalize ss[k] = s at *
      generalize hW : wtK ss k = W at *
      have HW := Lib.hid hW
      have w1 : IntKind.i64.wrap (W + 1) = W + 1 := IntWalk.i64_in _ (by omega)
      have w2 : IntKind.i64.wrap (W + 1 + 1) = W + 1 + 1 := IntWalk.i64_in _ (by omega)
      have HST := Lib.hid hst
      clear hst hge hW hL hB2
      have i1 : (0 : Int) ≤ (k : Int) := by omega
      have i2 : (k : Int) < (n : Int) := by omega
      cases hhv : s.hv with
      | true =>
        rw [hhv] at x4
        have HV := Lib.hid (show wtK ss (k + 1) = W + 2 by rw [HST.out, hhv]; rfl)
        clear hhv
        go_wp2
        go_roundw
        case rel => exact ⟨k + 1, by omega, by go_num, Lib.hid ⟨HR.out.1, congrArg (Value.int .i64) (by have h1 := HW.out; have h2 := HV.out; omega)⟩⟩
        case measure => simp [intOf]; omega
      | false =>
        rw [hhv] at x4
        have HV := Lib.hid (show wtK ss (k + 1) = W + 1 by rw [HST.out, hhv]; rfl)
        clear hhv
        go_wp2
        go_roundw
        case rel => exact ⟨k + 1, by omega, by go_num, Lib.hid ⟨HR.out.1, congrArg (Value.int .i64) (by have h1 := HW.out; have h2 := HV.out; omega)⟩⟩
        case measure => simp [intOf]; omega
    · obtain rfl : k = n := by omega
      have di : ¬ ((k : Int) < (k : Int)) := by omega
      generalize hW : wtK ss k = W at *
      have HW := Lib.hid hW
      clear hW
      go_wp2
      go_ret
      exact ⟨ret_int (by have := HW.out; omega), HR.out.1⟩

set_option maxHeartbeats 4000000 in
theorem main_any (A : Option Addr) (n c L B : Nat) (ss : List Sy) (w : World) (h : Rd w L B 5 A n (sys ss)) (hB : B ≤ w.heap.size) (hz : n ≤ 140737488355328) :
    Calls Try.prog 92 #[.slice A n c] w fun e w' => e = .returned (.int .i64 (mnF ss)) ∧ Below w.heap.size w w' := by
  have HN := Lib.hid h.len_sy
  have H := Lib.hid h
  clear h
  go_enter Try.func92, Try.ntmps92
  go_wp2
  go_loopw [3, 4, 7] (fun _ _ v7 wr => ∃ k : Nat, k ≤ n ∧ v7 = .int .i64 k ∧ Hid (Below w.heap.size w wr ∧ mnF ss = mnGo ss k (ss.length - k))) (fun _ _ v7 _ => n - (intOf v7).toNat)
  case atStart => exact ⟨0, by omega, rfl, Lib.hid ⟨Below.refl _ _, rfl⟩⟩
  case round =>
    obtain ⟨k, hk, rfl, HR⟩ := hrel
    by_cases hlt : k < n
    · skip
      obtain ⟨b, o, hl, rfl, hL, hB2, x0, x1, x2, x3, x4⟩ := (H.out.below HR.out.1 hB).sy (k := k) hlt
      have hge := getD_at hl
      have hst := mn_step hl
      rw [hge] at hst
      generalize ss[k] = s at *
      have HST := Lib.hid hst
      clear hst hge hL hB2
      have i1 : (0 : Int) ≤ (k : Int) := by omega
      have i2 : (k : Int) < (n : Int) := by omega
      go_upto_region 4 with (fail)
      refine wp_abs (fun wx => Below w.heap.size w wx ∧ Blk wx wr.heap.size 37 #[.int .i64 s.fr, .int .i64 s.nu, .int .i64 s.to_, .int .i64 s.st, .bool s.hv]) ⟨HR.out.1.trans (((Below.refl _ _).alloc (Nat.le_refl _) _).mono HR.out.1.size), Blk.new _ _ _⟩ ?_
      clear x0 x1 x2 x3 x4
      rintro wx ⟨hbx, hX⟩
      have x3 : wx.cell? ⟨wr.heap.size, 3, none⟩ = some (.int .i64 s.st) := hX.cell 3
      have HX := Lib.hid hbx
      clear hbx hX
      by_cases hhv : s.st = 2
      · have e2 : (s.st == 2) = true := by rw [hhv]; rfl
        have HV := Lib.hid (show mnF ss = (k : Int) by rw [HR.out.2, HST.out, if_pos hhv])
        rw [hhv] at x3
        clear hhv
        go_wp2
        go_ret
        exact ⟨ret_int HV.out.symm, HX.out⟩
      · have e2 : (s.st == 2) = false := beq_eq_false_iff_ne.2 hhv
        have HV := Lib.hid (show mnF ss = mnGo ss (k + 1) (ss.length - (k + 1)) by rw [HR.out.2, HST.out, if_neg hhv])
        clear hhv
        go_wp2
        go_roundw
        case rel => exact ⟨k + 1, by omega, by go_num, Lib.hid ⟨HX.out, HV.out⟩⟩
        case measure => simp [intOf]; omega
    · obtain rfl : k = n := by omega
      have di : ¬ ((k : Int) < (k : Int)) := by omega
      have HV := Lib.hid (show mnF ss = -1 by rw [HR.out.2, HN.out, Nat.sub_self]; rfl)
      go_wp2
      go_ret
      exact ⟨ret_int HV.out.symm, HR.out.1⟩

set_option maxHeartbeats 4000000 in
theorem refMain_any (A : Option Addr) (n c L B : Nat) (ss : List Sy) (w : World) (h : Rd w L B 5 A n (sys ss)) (hB : B ≤ w.heap.size) (hz : n ≤ 140737488355328) :
    Calls Try.prog 104 #[.slice A n c] w fun e w' => e = .returned (.int .i64 (mnF ss)) ∧ Below w.heap.size w w' := by
  have HN := Lib.hid h.len_sy
  have H := Lib.hid h
  clear h
  go_enter Try.func104, Try.ntmps104
  go_wp2
  go_loopw [3] (fun v3 wr => ∃ k : Nat, k ≤ n ∧ v3 = .int .i64 k ∧ Hid (Below w.heap.size w wr ∧ mnF ss = mnGo ss k (ss.length - k))) (fun v3 _ => n - (intOf v3).toNat)
  case atStart => exact ⟨0, by omega, rfl, Lib.hid ⟨Below.refl _ _, rfl⟩⟩
  case round =>
    obtain ⟨k, hk, rfl, HR⟩ := hrel
    by_cases hlt : k < n
    · skip
      obtain ⟨b, o, hl, rfl, hL, hB2, x0, x1, x2, x3, x4⟩ := (H.out.below HR.out.1 hB).sy (k := k) hlt
      have hge := getD_at hl
      have hst := mn_step hl
      rw [hge] at hst
      generalize ss[k] = s at *
      have HST := Lib.hid hst
      clear hst hge hL hB2
      have i1 : (0 : Int) ≤ (k : Int) := by omega
      have i2 : (k : Int) < (n : Int) := by omega
      by_cases hhv : s.st = 2
      · have e2 : (s.st == 2) = true := by rw [hhv]; rfl
        have HV := Lib.hid (show mnF ss = (k : Int) by rw [HR.out.2, HST.out, if_pos hhv])
        rw [hhv] at x3
        clear hhv
        go_wp2
        go_ret
        exact ⟨ret_int HV.out.symm, HR.out.1⟩
      · have e2 : (s.st == 2) = false := beq_eq_false_iff_ne.2 hhv
        have HV := Lib.hid (show mnF ss = mnGo ss (k + 1) (ss.length - (k + 1)) by rw [HR.out.2, HST.out, if_neg hhv])
        clear hhv
        go_wp2
        go_roundw
        case rel => exact ⟨k + 1, by omega, by go_num, Lib.hid ⟨HR.out.1, HV.out⟩⟩
        case measure => simp [intOf]; omega
    · obtain rfl : k = n := by omega
      have di : ¬ ((k : Int) < (k : Int)) := by omega
      have HV := Lib.hid (show mnF ss = -1 by rw [HR.out.2, HN.out, Nat.sub_self]; rfl)
      go_wp2
      go_ret
      exact ⟨ret_int HV.out.symm, HR.out.1⟩

set_option maxHeartbeats 4000000 in
set_option maxRecDepth 100000 in
theorem alike_any (A D : Option Addr) (n c m d L1 L2 B1 B2 : Nat) (l1 l2 : List Sy) (w : World)
    (h1 : Rd w L1 B1 5 A n (sys l1)) (h2 : Rd w L2 B2 5 D m (sys l2)) (e1 : n ≤ maxLen) (z1 : B1 ≤ w.heap.size) (z2 : B2 ≤ w.heap.size) :
    Calls Try.prog 99 #[.slice A n c, .slice D m d] w fun e w' => e = .returned (.bool (alikeF l1 l2)) ∧ Below w.heap.size w w' := by
  unfold maxLen at e1
  have Q := Lib.hid (And.intro h1.len_sy h2.len_sy)
  have HF := Lib.hid (show alikeF l1 l2 = if l1.length = l2.length then alGoS l1 l2 0 l1.length else false from rfl)
  have H1 := Lib.hid h1
  have H2 := Lib.hid h2
  clear h1 h2
  by_cases hn : n = m
  · subst hn
    have hb1 : ((n : Int) != (n : Int)) = false := by simp
    have HG := Lib.hid (show alikeF l1 l2 = alGoS l1 l2 0 l1.length by rw [HF.out, if_pos (by rw [Q.out.1, Q.out.2])])
    go_enter Try.func99, Try.ntmps99
    go_wp2
    go_loopw [5, 13] (fun _ v13 wr => ∃ k : Nat, k ≤ n ∧ v13 = .int .i64 k ∧ Hid (Below w.heap.size w wr ∧ alikeF l1 l2 = alGoS l1 l2 k (l1.length - k))) (fun _ v13 _ => n - (intOf v13).toNat)
    case atStart => exact ⟨0, by omega, rfl, Lib.hid ⟨Below.refl _ _, HG.out⟩⟩
    case round =>
      obtain ⟨k, hk, rfl, H⟩ := hrel
      by_cases hlt : k < n
      · obtain ⟨b, o, hl, rfl, hL, hB, _, _, _, p4, p5⟩ := (H1.out.below H.out.1 z1).sy (k := k) hlt
        obtain ⟨b', o', hl', rfl, hL', hB', _, _, _, r4, r5⟩ := (H2.out.below H.out.1 z2).sy (k := k) hlt
        have hst := alS_step (a := l1) (b := l2) (k := k) hl
        rw [getD_at hl, getD_at hl'] at hst
        generalize l1[k] = x at *
        generalize l2[k] = y at *
        generalize x.st = a4 at *
        generalize x.hv = a5 at *
        generalize y.st = b4 at *
        generalize y.hv = b5 at *
        have HST := Lib.hid hst
        clear hst
        have i1 : (0 : Int) ≤ (k : Int) := by omega
        have i2 : (k : Int) < (n : Int) := by omega
        by_cases g1 : a4 = b4
        · subst g1
          have t1 : (a4 != a4) = false := by simp
          by_cases g2 : a5 = b5
          · subst g2
            have t2 : (a5 != a5) = false := by simp
            go_wp2
            go_quiet (fail)
            go_wp2
            go_roundw
            case rel => exact ⟨k + 1, by omega, by go_num, Lib.hid ⟨bdrawn H.out.1 _, by rw [H.out.2, HST.out]; simp⟩⟩
            case measure => simp [intOf]; omega
          · have t2 : (a5 == b5) = false := by simpa using g2
            have HV := Lib.hid (show alikeF l1 l2 = false by rw [H.out.2, HST.out]; simp [g2])
            clear g2
            go_wp2
            go_quiet (fail)
            go_wp2
            go_ret
            exact ⟨ret_bool HV.out.symm, bdrawn H.out.1 _⟩
        · have t1 : (a4 != b4) = true := by simpa using g1
          have t1' : (a4 == b4) = false := by simpa using g1
          have HV := Lib.hid (show alikeF l1 l2 = false by rw [H.out.2, HST.out]; simp [g1])
          clear g1
          go_wp2
          go_quiet (fail)
          go_wp2
          go_ret
          exact ⟨ret_bool HV.out.symm, bdrawn H.out.1 _⟩
      · have hkn : k = n := by omega
        subst hkn
        have di : ¬ ((k : Int) < (k : Int)) := by omega
        have HL := Lib.hid (show alikeF l1 l2 = true by rw [H.out.2, Q.out.1, Nat.sub_self]; rfl)
        go_wp2
        go_ret
        exact ⟨ret_bool HL.out.symm, H.out.1⟩
  · have HL := Lib.hid (show alikeF l1 l2 = false by rw [HF.out, if_neg (by rw [Q.out.1, Q.out.2]; exact hn)])
    have hb1 : ((n : Int) != (m : Int)) = true := by simp; omega
    clear hn
    go_enter Try.func99, Try.ntmps99
    go_wp2
    go_ret
    exact ⟨ret_bool HL.out.symm, Below.refl _ _⟩

set_option maxHeartbeats 4000000 in
set_option maxRecDepth 100000 in
theorem refAlike_any (A D : Option Addr) (n c m d L1 L2 B1 B2 : Nat) (l1 l2 : List Sy) (w : World)
    (h1 : Rd w L1 B1 5 A n (sys l1)) (h2 : Rd w L2 B2 5 D m (sys l2)) (e1 : n ≤ maxLen) (z1 : B1 ≤ w.heap.size) (z2 : B2 ≤ w.heap.size) :
    Calls Try.prog 105 #[.slice A n c, .slice D m d] w fun e w' => e = .returned (.bool (alikeF l1 l2)) ∧ Below w.heap.size w w' := by
  unfold maxLen at e1
  have Q := Lib.hid (And.intro h1.len_sy h2.len_sy)
  have HF := Lib.hid (show alikeF l1 l2 = if l1.length = l2.length then alGoS l1 l2 0 l1.length else false from rfl)
  have H1 := Lib.hid h1
  have H2 := Lib.hid h2
  clear h1 h2
  by_cases hn : n = m
  · subst hn
    have hb1 : ((n : Int) != (n : Int)) = false := by simp
    have HG := Lib.hid (show alikeF l1 l2 = alGoS l1 l2 0 l1.length by rw [HF.out, if_pos (by rw [Q.out.1, Q.out.2])])
    go_enter Try.func105, Try.ntmps105
    go_wp2
    go_loopw [5] (fun v5 wr => ∃ k : Nat, k ≤ n ∧ v5 = .int .i64 k ∧ Hid (Below w.heap.size w wr ∧ alikeF l1 l2 = alGoS l1 l2 k (l1.length - k))) (fun v5 _ => n - (intOf v5).toNat)
    case atStart => exact ⟨0, by omega, rfl, Lib.hid ⟨Below.refl _ _, HG.out⟩⟩
    case round =>
      obtain ⟨k, hk, rfl, H⟩ := hrel
      by_cases hlt : k < n
      · obtain ⟨b, o, hl, rfl, hL, hB, _, _, _, p4, p5⟩ := (H1.out.below H.out.1 z1).sy (k := k) hlt
        obtain ⟨b', o', hl', rfl, hL', hB', _, _, _, r4, r5⟩ := (H2.out.below H.out.1 z2).sy (k := k) hlt
        have hst := alS_step (a := l1) (b := l2) (k := k) hl
        rw [getD_at hl, getD_at hl'] at hst
        generalize l1[k] = x at *
        generalize l2[k] = y at *
        generalize x.st = a4 at *
        generalize x.hv = a5 at *
        generalize y.st = b4 at *
        generalize y.hv = b5 at *
        have HST := Lib.hid hst
        clear hst
        have i1 : (0 : Int) ≤ (k : Int) := by omega
        have i2 : (k : Int) < (n : Int) := by omega
        by_cases g1 : a4 = b4
        · subst g1
          have t1 : (a4 != a4) = false := by simp
          by_cases g2 : a5 = b5
          · subst g2
            have t2 : (a5 != a5) = false := by simp
            go_wp2
            go_quiet (fail)
            go_wp2
            go_roundw
            case rel => exact ⟨k + 1, by omega, by go_num, Lib.hid ⟨bdrawn H.out.1 _, by rw [H.out.2, HST.out]; simp⟩⟩
            case measure => simp [intOf]; omega
          · have t2 : (a5 == b5) = false := by simpa using g2
            have HV := Lib.hid (show alikeF l1 l2 = false by rw [H.out.2, HST.out]; simp [g2])
            clear g2
            go_wp2
            go_quiet (fail)
            go_wp2
            go_ret
            exact ⟨ret_bool HV.out.symm, bdrawn H.out.1 _⟩
        · have t1 : (a4 != b4) = true := by simpa using g1
          have t1' : (a4 == b4) = false := by simpa using g1
          have HV := Lib.hid (show alikeF l1 l2 = false by rw [H.out.2, HST.out]; simp [g1])
          clear g1
          go_wp2
          go_quiet (fail)
          go_wp2
          go_ret
          exact ⟨ret_bool HV.out.symm, bdrawn H.out.1 _⟩
      · have hkn : k = n := by omega
        subst hkn
        have di : ¬ ((k : Int) < (k : Int)) := by omega
        have HL := Lib.hid (show alikeF l1 l2 = true by rw [H.out.2, Q.out.1, Nat.sub_self]; rfl)
        go_wp2
        go_ret
        exact ⟨ret_bool HL.out.symm, H.out.1⟩
  · have HL := Lib.hid (show alikeF l1 l2 = false by rw [HF.out, if_neg (by rw [Q.out.1, Q.out.2]; exact hn)])
    have hb1 : ((n : Int) != (m : Int)) = true := by simp; omega
    clear hn
    go_enter Try.func105, Try.ntmps105
    go_wp2
    go_ret
    exact ⟨ret_bool HL.out.symm, Below.refl _ _⟩
end Go.Proofs.Ytogofchpocoebaa
