/- The reference's place of the main stress, and its Stress. -/
import Derived.Test.YtogofchpocoebaaW5
namespace Go.Proofs.Ytogofchpocoebaa
open Go.RowKit Go.Maps

def plF (n : Nat) (rule : Int) (b : Bool) : Nat := if n = 1 ∨ rule = 1 then 0 else if rule = 2 then n - 1 else if rule = 3 ∨ n = 2 ∨ b = true then n - 2 else n - 3
theorem place_any (n : Nat) (rule : Int) (b : Bool) (w : World) (h1 : 1 ≤ n) (h2 : n ≤ 64) : Calls Try.prog 152 #[.int .i64 n, .int .i64 rule, .bool b] w fun e w' => e = .returned (.int .i64 (plF n rule b)) ∧ w' = w := by
  have HV := Lib.hid (show plF n rule b = if n = 1 ∨ rule = 1 then 0 else if rule = 2 then n - 1 else if rule = 3 ∨ n = 2 ∨ b = true then n - 2 else n - 3 from rfl)
  have w1 : IntKind.i64.wrap ((n : Int) - 1) = (n : Int) - 1 := IntWalk.i64_in _ (by omega)
  have w2 : IntKind.i64.wrap ((n : Int) - 2) = (n : Int) - 2 := IntWalk.i64_in _ (by omega)
  have w3 : IntKind.i64.wrap ((n : Int) - 3) = (n : Int) - 3 := IntWalk.i64_in _ (by omega)
  by_cases q1 : n = 1
  · have d1 : ((n : Int) == 1) = true := by rw [q1]; rfl
    have HW := Lib.hid (show plF n rule b = 0 by rw [HV.out, if_pos (.inl q1)])
    clear q1
    go_enter Try.func152, Try.ntmps152
    go_wp2
    go_ret
    exact ⟨ret_int (by rw [HW.out]; rfl), rfl⟩
  have d1 : ((n : Int) == 1) = false := beq_eq_false_iff_ne.2 (by omega)
  by_cases q2 : rule = 1
  · have d2 : (rule == 1) = true := by rw [q2]; rfl
    have HW := Lib.hid (show plF n rule b = 0 by rw [HV.out, if_pos (.inr q2)])
    clear q1 q2
    go_enter Try.func152, Try.ntmps152
    go_wp2
    go_ret
    exact ⟨ret_int (by rw [HW.out]; rfl), rfl⟩
  have d2 : (rule == 1) = false := beq_eq_false_iff_ne.2 q2
  by_cases q3 : rule = 2
  · have d3 : (rule == 2) = true := by rw [q3]; rfl
    have HW := Lib.hid (show ((plF n rule b : Nat) : Int) = (n : Int) - 1 by rw [HV.out, if_neg (by omega), if_pos q3]; omega)
    clear q1 q2 q3
    go_enter Try.func152, Try.ntmps152
    go_wp2
    go_ret
    exact ⟨ret_int HW.out.symm, rfl⟩
  have d3 : (rule == 2) = false := beq_eq_false_iff_ne.2 q3
  by_cases q4 : rule = 3
  · have d4 : (rule == 3) = true := by rw [q4]; rfl
    have HW := Lib.hid (show ((plF n rule b : Nat) : Int) = (n : Int) - 2 by rw [HV.out, if_neg (by omega), if_neg q3, if_pos (.inl q4)]; omega)
    clear q1 q2 q3 q4
    go_enter Try.func152, Try.ntmps152
    go_wp2
    go_ret
    exact ⟨ret_int HW.out.symm, rfl⟩
  have d4 : (rule == 3) = false := beq_eq_false_iff_ne.2 q4
  by_cases q5 : n = 2
  · have d5 : ((n : Int) == 2) = true := by rw [q5]; rfl
    have HW := Lib.hid (show ((plF n rule b : Nat) : Int) = (n : Int) - 2 by rw [HV.out, if_neg (by omega), if_neg q3, if_pos (.inr (.inl q5))]; omega)
    clear q1 q2 q3 q4 q5
    go_enter Try.func152, Try.ntmps152
    go_wp2
    go_ret
    exact ⟨ret_int HW.out.symm, rfl⟩
  have d5 : ((n : Int) == 2) = false := beq_eq_false_iff_ne.2 (by omega)
  cases b with
  | true =>
    have HW := Lib.hid (show ((plF n rule true : Nat) : Int) = (n : Int) - 2 by rw [HV.out, if_neg (by omega), if_neg q3, if_pos (.inr (.inr rfl))]; omega)
    clear q1 q2 q3 q4 q5
    go_enter Try.func152, Try.ntmps152
    go_wp2
    go_ret
    exact ⟨ret_int HW.out.symm, rfl⟩
  | false =>
    have HW := Lib.hid (show ((plF n rule false : Nat) : Int) = (n : Int) - 3 by rw [HV.out, if_neg (by omega), if_neg q3, if_neg (by rintro (h | h | h); exact q4 h; exact q5 h; cases h)]; omega)
    clear q1 q2 q3 q4 q5
    go_enter Try.func152, Try.ntmps152
    go_wp2
    go_ret
    exact ⟨ret_int HW.out.symm, rfl⟩

set_option maxHeartbeats 8000000 in
set_option maxRecDepth 100000 in
theorem refStress_any (A : Option Addr) (n c L B : Nat) (ss : List Sy) (rule : Int) (w : World) (h : Rd w L B 5 A n (sys ss)) (hB : B ≤ w.heap.size) (hz : n ≤ maxLen) :
    Calls Try.prog 101 #[.slice A n c, .int .i64 rule] w fun e w' => ∃ v, e = .returned (.tuple #[v, .int .i64 (stE ss rule)]) ∧ w'.ownsRow w.heap.size 37 5 v (stL ss rule).length (sys (stL ss rule)) ∧ Below w.heap.size w w' := by
  unfold maxLen at hz
  have hl := h.len_sy
  obtain ⟨k0, hk0, kz0, kz1, kz2⟩ := info_parts info37
  have HK := Lib.hid (And.intro hk0 (And.intro kz0 (And.intro kz1 kz2)))
  have HE := Lib.hid (show stE ss rule = if rule < 1 ∨ 4 < rule ∨ ss.length = 0 then 2 else if 64 < ss.length then 3 else 0 from rfl)
  have HSL := Lib.hid (show stL ss rule = if stE ss rule = 0 then stK ss (stAt ss rule) ss.length else [] from rfl)
  have bad : ∀ e : Int, e ≠ 0 → stE ss rule = e → stL ss rule = [] := fun e h0 he => by rw [HSL.out, if_neg (by rw [he]; exact h0)]
  have HBAD := Lib.hid bad
  have H := Lib.hid h
  have HLT := Lib.hid (stAt_lt (l := ss) (rule := rule))
  clear h hk0 kz0 kz1 kz2 bad
  by_cases q1 : rule < 1
  · have he : stE ss rule = 2 := by rw [HE.out, if_pos (.inl q1)]
    rw [HBAD.out 2 (by decide) he, he]
    clear he
    have d1 : decide (rule < 1) = true := decide_eq_true q1
    go_enter Try.func101, Try.ntmps101
    go_wp2
    go_ret2
    exact ⟨_, rfl, World.ownsRow_nil _ _ _ _, Below.refl _ _⟩
  have d1 : decide (rule < 1) = false := decide_eq_false q1
  by_cases q2 : 4 < rule
  · have he : stE ss rule = 2 := by rw [HE.out, if_pos (.inr (.inl q2))]
    rw [HBAD.out 2 (by decide) he, he]
    clear he
    have d2 : decide (4 < rule) = true := decide_eq_true q2
    go_enter Try.func101, Try.ntmps101
    go_wp2
    go_ret2
    exact ⟨_, rfl, World.ownsRow_nil _ _ _ _, Below.refl _ _⟩
  have d2 : decide (4 < rule) = false := decide_eq_false q2
  by_cases q3 : n = 0
  · have he : stE ss rule = 2 := by rw [HE.out, if_pos (.inr (.inr (by omega)))]
    rw [HBAD.out 2 (by decide) he, he]
    clear he
    have d3 : ((n : Int) == 0) = true := by rw [q3]; rfl
    go_enter Try.func101, Try.ntmps101
    go_wp2
    go_ret2
    exact ⟨_, rfl, World.ownsRow_nil _ _ _ _, Below.refl _ _⟩
  have d3 : ((n : Int) == 0) = false := beq_eq_false_iff_ne.2 (by omega)
  by_cases q4 : 64 < n
  · have he : stE ss rule = 3 := by rw [HE.out, if_neg (by omega), if_pos (by omega)]
    rw [HBAD.out 3 (by decide) he, he]
    clear he
    have d4 : decide ((64 : Int) < (n : Int)) = true := decide_eq_true (by omega)
    go_enter Try.func101, Try.ntmps101
    go_wp2
    go_ret2
    exact ⟨_, rfl, World.ownsRow_nil _ _ _ _, Below.refl _ _⟩
  have d4 : decide ((64 : Int) < (n : Int)) = false := decide_eq_false (by omega)
  have HE0 := Lib.hid (show stE ss rule = 0 by rw [HE.out, if_neg (by omega), if_neg (by omega)])
  have HSS := Lib.hid (show stL ss rule = stK ss (stAt ss rule) n by rw [HSL.out, if_pos HE0.out, hl])
  clear HE HSL HBAD
  have hn1 : 1 ≤ n := by omega
  have hn64 : n ≤ 64 := by omega
  have w2 : IntKind.i64.wrap ((n : Int) - 2) = (n : Int) - 2 := IntWalk.i64_in _ (by omega)
  have hpl1 : n = 1 → plF n rule false = stAt ss rule := fun e => by
    unfold plF stAt
    rw [if_pos (.inl e), if_pos (.inl (by omega))]
  have hpl2 : plF n rule (ss.getD (n - 2) sy0).hv = stAt ss rule := by
    unfold plF stAt
    rw [hl]
  have hatn : stAt ss rule < n := by have := HLT.out (by omega); omega
  have HPL := Lib.hid (And.intro hpl1 hpl2)
  generalize stAt ss rule = at_ at *
  clear hpl1 hpl2 q4 HLT
  by_cases e1 : n = 1
  · have db : decide ((1 : Int) < (n : Int)) = false := decide_eq_false (by omega)
    have dbn : decide (1 < n) = false := decide_eq_false (by omega)
    have E1 := Lib.hid e1
    clear e1
    go_enter Try.func101, Try.ntmps101
    go_wp2_with fail
    refine (place_any n rule false w hn1 hn64).mono ?_
    rintro e w1 ⟨rfl, ew⟩
    subst w1
    rw [HPL.out.1 E1.out]
    go_wp2
    go_loopw [7, 8, 9] (fun v7 v8 _ wr => ∃ k : Nat, k ≤ n ∧ v8 = .int .i64 k ∧ Hid (SrSt w v7 (stK ss at_ k) wr)) (fun _ v8 _ _ => n - (intOf v8).toNat)
    case atStart => exact ⟨0, by omega, rfl, Lib.hid ⟨World.ownsRow_nil _ _ _ _, Below.refl _ _⟩⟩
    case round =>
      obtain ⟨k, hk, rfl, HR⟩ := hrel
      by_cases hlt : k < n
      · obtain ⟨b1, o1, hl0, eA1, _, hB2, x0, x1, x2, x3, x4⟩ := (H.out.below HR.out.below hB).sy (k := k) hlt
        cases eA1
        have hsn := stK_snoc ss at_ k
        rw [List.getD_eq_getElem?_getD, List.getElem?_eq_getElem hl0] at hsn
        have hsn : stK ss at_ (k + 1) = stK ss at_ k ++ [setSt ss[k] (if k = at_ then 2 else 0)] := hsn
        generalize ss[k] = s at *
        have HSN := Lib.hid hsn
        have HLN := Lib.hid (stK_len ss at_ k)
        clear hsn
        have i1 : (0 : Int) ≤ (k : Int) := by omega
        have i2 : (k : Int) < (n : Int) := by omega
        have hlo := HR.out.below.size
        by_cases hka : k = at_
        · have dk : ((k : Int) == (at_ : Int)) = true := by rw [hka]; simp
          have HSN2 := Lib.hid (show stK ss at_ (k + 1) = stK ss at_ k ++ [(s.fr, s.nu, s.to_, 2, s.hv)] by rw [HSN.out, if_pos hka]; rfl)
          clear HSN hka
          generalize hst_ : stK ss at_ k = out at *
          have HST := Lib.hid hst_
          clear hst_
          go_upto_region 14 with (fail)
          refine wp_abs (fun wx => SrSt w u7 out wx ∧ Blk wx wr.heap.size 37 #[.int .i64 s.fr, .int .i64 s.nu, .int .i64 s.to_, .int .i64 2, .bool s.hv]) ⟨HR.out.on ((Below.refl _ _).alloc (Nat.le_refl _) _), Blk.new _ _ _⟩ ?_
          clear x0 x1 x2 x3 x4 HR
          generalize wr.heap.size = xb at *
          rintro wx hX
          have HX := Lib.hid hX
          clear hX
          have x0 : wx.cell? ⟨xb, 0, none⟩ = some (.int .i64 s.fr) := HX.out.2.cell 0
          have x1 : wx.cell? ⟨xb, 1, none⟩ = some (.int .i64 s.nu) := HX.out.2.cell 1
          have x2 : wx.cell? ⟨xb, 2, none⟩ = some (.int .i64 s.to_) := HX.out.2.cell 2
          have x3 : wx.cell? ⟨xb, 3, none⟩ = some (.int .i64 2) := HX.out.2.cell 3
          have x4 : wx.cell? ⟨xb, 4, none⟩ = some (.bool s.hv) := HX.out.2.cell 4
          obtain ⟨A8, c8, e8⟩ := own_slice HX.out.1.own
          subst e8
          have hol : out.length = k := HLN.out
          rw [hol] at HX
          rw [hol]
          go_wp2_with (at_builtin; go_must (refine wpList_append_rd _ rfl _ _ 23 rfl w.heap.size 37 k0 (.agg #[.int .i64 0, .int .i64 0, .int .i64 0, .int .i64 0, .bool false]) 5 40 Try.underlying23 HK.out.1 HK.out.2.1 HK.out.2.2.1 HK.out.2.2.2 rfl (by decide) _ _ _ rfl (HX.out.1.own.alloc _) _ _ _ 1 1 _ rfl (rd_new_eq rfl rfl) (by simp [Value.oneCell']) (by unfold maxLen; omega) (by omega) (by have := HX.out.1.below.size; simp; omega) ?_; intro v4 w4 _ hown hgrow _; have HE := Lib.hid ((HX.out.1.on ((Below.refl _ _).alloc (Nat.le_refl _) _)).app (s.fr, s.nu, s.to_, 2, s.hv) hown hgrow); clear hown hgrow))
          go_roundw
          case rel => exact ⟨k + 1, by omega, by go_num, Lib.hid (by rw [HSN2.out]; exact HE.out)⟩
          case measure => simp [intOf]; omega
        · have dk : ((k : Int) == (at_ : Int)) = false := beq_eq_false_iff_ne.2 (by omega)
          have HSN2 := Lib.hid (show stK ss at_ (k + 1) = stK ss at_ k ++ [(s.fr, s.nu, s.to_, 0, s.hv)] by rw [HSN.out, if_neg hka]; rfl)
          clear HSN hka
          generalize hst_ : stK ss at_ k = out at *
          have HST := Lib.hid hst_
          clear hst_
          go_upto_region 14 with (fail)
          refine wp_abs (fun wx => SrSt w u7 out wx ∧ Blk wx wr.heap.size 37 #[.int .i64 s.fr, .int .i64 s.nu, .int .i64 s.to_, .int .i64 0, .bool s.hv]) ⟨HR.out.on ((Below.refl _ _).alloc (Nat.le_refl _) _), Blk.new _ _ _⟩ ?_
          clear x0 x1 x2 x3 x4 HR
          generalize wr.heap.size = xb at *
          rintro wx hX
          have HX := Lib.hid hX
          clear hX
          have x0 : wx.cell? ⟨xb, 0, none⟩ = some (.int .i64 s.fr) := HX.out.2.cell 0
          have x1 : wx.cell? ⟨xb, 1, none⟩ = some (.int .i64 s.nu) := HX.out.2.cell 1
          have x2 : wx.cell? ⟨xb, 2, none⟩ = some (.int .i64 s.to_) := HX.out.2.cell 2
          have x3 : wx.cell? ⟨xb, 3, none⟩ = some (.int .i64 0) := HX.out.2.cell 3
          have x4 : wx.cell? ⟨xb, 4, none⟩ = some (.bool s.hv) := HX.out.2.cell 4
          obtain ⟨A8, c8, e8⟩ := own_slice HX.out.1.own
          subst e8
          have hol : out.length = k := HLN.out
          rw [hol] at HX
          rw [hol]
          go_wp2_with (at_builtin; go_must (refine wpList_append_rd _ rfl _ _ 23 rfl w.heap.size 37 k0 (.agg #[.int .i64 0, .int .i64 0, .int .i64 0, .int .i64 0, .bool false]) 5 40 Try.underlying23 HK.out.1 HK.out.2.1 HK.out.2.2.1 HK.out.2.2.2 rfl (by decide) _ _ _ rfl (HX.out.1.own.alloc _) _ _ _ 1 1 _ rfl (rd_new_eq rfl rfl) (by simp [Value.oneCell']) (by unfold maxLen; omega) (by omega) (by have := HX.out.1.below.size; simp; omega) ?_; intro v4 w4 _ hown hgrow _; have HE := Lib.hid ((HX.out.1.on ((Below.refl _ _).alloc (Nat.le_refl _) _)).app (s.fr, s.nu, s.to_, 0, s.hv) hown hgrow); clear hown hgrow))
          go_roundw
          case rel => exact ⟨k + 1, by omega, by go_num, Lib.hid (by rw [HSN2.out]; exact HE.out)⟩
          case measure => simp [intOf]; omega
      · obtain rfl : k = n := by omega
        obtain ⟨A8, c8, e8⟩ := own_slice HR.out.own
        subst e8
        have di : ¬ ((k : Int) < (k : Int)) := by omega
        go_wp2
        go_ret2
        exact ⟨.slice A8 (stK ss at_ k).length c8, by rw [HE0.out]; rfl, by rw [HSS.out]; exact HR.out.own, HR.out.below⟩
  · have db : decide ((1 : Int) < (n : Int)) = true := decide_eq_true (by omega)
    have dbn : decide (1 < n) = true := decide_eq_true (by omega)
    obtain ⟨m, hm⟩ : ∃ m, m = n - 2 := ⟨_, rfl⟩
    have hmi : (n : Int) - 2 = (m : Int) := by omega
    obtain ⟨b, o, hl0, eA, _, hB2, _, _, _, _, x4⟩ := H.out.sy (k := m) (by omega)
    cases eA
    have hgd : (ss.getD (n - 2) sy0).hv = ss[m].hv := by rw [← hm, List.getD_eq_getElem?_getD, List.getElem?_eq_getElem hl0]; rfl
    rw [hgd] at HPL
    generalize ss[m].hv = hv at *
    have w6 : IntKind.i64.wrap ((n : Int) - 2) = (m : Int) := by rw [w2]; exact hmi
    have m0 : (0 : Int) ≤ (m : Int) := by omega
    have m1 : (m : Int) < (n : Int) := by omega
    clear w2 hmi hm hgd e1
    go_enter Try.func101, Try.ntmps101
    go_wp2_with fail
    refine (place_any n rule hv w hn1 hn64).mono ?_
    rintro e w1 ⟨rfl, ew⟩
    subst w1
    rw [HPL.out.2]
    clear x4
    go_wp2
    go_loopw [7, 8, 9] (fun v7 v8 _ wr => ∃ k : Nat, k ≤ n ∧ v8 = .int .i64 k ∧ Hid (SrSt w v7 (stK ss at_ k) wr)) (fun _ v8 _ _ => n - (intOf v8).toNat)
    case atStart => exact ⟨0, by omega, rfl, Lib.hid ⟨World.ownsRow_nil _ _ _ _, Below.refl _ _⟩⟩
    case round =>
      obtain ⟨k, hk, rfl, HR⟩ := hrel
      by_cases hlt : k < n
      · obtain ⟨b1, o1, hl0, eA1, _, hB2, x0, x1, x2, x3, x4⟩ := (H.out.below HR.out.below hB).sy (k := k) hlt
        cases eA1
        have hsn := stK_snoc ss at_ k
        rw [List.getD_eq_getElem?_getD, List.getElem?_eq_getElem hl0] at hsn
        have hsn : stK ss at_ (k + 1) = stK ss at_ k ++ [setSt ss[k] (if k = at_ then 2 else 0)] := hsn
        generalize ss[k] = s at *
        have HSN := Lib.hid hsn
        have HLN := Lib.hid (stK_len ss at_ k)
        clear hsn
        have i1 : (0 : Int) ≤ (k : Int) := by omega
        have i2 : (k : Int) < (n : Int) := by omega
        have hlo := HR.out.below.size
        by_cases hka : k = at_
        · have dk : ((k : Int) == (at_ : Int)) = true := by rw [hka]; simp
          have HSN2 := Lib.hid (show stK ss at_ (k + 1) = stK ss at_ k ++ [(s.fr, s.nu, s.to_, 2, s.hv)] by rw [HSN.out, if_pos hka]; rfl)
          clear HSN hka
          generalize hst_ : stK ss at_ k = out at *
          have HST := Lib.hid hst_
          clear hst_
          go_upto_region 14 with (fail)
          refine wp_abs (fun wx => SrSt w u7 out wx ∧ Blk wx wr.heap.size 37 #[.int .i64 s.fr, .int .i64 s.nu, .int .i64 s.to_, .int .i64 2, .bool s.hv]) ⟨HR.out.on ((Below.refl _ _).alloc (Nat.le_refl _) _), Blk.new _ _ _⟩ ?_
          clear x0 x1 x2 x3 x4 HR
          generalize wr.heap.size = xb at *
          rintro wx hX
          have HX := Lib.hid hX
          clear hX
          have x0 : wx.cell? ⟨xb, 0, none⟩ = some (.int .i64 s.fr) := HX.out.2.cell 0
          have x1 : wx.cell? ⟨xb, 1, none⟩ = some (.int .i64 s.nu) := HX.out.2.cell 1
          have x2 : wx.cell? ⟨xb, 2, none⟩ = some (.int .i64 s.to_) := HX.out.2.cell 2
          have x3 : wx.cell? ⟨xb, 3, none⟩ = some (.int .i64 2) := HX.out.2.cell 3
          have x4 : wx.cell? ⟨xb, 4, none⟩ = some (.bool s.hv) := HX.out.2.cell 4
          obtain ⟨A8, c8, e8⟩ := own_slice HX.out.1.own
          subst e8
          have hol : out.length = k := HLN.out
          rw [hol] at HX
          rw [hol]
          go_wp2_with (at_builtin; go_must (refine wpList_append_rd _ rfl _ _ 23 rfl w.heap.size 37 k0 (.agg #[.int .i64 0, .int .i64 0, .int .i64 0, .int .i64 0, .bool false]) 5 40 Try.underlying23 HK.out.1 HK.out.2.1 HK.out.2.2.1 HK.out.2.2.2 rfl (by decide) _ _ _ rfl (HX.out.1.own.alloc _) _ _ _ 1 1 _ rfl (rd_new_eq rfl rfl) (by simp [Value.oneCell']) (by unfold maxLen; omega) (by omega) (by have := HX.out.1.below.size; simp; omega) ?_; intro v4 w4 _ hown hgrow _; have HE := Lib.hid ((HX.out.1.on ((Below.refl _ _).alloc (Nat.le_refl _) _)).app (s.fr, s.nu, s.to_, 2, s.hv) hown hgrow); clear hown hgrow))
          go_roundw
          case rel => exact ⟨k + 1, by omega, by go_num, Lib.hid (by rw [HSN2.out]; exact HE.out)⟩
          case measure => simp [intOf]; omega
        · have dk : ((k : Int) == (at_ : Int)) = false := beq_eq_false_iff_ne.2 (by omega)
          have HSN2 := Lib.hid (show stK ss at_ (k + 1) = stK ss at_ k ++ [(s.fr, s.nu, s.to_, 0, s.hv)] by rw [HSN.out, if_neg hka]; rfl)
          clear HSN hka
          generalize hst_ : stK ss at_ k = out at *
          have HST := Lib.hid hst_
          clear hst_
          go_upto_region 14 with (fail)
          refine wp_abs (fun wx => SrSt w u7 out wx ∧ Blk wx wr.heap.size 37 #[.int .i64 s.fr, .int .i64 s.nu, .int .i64 s.to_, .int .i64 0, .bool s.hv]) ⟨HR.out.on ((Below.refl _ _).alloc (Nat.le_refl _) _), Blk.new _ _ _⟩ ?_
          clear x0 x1 x2 x3 x4 HR
          generalize wr.heap.size = xb at *
          rintro wx hX
          have HX := Lib.hid hX
          clear hX
          have x0 : wx.cell? ⟨xb, 0, none⟩ = some (.int .i64 s.fr) := HX.out.2.cell 0
          have x1 : wx.cell? ⟨xb, 1, none⟩ = some (.int .i64 s.nu) := HX.out.2.cell 1
          have x2 : wx.cell? ⟨xb, 2, none⟩ = some (.int .i64 s.to_) := HX.out.2.cell 2
          have x3 : wx.cell? ⟨xb, 3, none⟩ = some (.int .i64 0) := HX.out.2.cell 3
          have x4 : wx.cell? ⟨xb, 4, none⟩ = some (.bool s.hv) := HX.out.2.cell 4
          obtain ⟨A8, c8, e8⟩ := own_slice HX.out.1.own
          subst e8
          have hol : out.length = k := HLN.out
          rw [hol] at HX
          rw [hol]
          go_wp2_with (at_builtin; go_must (refine wpList_append_rd _ rfl _ _ 23 rfl w.heap.size 37 k0 (.agg #[.int .i64 0, .int .i64 0, .int .i64 0, .int .i64 0, .bool false]) 5 40 Try.underlying23 HK.out.1 HK.out.2.1 HK.out.2.2.1 HK.out.2.2.2 rfl (by decide) _ _ _ rfl (HX.out.1.own.alloc _) _ _ _ 1 1 _ rfl (rd_new_eq rfl rfl) (by simp [Value.oneCell']) (by unfold maxLen; omega) (by omega) (by have := HX.out.1.below.size; simp; omega) ?_; intro v4 w4 _ hown hgrow _; have HE := Lib.hid ((HX.out.1.on ((Below.refl _ _).alloc (Nat.le_refl _) _)).app (s.fr, s.nu, s.to_, 0, s.hv) hown hgrow); clear hown hgrow))
          go_roundw
          case rel => exact ⟨k + 1, by omega, by go_num, Lib.hid (by rw [HSN2.out]; exact HE.out)⟩
          case measure => simp [intOf]; omega
      · obtain rfl : k = n := by omega
        obtain ⟨A8, c8, e8⟩ := own_slice HR.out.own
        subst e8
        have di : ¬ ((k : Int) < (k : Int)) := by omega
        go_wp2
        go_ret2
        exact ⟨.slice A8 (stK ss at_ k).length c8, by rw [HE0.out]; rfl, by rw [HSS.out]; exact HR.out.own, HR.out.below⟩
end Go.Proofs.Ytogofchpocoebaa
