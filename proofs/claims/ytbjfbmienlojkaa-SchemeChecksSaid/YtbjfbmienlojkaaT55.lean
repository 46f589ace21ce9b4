/- may and Within: two schemes held against each other. -/
import Derived.Test.YtbjfbmienlojkaaT34
import Derived.Test.YtbjfbmienlojkaaT47
import Derived.Deep.DeepMust
namespace Go.Proofs.Ytbjfbmienlojkaa
open Go.RowKit

def mayTwo (l1 l2 : List (Int × Int)) (s1 s2 : List Int) : Bool := may l1 s1 && (may l2 s2 && decide (l1.length = l2.length))

set_option maxHeartbeats 2000000 in
set_option maxRecDepth 100000 in
theorem mayTwo_any (A1 A2 B1 B2 : Option Addr) (n1 c1 n2 c2 m1 d1 m2 d2 L1 L2 L3 L4 : Nat) (l1 l2 : List (Int × Int)) (s1 s2 : List Int) (w : World)
    (h1 : Rd w L1 w.heap.size 2 A1 n1 (prs l1)) (h2 : Rd w L2 w.heap.size 1 A2 n2 (s1.map (Value.int .i64))) (h3 : Rd w L3 w.heap.size 2 B1 m1 (prs l2)) (h4 : Rd w L4 w.heap.size 1 B2 m2 (s2.map (Value.int .i64)))
    (e1 : n1 ≤ maxLen) (e2 : n2 ≤ maxLen) (e3 : m1 ≤ maxLen) (e4 : m2 ≤ maxLen) :
    Calls Try.prog 71 #[.agg #[.slice A1 n1 c1, .slice A2 n2 c2], .agg #[.slice B1 m1 d1, .slice B2 m2 d2]] w fun e w' => e = .returned (.int .i64 (errOf (mayTwo l1 l2 s1 s2))) ∧ Below w.heap.size w w' := by
  have q1 : l1.length = n1 := by have := h1.1; rw [prs_len] at this; omega
  have q2 : l2.length = m1 := by have := h3.1; rw [prs_len] at this; omega
  have H1 := Lib.hid h1
  have H2 := Lib.hid h2
  have H3 := Lib.hid h3
  have H4 := Lib.hid h4
  have HQ := Lib.hid (And.intro q1 q2)
  clear h1 h2 h3 h4 q1 q2
  go_enter Try.func71, Try.ntmps71
  go_upto_region 1 with (fail)
  refine wp_abs (TwoIn w (.slice A1 n1 c1) (.slice A2 n2 c2) (.slice B1 m1 d1) (.slice B2 m2 d2)) (TwoIn.init w _ _ _ _) ?_
  intro w1 hw
  have c0 : w1.cell? ⟨w.heap.size, 0, none⟩ = some (.slice A1 n1 c1) := hw.b0.cell 0
  have c1' : w1.cell? ⟨w.heap.size, 1, none⟩ = some (.slice A2 n2 c2) := hw.b0.cell 1
  have HW := Lib.hid hw
  clear hw
  go_wp2_with fail
  refine (check_any A1 A2 n1 c1 n2 c2 L1 L2 l1 s1 w1 (H1.out.up HW.out.below HW.out.below.size) (H2.out.up HW.out.below HW.out.below.size) e2 e1).mono ?_
  rintro e w2 ⟨rfl, hb2⟩
  have HX := Lib.hid (HW.out.on hb2)
  clear c0 c1' hb2 HW
  cases hm1 : may l1 s1 with
  | false =>
    have HM1 := Lib.hid hm1
    clear hm1
    simp only [errOf]
    go_wp2
    go_ret
    exact ⟨ret_int (by unfold mayTwo; rw [HM1.out]; rfl), HX.out.below⟩
  | true =>
    have HM1 := Lib.hid hm1
    clear hm1
    simp only [errOf]
    have c0 : w2.cell? ⟨w.heap.size + 1, 0, none⟩ = some (.slice B1 m1 d1) := HX.out.b1.cell 0
    have c1' : w2.cell? ⟨w.heap.size + 1, 1, none⟩ = some (.slice B2 m2 d2) := HX.out.b1.cell 1
    go_wp2_with fail
    refine (check_any B1 B2 m1 d1 m2 d2 L3 L4 l2 s2 w2 (H3.out.up HX.out.below HX.out.below.size) (H4.out.up HX.out.below HX.out.below.size) e4 e3).mono ?_
    rintro e w3 ⟨rfl, hb3⟩
    have HY := Lib.hid (HX.out.on hb3)
    clear c0 c1' hb3 HX
    cases hm2 : may l2 s2 with
    | false =>
      have HM2 := Lib.hid hm2
      clear hm2
      simp only [errOf]
      go_wp2
      go_ret
      exact ⟨ret_int (by unfold mayTwo; rw [HM1.out, HM2.out]; rfl), HY.out.below⟩
    | true =>
      have HM2 := Lib.hid hm2
      clear hm2
      simp only [errOf]
      have c0 : w3.cell? ⟨w.heap.size, 0, none⟩ = some (.slice A1 n1 c1) := HY.out.b0.cell 0
      have d0 : w3.cell? ⟨w.heap.size + 1, 0, none⟩ = some (.slice B1 m1 d1) := HY.out.b1.cell 0
      by_cases hn : n1 = m1
      · subst hn
        have hb : ((n1 : Int) != (n1 : Int)) = false := by simp
        go_wp2
        go_ret
        exact ⟨ret_int (by unfold mayTwo; rw [HM1.out, HM2.out, HQ.out.1, HQ.out.2]; simp [errOf]), HY.out.below⟩
      · have hb : ((n1 : Int) != (m1 : Int)) = true := by simp; omega
        go_wp2
        go_ret
        exact ⟨ret_int (by unfold mayTwo; rw [HM1.out, HM2.out, HQ.out.1, HQ.out.2, decide_eq_false hn]; rfl), HY.out.below⟩

theorem mayTwo_parts {l1 l2 : List (Int × Int)} {s1 s2 : List Int} (h : mayTwo l1 l2 s1 s2 = true) : may l1 s1 = true ∧ may l2 s2 = true ∧ l1.length = l2.length := by
  unfold mayTwo at h
  simp only [Bool.and_eq_true, decide_eq_true_eq] at h
  exact h

/-- line i keeps within -/
def withinAt (l1 l2 : List (Int × Int)) (i : Nat) : Bool := !decide (firstF l1 i < i) || (decide (0 ≤ clsAt l2 i) && decide (clsAt l2 i = clsAt l2 (firstF l1 i)))
def withinF (l1 l2 : List (Int × Int)) : Bool := (List.range l1.length).all (withinAt l1 l2)
theorem withinF_true {l1 l2 : List (Int × Int)} {n : Nat} (hn : l1.length = n) (h : ∀ i, i < n → withinAt l1 l2 i = true) : withinF l1 l2 = true := by
  unfold withinF
  rw [List.all_eq_true]
  intro i hi
  exact h i (by have := List.mem_range.1 hi; omega)
theorem withinF_false {l1 l2 : List (Int × Int)} {n i : Nat} (hn : l1.length = n) (hi : i < n) (h : withinAt l1 l2 i = false) : withinF l1 l2 = false := by
  unfold withinF
  rw [List.all_eq_false]
  exact ⟨i, List.mem_range.2 (by omega), by rw [h]; simp⟩

/-- two boxes of schemes, and the first lines of one -/
structure WnSt (w0 : World) (a1 a2 b1 b2 : Value) (q : Nat) (cs : Array Value) (w : World) : Prop where
  two : TwoIn w0 a1 a2 b1 b2 w
  b7 : Blk w q 100 cs
theorem WnSt.on {w0 : World} {a1 a2 b1 b2 : Value} {q : Nat} {cs : Array Value} {w w' : World} (h : WnSt w0 a1 a2 b1 b2 q cs w) (hb : Below w.heap.size w w') : WnSt w0 a1 a2 b1 b2 q cs w' := ⟨h.two.on hb, h.b7.below hb h.b7.lt⟩
theorem wn_init {w0 w : World} {a1 a2 b1 b2 : Value} {cs : Array Value} (h : TwoIn w0 a1 a2 b1 b2 w) (z : Array Value) : WnSt w0 a1 a2 b1 b2 w.heap.size cs ((w.alloc (.cells z 100)).setRow w.heap.size cs) := by
  have hB : Below w.heap.size w ((w.alloc (.cells z 100)).setRow w.heap.size cs) := below_setRow ((Below.refl _ _).alloc (Nat.le_refl _) _) (Nat.le_refl _) cs
  exact ⟨h.on hB, setRow_heap _ _ _ _ _ _ (Blk.new w 100 z)⟩
theorem cells_one {cs : Array Value} {f : Int → Nat} (h1 : cs.size = 25) (h2 : ∀ c : Nat, c < 25 → cs[c]? = some (.int .i64 (f c))) : cs.all (·.oneCell') = true := by
  rw [Array.all_eq_true_iff_forall_mem]
  intro u hu
  obtain ⟨q, hq, rfl⟩ := Array.mem_iff_getElem.1 hu
  have hc := h2 q (by omega)
  rw [Array.getElem?_eq_getElem hq] at hc
  injection hc with hc
  rw [hc]; rfl

set_option maxHeartbeats 2000000 in
set_option maxRecDepth 100000 in
theorem within_bad (A1 A2 B1 B2 : Option Addr) (n1 c1 n2 c2 m1 d1 m2 d2 L1 L2 L3 L4 : Nat) (l1 l2 : List (Int × Int)) (s1 s2 : List Int) (w : World)
    (h1 : Rd w L1 w.heap.size 2 A1 n1 (prs l1)) (h2 : Rd w L2 w.heap.size 1 A2 n2 (s1.map (Value.int .i64))) (h3 : Rd w L3 w.heap.size 2 B1 m1 (prs l2)) (h4 : Rd w L4 w.heap.size 1 B2 m2 (s2.map (Value.int .i64)))
    (e1 : n1 ≤ maxLen) (e2 : n2 ≤ maxLen) (e3 : m1 ≤ maxLen) (e4 : m2 ≤ maxLen) (hm : mayTwo l1 l2 s1 s2 = false) :
    Calls Try.prog 44 #[.agg #[.slice A1 n1 c1, .slice A2 n2 c2], .agg #[.slice B1 m1 d1, .slice B2 m2 d2]] w fun e w' => e = .returned (.tuple #[.bool false, .int .i64 2]) ∧ Below w.heap.size w w' := by
  have H1 := Lib.hid h1
  have H2 := Lib.hid h2
  have H3 := Lib.hid h3
  have H4 := Lib.hid h4
  have HM := Lib.hid hm
  clear h1 h2 h3 h4 hm
  go_enter Try.func44, Try.ntmps44
  go_upto_region 1 with (fail)
  refine wp_abs (TwoIn w (.slice A1 n1 c1) (.slice A2 n2 c2) (.slice B1 m1 d1) (.slice B2 m2 d2)) (TwoIn.init w _ _ _ _) ?_
  intro w1 hw
  have c0 : w1.cell? ⟨w.heap.size, 0, none⟩ = some (.slice A1 n1 c1) := hw.b0.cell 0
  have c1' : w1.cell? ⟨w.heap.size, 1, none⟩ = some (.slice A2 n2 c2) := hw.b0.cell 1
  have d0 : w1.cell? ⟨w.heap.size + 1, 0, none⟩ = some (.slice B1 m1 d1) := hw.b1.cell 0
  have d1' : w1.cell? ⟨w.heap.size + 1, 1, none⟩ = some (.slice B2 m2 d2) := hw.b1.cell 1
  have HW := Lib.hid hw
  clear hw
  go_wp2_with fail
  refine (mayTwo_any A1 A2 B1 B2 n1 c1 n2 c2 m1 d1 m2 d2 L1 L2 L3 L4 l1 l2 s1 s2 w1 (H1.out.up HW.out.below HW.out.below.size) (H2.out.up HW.out.below HW.out.below.size) (H3.out.up HW.out.below HW.out.below.size) (H4.out.up HW.out.below HW.out.below.size) e1 e2 e3 e4).mono ?_
  rw [HM.out]
  rintro e w2 ⟨rfl, hb2⟩
  have HX := Lib.hid (HW.out.on hb2)
  clear c0 c1' d0 d1' hb2 HW
  simp only [errOf]
  go_wp2
  go_ret2
  exact ⟨rfl, HX.out.below⟩

set_option maxHeartbeats 4000000 in
set_option maxRecDepth 100000 in
theorem within_ok (A1 A2 B1 B2 : Option Addr) (n c1 n2 c2 d1 m2 d2 L1 L2 L3 L4 : Nat) (l1 l2 : List (Int × Int)) (s1 s2 : List Int) (w : World)
    (h1 : Rd w L1 w.heap.size 2 A1 n (prs l1)) (h2 : Rd w L2 w.heap.size 1 A2 n2 (s1.map (Value.int .i64))) (h3 : Rd w L3 w.heap.size 2 B1 n (prs l2)) (h4 : Rd w L4 w.heap.size 1 B2 m2 (s2.map (Value.int .i64)))
    (hm : mayTwo l1 l2 s1 s2 = true) :
    Calls Try.prog 44 #[.agg #[.slice A1 n c1, .slice A2 n2 c2], .agg #[.slice B1 n d1, .slice B2 m2 d2]] w fun e w' => e = .returned (.tuple #[.bool (withinF l1 l2), .int .i64 0]) ∧ Below w.heap.size w w' := by
  have hln : l1.length = n := by have := h1.1; rw [prs_len] at this; omega
  obtain ⟨hm1, hm2, _⟩ := mayTwo_parts hm
  have hn : n ≤ 512 := by rw [← hln]; exact mayLen hm1
  have e2 : n2 ≤ 512 := by have := mayStan hm1; have := h2.1; simp at this; omega
  have e4 : m2 ≤ 512 := by have := mayStan hm2; have := h4.1; simp at this; omega
  have H1 := Lib.hid h1
  have H2 := Lib.hid h2
  have H3 := Lib.hid h3
  have H4 := Lib.hid h4
  have HM := Lib.hid hm
  have HLN := Lib.hid hln
  have HOK := Lib.hid (mayLine hm1)
  have hinf : (Try.prog.info? 100).map (·.size) = some 25 := by kernel_rfl
  have HI100 := Lib.hid hinf
  clear h1 h2 h3 h4 hm hm1 hm2 hln hinf
  go_enter Try.func44, Try.ntmps44
  go_upto_region 1 with (fail)
  refine wp_abs (TwoIn w (.slice A1 n c1) (.slice A2 n2 c2) (.slice B1 n d1) (.slice B2 m2 d2)) (TwoIn.init w _ _ _ _) ?_
  intro w1 hw
  have c0 : w1.cell? ⟨w.heap.size, 0, none⟩ = some (.slice A1 n c1) := hw.b0.cell 0
  have c1' : w1.cell? ⟨w.heap.size, 1, none⟩ = some (.slice A2 n2 c2) := hw.b0.cell 1
  have d0 : w1.cell? ⟨w.heap.size + 1, 0, none⟩ = some (.slice B1 n d1) := hw.b1.cell 0
  have d1' : w1.cell? ⟨w.heap.size + 1, 1, none⟩ = some (.slice B2 m2 d2) := hw.b1.cell 1
  have HW := Lib.hid hw
  clear hw
  go_wp2_with fail
  refine (mayTwo_any A1 A2 B1 B2 n c1 n2 c2 n d1 m2 d2 L1 L2 L3 L4 l1 l2 s1 s2 w1 (H1.out.up HW.out.below HW.out.below.size) (H2.out.up HW.out.below HW.out.below.size) (H3.out.up HW.out.below HW.out.below.size) (H4.out.up HW.out.below HW.out.below.size) (by unfold maxLen; omega) (by unfold maxLen; omega) (by unfold maxLen; omega) (by unfold maxLen; omega)).mono ?_
  rw [HM.out]
  rintro e w2 ⟨rfl, hb2⟩
  have HX := Lib.hid (HW.out.on hb2)
  clear c0 c1' d0 d1' hb2 HW
  simp only [errOf]
  have c0 : w2.cell? ⟨w.heap.size, 0, none⟩ = some (.slice A1 n c1) := HX.out.b0.cell 0
  have c1' : w2.cell? ⟨w.heap.size, 1, none⟩ = some (.slice A2 n2 c2) := HX.out.b0.cell 1
  go_wp2_with fail
  refine (firsts_any A1 A2 n c1 n2 c2 L1 l1 w2 (H1.out.up HX.out.below HX.out.below.size) hn HOK.out).mono ?_
  rintro e w3 ⟨cs, rfl, hcs1, hcs2, hb3⟩
  have hu := Try.underlying100
  have HB := Lib.hid (And.intro (HX.out.on hb3) (And.intro hcs1 (And.intro hcs2 (cells_one hcs1 hcs2))))
  clear c0 c1' hb3 HX hcs1 hcs2
  go_upto_region 5 with (refine wpList_store_row rfl 100 _ _ rfl w3.heap.size cs rfl rfl 100 _ (heap_alloc_new w3 _) (by rw [HI100.out, HB.out.2.1]) (by rw [HB.out.2.1]; rfl) HB.out.2.2.2 ?_)
  refine wp_abs (WnSt w (.slice A1 n c1) (.slice A2 n2 c2) (.slice B1 n d1) (.slice B2 m2 d2) w3.heap.size cs) (wn_init HB.out.1 _) ?_
  intro w4 hS
  have HS := Lib.hid hS
  have c0 : w4.cell? ⟨w.heap.size, 0, none⟩ = some (.slice A1 n c1) := hS.two.b0.cell 0
  clear hS hu
  go_wp2
  clear c0
  go_loopw [23] (fun iv wr => ∃ i : Nat, i ≤ n ∧ iv = .int .i64 i ∧ Hid (WnSt w (.slice A1 n c1) (.slice A2 n2 c2) (.slice B1 n d1) (.slice B2 m2 d2) w3.heap.size cs wr ∧ ∀ j, j < i → withinAt l1 l2 j = true)) (fun iv _ => n - (intOf iv).toNat)
  case atStart => exact ⟨0, by omega, rfl, Lib.hid ⟨HS.out, fun j hj => absurd hj (Nat.not_lt_zero _)⟩⟩
  case round =>
    obtain ⟨i, hi, rfl, HR⟩ := hrel
    clear HS
    by_cases hlt : i < n
    · have hbw := HR.out.1.two.below
      obtain ⟨b, o, hl, rfl, hL, hB, p1, p2⟩ := (H1.out.up hbw hbw.size).two hlt
      obtain ⟨b', o', hl', rfl, hL', hB', p3, p4⟩ := (H3.out.up hbw hbw.size).two hlt
      have hok := HOK.out _ (List.getElem_mem hl)
      have hce : clsAt l1 i = l1[i].1 := clsAt_get hl
      have hde : clsAt l2 i = l2[i].1 := clsAt_get hl'
      generalize l1[i] = x at p1 p2 hok hce
      generalize l2[i].1 = y at p3 hde
      obtain ⟨cl, rf⟩ := x
      have hbb := (lineOk_iff (cl, rf)).1 hok
      simp only at hbb p1 p2 hce
      have g1 := hbb.1
      have g2 := hbb.2.1
      have HCE := Lib.hid (And.intro hce hde)
      clear hok hbb hce hde hL hB hL' hB' p4
      go_upto_region 8 with (fail)
      refine wp_abs (fun wx => WnSt w (.slice (some ⟨b, o, none⟩) n c1) (.slice A2 n2 c2) (.slice (some ⟨b', o', none⟩) n d1) (.slice B2 m2 d2) w3.heap.size cs wx ∧ Blk wx wr.heap.size 66 #[.int .i64 cl, .int .i64 rf]) ⟨HR.out.1.on ((Below.refl _ _).alloc (Nat.le_refl _) _), Blk.new _ _ _⟩ ?_
      rintro wx ⟨hS, h9⟩
      have q3 : wx.cell? ⟨b', o' + i * 2, none⟩ = some (.int .i64 y) := by
        have := (H3.out.up hS.two.below hS.two.below.size).two hlt
        obtain ⟨b'', o'', _, hA, _, _, q, _⟩ := this
        injection hA with hA
        injection hA with hA1 hA2
        subst hA1 hA2
        rw [q]
        have := HCE.out.2
        rw [clsAt_get hl'] at this
        rw [this]
      have n0 : wx.cell? ⟨wr.heap.size, 0, none⟩ = some (.int .i64 cl) := h9.cell 0
      have d0 : wx.cell? ⟨w.heap.size + 1, 0, none⟩ = some (.slice (some ⟨b', o', none⟩) n d1) := hS.two.b1.cell 0
      have HX := Lib.hid (And.intro hS HR.out.2)
      clear p1 p2 p3 hS h9 HR hbw
      have hfle := firstF_le l1 i
      generalize hfg : firstF l1 i = ff at hfle
      have HFG := Lib.hid hfg
      clear hfg
      by_cases hneg : cl < 0
      · have hwa : withinAt l1 l2 i = true := by unfold withinAt; rw [firstF_neg l1 (by rw [HCE.out.1]; exact hneg)]; simp
        have HWA := Lib.hid hwa
        clear hwa
        go_wp2
        go_roundw
        case rel => exact ⟨i + 1, by omega, by go_num, Lib.hid ⟨HX.out.1, fun j hj => by
            rcases Nat.lt_or_ge j i with h | h
            · exact HX.out.2 j h
            · rw [show j = i by omega]; exact HWA.out⟩⟩
        case measure => simp [intOf]; omega
      · obtain ⟨cn, rfl⟩ : ∃ cn : Nat, cl = cn := ⟨cl.toNat, by omega⟩
        have hcn : cn < 25 := by omega
        have hfr : frst l1 n (cn : Int) = ff + 1 := by
          have := first_frst l1 (i := i) (n := n) hlt (by rw [HCE.out.1]; omega)
          rw [HCE.out.1, HFG.out] at this
          exact this
        have hcell : wx.cell? ⟨w3.heap.size, cn, none⟩ = some (.int .i64 ((ff : Int) + 1)) := by
          rw [HX.out.1.b7.cell, HB.out.2.2.1 cn hcn, hfr]
          simp
        have hw1 : IntKind.i64.wrap ((ff : Int) + 1 - 1) = (ff : Int) := by rw [show (ff : Int) + 1 - 1 = (ff : Int) by omega]; exact IntWalk.i64_in _ (by omega)
        clear hfr
        by_cases hfi : ff = i
        · have hwa : withinAt l1 l2 i = true := by unfold withinAt; rw [HFG.out, hfi]; simp
          have HWA := Lib.hid hwa
          have hfb : ((ff : Int) == (i : Int)) = true := by simp; omega
          clear hwa
          go_wp2
          go_roundw
          case rel => exact ⟨i + 1, by omega, by go_num, Lib.hid ⟨HX.out.1, fun j hj => by
              rcases Nat.lt_or_ge j i with h | h
              · exact HX.out.2 j h
              · rw [show j = i by omega]; exact HWA.out⟩⟩
          case measure => simp [intOf]; omega
        · have hfb : ((ff : Int) == (i : Int)) = false := by simp; omega
          obtain ⟨b'', o'', hlf, hA, _, _, q5, q6⟩ := (H3.out.up HX.out.1.two.below HX.out.1.two.below.size).two (k := ff) (by omega)
          injection hA with hA
          injection hA with hA1 hA2
          subst hA1 hA2
          have hze : clsAt l2 ff = l2[ff].1 := clsAt_get hlf
          generalize l2[ff].1 = z at q5 hze
          have hwa : withinAt l1 l2 i = (decide (0 ≤ y) && decide (y = z)) := by unfold withinAt; rw [HFG.out, HCE.out.2, hze, decide_eq_true (by omega : ff < i)]; rfl
          have HWA := Lib.hid hwa
          have j1 : (0 : Int) ≤ (i : Int) := by omega
          have j2 : (i : Int) < (n : Int) := by omega
          have j3 : (0 : Int) ≤ (ff : Int) := by omega
          have j4 : (ff : Int) < (n : Int) := by omega
          have j5 : (0 : Int) ≤ (cn : Int) := by omega
          have j6 : (cn : Int) < 25 := by omega
          clear hwa hze q6 hlf
          go_upto_region 9 with (fail)
          go_quiet (fail)
          by_cases hy : y < 0
          · go_wp2
            go_ret2
            exact ⟨by rw [withinF_false HLN.out hlt (by rw [HWA.out]; simp; omega)]; rfl, bdrawn HX.out.1.two.below _⟩
          · by_cases hyz : y = z
            · subst hyz
              go_wp2
              go_roundw
              case rel => exact ⟨i + 1, by omega, by go_num, Lib.hid ⟨HX.out.1.on (bdrawn (Below.refl _ _) _), fun j hj => by
                  rcases Nat.lt_or_ge j i with h | h
                  · exact HX.out.2 j h
                  · rw [show j = i by omega, HWA.out]; simp; omega⟩⟩
              case measure => simp [intOf]; omega
            · have hyb : (y != z) = true := by simpa using hyz
              go_wp2
              go_ret2
              exact ⟨by rw [withinF_false HLN.out hlt (by rw [HWA.out]; simp [hyz])]; rfl, bdrawn HX.out.1.two.below _⟩
    · go_wp2
      go_ret2
      exact ⟨by rw [withinF_true HLN.out (fun j hj => HR.out.2 j (by omega))]; rfl, HR.out.1.two.below⟩
end Go.Proofs.Ytbjfbmienlojkaa
