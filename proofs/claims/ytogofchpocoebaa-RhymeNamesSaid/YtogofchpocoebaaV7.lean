/- rhyme.within, Pairs; the reference's All. -/
import Derived.Test.YtogofchpocoebaaV3
import Derived.Test.YtogofchpocoebaaZ0
namespace Go.Proofs.Ytogofchpocoebaa
open Go.RowKit Go.Maps
attribute [local go_sem] Oper.semAt_some

def sd0 : Sd := ⟨none, 0, 0, none, 0, 0, [], []⟩
/-- a list of forms as it lies in memory -/
structure SdsIn (W : World) (B : Nat) (X : Option Addr) (k : Nat) (xs : List Sd) : Prop where
  rd : Rd W 0 B 2 X k (xs.flatMap sdC)
  each : ∀ x ∈ xs, SdIn W B x
theorem SdsIn.below {W W' : World} {B : Nat} {X : Option Addr} {k : Nat} {xs : List Sd} (h : SdsIn W B X k xs) (hb : Below W.heap.size W W') (hB : B ≤ W.heap.size) : SdsIn W' B X k xs :=
  ⟨h.rd.below hb hB, fun x hx => (h.each x hx).below hb hB⟩
theorem SdsIn.on {W W' : World} {B : Nat} {X : Option Addr} {k : Nat} {xs : List Sd} (h : SdsIn W B X k xs) (hb : Below B W W') : SdsIn W' B X k xs :=
  ⟨h.rd.below hb (Nat.le_refl _), fun x hx => (h.each x hx).on hb⟩
theorem SdsIn.len {W : World} {B : Nat} {X : Option Addr} {k : Nat} {xs : List Sd} (h : SdsIn W B X k xs) : xs.length = k := by
  have := h.rd.1
  rw [flat_len sdC 2 sdC_len] at this
  omega
theorem SdsIn.at {W : World} {B : Nat} {X : Option Addr} {k : Nat} {xs : List Sd} (h : SdsIn W B X k xs) {j : Nat} (hj : j < k) :
    ∃ b o, X = some ⟨b, o, none⟩ ∧ b < B ∧ W.cell? ⟨b, o + j * 2, none⟩ = some (.slice (xs.getD j sd0).A (xs.getD j sd0).n (xs.getD j sd0).c) ∧ W.cell? ⟨b, o + j * 2 + 1, none⟩ = some (.slice (xs.getD j sd0).D (xs.getD j sd0).m (xs.getD j sd0).d) ∧ SdIn W B (xs.getD j sd0) ∧ xs.getD j sd0 ∈ xs := by
  obtain ⟨b, o, hl, e, _, hb, hc⟩ := Rd.flat sdC_len (by omega) h.rd hj
  have ex : xs.getD j sd0 = xs[j] := by rw [List.getD_eq_getElem?_getD, List.getElem?_eq_getElem hl]; rfl
  rw [ex]
  exact ⟨b, o, e, hb, hc 0 _ rfl, hc 1 _ rfl, h.each _ (List.getElem_mem hl), List.getElem_mem hl⟩

theorem within15_any (A B : Option Addr) (la ca lb cb L1 L2 : Nat) (a b : List Ph) (most : Int) (w : World) (ra : Rd w L1 w.heap.size 3 A la (phs a)) (rb : Rd w L2 w.heap.size 3 B lb (phs b)) (fa : ∀ p ∈ a, fitP p) (fb : ∀ p ∈ b, fitP p) :
    Calls Try.prog 135 #[.slice A la ca, .slice B lb cb, .int .i64 most] w fun e w' => e = .returned (.tuple #[.int .i64 (wiV a b most), .bool (wiB a b most)]) ∧ Below w.heap.size w w' := by
  go_enter Try.func135, Try.ntmps135
  go_wp2_with fail
  refine (within_any A B la ca lb cb L1 L2 a b most w ra rb fa fb).mono ?_
  rintro e w1 ⟨rfl, hb⟩
  have H := Lib.hid hb
  clear hb
  go_wp2
  go_ret2
  exact ⟨rfl, H.out⟩

theorem refAllR_any (X : Option Addr) (k cp BB : Nat) (xs : List Sd) (w : World) (h : SdsIn w BB X k xs) (hBB : BB ≤ w.heap.size) (hz : k ≤ maxLen) :
    Calls Try.prog 69 #[.slice X k cp] w fun e w' => e = .returned (.bool (xs.all mayB)) ∧ Below w.heap.size w w' := by
  unfold maxLen at hz
  have HN := Lib.hid h.len
  have HX := Lib.hid h
  clear h
  go_enter Try.func69, Try.ntmps69
  go_wp2
  go_loopw [3] (fun v wr => ∃ j : Nat, j ≤ k ∧ v = .int .i64 j ∧ Hid (Below w.heap.size w wr ∧ (xs.take j).all mayB = true)) (fun v _ => k - (intOf v).toNat)
  case atStart => exact ⟨0, by omega, rfl, Lib.hid ⟨Below.refl _ _, rfl⟩⟩
  case round =>
    obtain ⟨j, hj, rfl, H⟩ := hrel
    by_cases hlt : j < k
    · obtain ⟨b, o, rfl, _, x0, x1, hx, hm⟩ := (HX.out.below H.out.1 hBB).at hlt
      have hl : j < xs.length := by have := HN.out; omega
      have hsn : xs.take (j + 1) = xs.take j ++ [xs.getD j sd0] := by
        rw [List.take_succ_eq_append_getElem hl, List.getD_eq_getElem?_getD, List.getElem?_eq_getElem hl]
        rfl
      have hal : xs.all mayB = true → mayB (xs.getD j sd0) = true := fun h => List.all_eq_true.1 h _ hm
      generalize xs.getD j sd0 = x at *
      have HS := Lib.hid (And.intro hsn (And.intro hal hx))
      clear hsn hal hx hm hl
      have i1 : (0 : Int) ≤ (j : Int) := by omega
      have i2 : (j : Int) < (k : Int) := by omega
      go_wp2_with fail
      refine (refMayR_any x BB wr HS.out.2.2 (Nat.le_trans hBB H.out.1.size)).mono ?_
      rintro e wz ⟨rfl, hb⟩
      have HZ := Lib.hid (H.out.1.trans (hb.mono H.out.1.size))
      clear hb x0 x1
      cases hm : mayB x with
      | false =>
        have HF := Lib.hid (show xs.all mayB = false by
          cases hh : xs.all mayB with
          | false => rfl
          | true => have := HS.out.2.1 hh; rw [hm] at this; cases this)
        go_wp2
        go_ret
        exact ⟨ret_bool HF.out.symm, HZ.out⟩
      | true =>
        have HF := Lib.hid hm
        go_wp2
        go_roundw
        case rel => exact ⟨j + 1, by omega, by go_num, Lib.hid ⟨HZ.out, by rw [HS.out.1, List.all_append, H.out.2]; simp [HF.out]⟩⟩
        case measure => simp [intOf]; omega
    · have hjk : j = k := by omega
      subst hjk
      have HL := Lib.hid (show xs.all mayB = true by have := H.out.2; rwa [List.take_of_length_le (by rw [HN.out]; exact Nat.le_refl _)] at this)
      go_wp2
      go_ret
      exact ⟨ret_bool HL.out.symm, H.out.1⟩

/-! Pairs -/
def nearQ (xs : List Sd) (most : Int) (a b : Nat) : Bool := decide (farS (xs.getD a sd0) (xs.getD b sd0) ≤ most)
def prOk (xs : List Sd) (most : Int) : Bool := decide (xs.length ≤ 512) && (decide (0 ≤ most) && xs.all mayB)
def prsL (xs : List Sd) (most : Int) : List (Nat × Nat) := if prOk xs most then prAll (nearQ xs most) xs.length xs.length else []
def PrX (xs : List Sd) (most : Int) (_B k : Nat) (args : Array Value) (_W : World) : Prop := ∃ h : k < (prsL xs most).length,
  args = #[.agg #[.int .i64 ((prsL xs most)[k].1 : Nat), .int .i64 ((prsL xs most)[k].2 : Nat)], .int .i64 (farS (xs.getD (prsL xs most)[k].1 sd0) (xs.getD (prsL xs most)[k].2 sd0))]
theorem wi_far {x y : Sd} (hf : Form x.l x.ss) (hg : Form y.l y.ss) {most : Int} (h0 : 0 ≤ most) :
    wiB (tailF x.l x.ss) (tailF y.l y.ss) most = decide (farS x y ≤ most) ∧ (farS x y ≤ most → wiV (tailF x.l x.ss) (tailF y.l y.ss) most = farS x y) := by
  have e := (far_ds hf hg).1
  have hB : wiB (tailF x.l x.ss) (tailF y.l y.ss) most = decide (farS x y ≤ most) := by
    unfold wiB
    rw [e, decide_eq_true h0, decide_eq_true (rfl : (0 : Int) = 0), Bool.true_and, Bool.true_and]
    rfl
  exact ⟨hB, fun h => by unfold wiV; rw [hB, decide_eq_true h, if_pos rfl]; rfl⟩

theorem pairs_call (X : Option Addr) (k cp : Nat) (most : Int) (w : World) : Calls Try.prog 71 #[.slice X k cp, .int .i64 most] w fun e w' => e = .returned (.func (.func 134) #[] #[.pointer (some ⟨w.heap.size, 0, none⟩), .pointer (some ⟨w.heap.size + 1, 0, none⟩)]) ∧ w' = (w.alloc (.cells #[.slice X k cp] 102)).alloc (.cells #[.int .i64 most] 3) := by
  go_enter Try.func71, Try.ntmps71
  go_wp2
  go_ret
  exact ⟨by simp, rfl⟩

theorem pr_get {q : Nat → Nat → Bool} {N a b : Nat} (ha : a < N) (hb : b < N) (hab : a < b) (hq : q a b = true) :
    ∃ h : (prAll q N a ++ prRow q a b).length < (prAll q N N).length, (prAll q N N)[(prAll q N a ++ prRow q a b).length] = (a, b) := by
  obtain ⟨t, ht⟩ := pr_at q ha (show b + 1 ≤ N by omega)
  have e : prAll q N N = (prAll q N a ++ prRow q a b) ++ ((a, b) :: t) := by
    rw [← ht, show prRow q a (b + 1) = prRow q a b ++ (if a < b ∧ q a b = true then [(a, b)] else []) from rfl, if_pos ⟨hab, hq⟩]
    simp
  have hl : (prAll q N a ++ prRow q a b).length < (prAll q N N).length := by rw [e]; simp
  refine ⟨hl, ?_⟩
  have h2 : (prAll q N N)[(prAll q N a ++ prRow q a b).length]? = some (a, b) := by
    rw [e, List.getElem?_append_right (Nat.le_refl _)]
    simp
  rw [List.getElem?_eq_getElem hl] at h2
  exact Option.some.inj h2

/-- memory while Pairs runs -/
structure PwSt (W0 : World) (lb mb BB : Nat) (X : Option Addr) (k cp : Nat) (most : Int) (xs : List Sd) (W : World) : Prop where
  bl : Blk W lb 102 #[.slice X k cp]
  bm : Blk W mb 3 #[.int .i64 most]
  sd : SdsIn W BB X k xs
  size : W0.heap.size ≤ W.heap.size
theorem PwSt.on {W0 : World} {lb mb BB : Nat} {X : Option Addr} {k cp : Nat} {most : Int} {xs : List Sd} {W W' : World} (h : PwSt W0 lb mb BB X k cp most xs W) (hb : Below W.heap.size W W') (hB : BB ≤ W.heap.size) : PwSt W0 lb mb BB X k cp most xs W' :=
  ⟨h.bl.below hb h.bl.lt, h.bm.below hb h.bm.lt, h.sd.below hb hB, Nat.le_trans h.size hb.size⟩
theorem PwSt.only {W0 : World} {lb mb BB : Nat} {X : Option Addr} {k cp : Nat} {most : Int} {xs : List Sd} {W W' : World} {S : Nat → Prop} (h : PwSt W0 lb mb BB X k cp most xs W) (ho : Only S W W') (hS : ∀ b, b = lb ∨ b = mb ∨ b < BB → ¬ S b) (hB : BB ≤ W.heap.size) : PwSt W0 lb mb BB X k cp most xs W' :=
  ⟨h.bl.only ho (hS _ (.inl rfl)), h.bm.only ho (hS _ (.inr (.inl rfl))), h.sd.on (ho.below hB (fun b hb => hS b (.inr (.inr hb)))), Nat.le_trans h.size ho.size⟩

set_option maxHeartbeats 8000000 in
set_option maxRecDepth 100000 in
theorem pairs_gives (X : Option Addr) (k cp lb mb BB : Nat) (xs : List Sd) (most : Int) (W : World) (hl : Blk W lb 102 #[.slice X k cp]) (hm : Blk W mb 3 #[.int .i64 most]) (hr : SdsIn W BB X k xs) (hBB : BB ≤ W.heap.size) (hk : k ≤ maxLen) :
    Gives Try.prog 134 #[.pointer (some ⟨lb, 0, none⟩), .pointer (some ⟨mb, 0, none⟩)] (prsL xs most).length (PrX xs most) (fun _ _ => False) (fun b => b = lb ∨ b = mb ∨ b < BB) W := by
  intro l J Jx hJ hJx hY h0
  show Calls Try.prog 134 #[.func (.yield l) #[] #[], .pointer (some ⟨lb, 0, none⟩), .pointer (some ⟨mb, 0, none⟩)] W _
  have HJ := Lib.hid (And.intro hJ h0)
  have HY := Lib.hid hY
  have HS := Lib.hid (show PwSt W lb mb BB X k cp most xs W from ⟨hl, hm, hr, Nat.le_refl _⟩)
  have c0 : W.cell? ⟨lb, 0, none⟩ = some (.slice X k cp) := hl.cell 0
  have c1 : W.cell? ⟨mb, 0, none⟩ = some (.int .i64 most) := hm.cell 0
  have hlen := hr.len
  have HL := Lib.hid hlen
  have HM := Lib.hid hk
  clear hJ hJx hY h0 hl hm hr
  unfold maxLen at hk
  have wf : ∀ k, Fence.wide.fn k := fun _ => trivial
  have wd : Fence.wide.depth = none := rfl
  go_enter Try.func134, Try.ntmps134
  by_cases g1 : 512 < k
  · have d1 : decide ((512 : Int) < (k : Int)) = true := by simp; omega
    have HN := Lib.hid (show prsL xs most = [] by
      unfold prsL prOk
      rw [decide_eq_false (by omega), Bool.false_and, if_neg (by decide)])
    go_wp2
    (try simp only [Exit.inBlock, Exit.then]); refine bodyPost_ret (results_none rfl _ _ _) rfl ?_
    exact ⟨⟨_, rfl⟩, .inl (by rw [HN.out]; exact HJ.out.2)⟩
  have d1 : decide ((512 : Int) < (k : Int)) = false := by simp; omega
  by_cases g2 : most < 0
  · have d2 : decide (most < 0) = true := by simpa using g2
    have HN := Lib.hid (show prsL xs most = [] by
      unfold prsL prOk
      rw [decide_eq_false (show ¬ (0 : Int) ≤ most by omega), Bool.false_and, Bool.and_false, if_neg (by decide)])
    go_wp2
    (try simp only [Exit.inBlock, Exit.then]); refine bodyPost_ret (results_none rfl _ _ _) rfl ?_
    exact ⟨⟨_, rfl⟩, .inl (by rw [HN.out]; exact HJ.out.2)⟩
  have d2 : decide (most < 0) = false := by simp; omega
  go_wp2_with fail
  refine (mayAll_any X k cp 0 BB BB xs W HS.out.sd.rd hBB hBB HS.out.sd.each HM.out).mono ?_
  rintro e w1 ⟨rfl, hb⟩
  have H1 := Lib.hid (And.intro (HJ.out.1 _ _ _ HJ.out.2 hb) (HS.out.on hb hBB))
  have hb1 := hb.size
  clear hb c0 c1
  cases hall : xs.all mayB with
  | false =>
    have HN := Lib.hid (show prsL xs most = [] by
      unfold prsL prOk
      rw [hall, Bool.and_false, Bool.and_false, if_neg (by decide)])
    go_wp2
    (try simp only [Exit.inBlock, Exit.then]); refine bodyPost_ret (results_none rfl _ _ _) rfl ?_
    exact ⟨⟨_, rfl⟩, .inl (by rw [HN.out]; exact H1.out.1)⟩
  | true =>
    have HP := Lib.hid (show prsL xs most = prAll (nearQ xs most) k k by
      unfold prsL prOk
      rw [hall, decide_eq_true (show xs.length ≤ 512 by omega), decide_eq_true (show (0 : Int) ≤ most by omega), hlen]
      rfl)
    have HF := Lib.hid (show ∀ x ∈ xs, Form x.l x.ss from fun x hx => form_of (by have := List.all_eq_true.1 hall x hx; unfold mayB at this; exact eq_of_beq this))
    clear hall
    have c0 : w1.cell? ⟨lb, 0, none⟩ = some (.slice X k cp) := H1.out.2.bl.cell 0
    go_wp2
    clear c0
    go_loopw [4, 5, 6, 7, 22] (fun _ _ _ _ v22 wr => ∃ a : Nat, a ≤ k ∧ v22 = .int .i64 a ∧ Hid (J (prAll (nearQ xs most) k a).length wr ∧ PwSt W lb mb BB X k cp most xs wr)) (fun _ _ _ _ v _ => k - (intOf v).toNat)
    case atStart => exact ⟨0, by omega, rfl, H1⟩
    case round =>
      obtain ⟨a, ha, rfl, HR⟩ := hrel
      clear H1
      by_cases hlt : a < k
      · have i1 : (0 : Int) ≤ (a : Int) := by omega
        have i2 : (a : Int) < (k : Int) := by omega
        go_wp2
        go_loopw [5, 6, 7] (fun v5 _ _ wq => ∃ b : Nat, a + 1 ≤ b ∧ b ≤ k ∧ v5 = .int .i64 b ∧ Hid (J (prAll (nearQ xs most) k a ++ prRow (nearQ xs most) a b).length wq ∧ PwSt W lb mb BB X k cp most xs wq)) (fun v _ _ _ => k - (intOf v).toNat)
        case atStart => exact ⟨a + 1, by omega, by omega, by go_num, Lib.hid ⟨by rw [prRow_le _ _ _ (Nat.le_refl _), List.append_nil]; exact HR.out.1, HR.out.2⟩⟩
        case round =>
          obtain ⟨b, hb0, hb1, rfl, HQ⟩ := hrel
          by_cases hlb : b < k
          · have hBq : BB ≤ wr.heap.size := Nat.le_trans hBB HQ.out.2.size
            obtain ⟨ba, oa, eX, hba, x0, x1, hxx, hmx⟩ := HQ.out.2.sd.at hlt
            obtain ⟨bb, ob, eX2, hbb, y0, y1, hyy, hmy⟩ := HQ.out.2.sd.at hlb
            have hst : prRow (nearQ xs most) a (b + 1) = prRow (nearQ xs most) a b ++ (if nearQ xs most a b = true then [(a, b)] else []) := by
              show prRow (nearQ xs most) a b ++ (if a < b ∧ nearQ xs most a b = true then [(a, b)] else []) = _
              congr 1
              by_cases hq : nearQ xs most a b = true
              · rw [if_pos ⟨by omega, hq⟩, if_pos hq]
              · rw [if_neg (fun h => hq h.2), if_neg hq]
            have hqd : nearQ xs most a b = decide (farS (xs.getD a sd0) (xs.getD b sd0) ≤ most) := rfl
            have hfx := HF.out _ hmx
            have hfy := HF.out _ hmy
            have hpg := pr_get (q := nearQ xs most) hlt hlb (show a < b by omega)
            rw [← HP.out] at hpg
            have HPX := Lib.hid (show ∀ (hq : nearQ xs most a b = true) (W1 : World), PrX xs most W.heap.size (prAll (nearQ xs most) k a ++ prRow (nearQ xs most) a b).length #[.agg #[.int .i64 (a : Nat), .int .i64 (b : Nat)], .int .i64 (farS (xs.getD a sd0) (xs.getD b sd0))] W1 from fun hq W1 => by
              obtain ⟨h1, h2⟩ := hpg hq
              exact ⟨h1, by rw [h2]⟩)
            have HPL := Lib.hid (show nearQ xs most a b = true → (prAll (nearQ xs most) k a ++ prRow (nearQ xs most) a b).length < (prsL xs most).length from fun hq => (hpg hq).1)
            rw [eX] at eX2
            injection eX2 with eX2
            injection eX2 with e1 e2
            subst e1 e2
            have c0 : wr.cell? ⟨lb, 0, none⟩ = some (.slice X k cp) := HQ.out.2.bl.cell 0
            have c1 : wr.cell? ⟨mb, 0, none⟩ = some (.int .i64 most) := HQ.out.2.bm.cell 0
            rw [eX] at c0
            clear eX
            generalize xs.getD a sd0 = x at *
            generalize xs.getD b sd0 = y at *
            have hwi := wi_far hfx hfy (show 0 ≤ most by omega)
            have HXX := Lib.hid (And.intro (And.intro hxx hfx) (And.intro hyy hfy))
            have HST := Lib.hid (And.intro hst hqd)
            have HWI := Lib.hid hwi
            have i3 : (0 : Int) ≤ (b : Int) := by omega
            have i4 : (b : Int) < (k : Int) := by omega
            have dB : decide ((b : Int) < (k : Int)) = true := by simp; omega
            clear hxx hfx hyy hfy hmx hmy hst hqd hpg hwi
            go_wp2
            have Xc0 := Bel.cell c0
            have Xc1 := Bel.cell c1
            have Xx0 := Bel.cell x0
            have Xx1 := Bel.cell x1
            have Xy0 := Bel.cell y0
            have Xy1 := Bel.cell y1
            clear c0 c1 x0 x1 y0 y1
            refine wp_bel (by kernel_rfl) (by kernel_rfl) ?_
            repeat (gi_big_quiet_step (fail))
            gi_big_quiet_want
            gi_big_quiet_op
            refine ⟨.slice (tailA x) (tailF x.l x.ss).length (tailC x), fun z => ?_, ?_⟩
            · exact callsIn_wide.2 ((tail_det x BB z.1 (HXX.out.1.1.below z.2 hBq) (Nat.le_trans hBq z.2.size) HXX.out.1.2).mono (fun e w' h => ⟨h.1, z.next h.2⟩))
            go_big_quiet_on
            repeat (gi_big_quiet_step (fail))
            gi_big_quiet_want
            gi_big_quiet_op
            refine ⟨.slice (tailA y) (tailF y.l y.ss).length (tailC y), fun z => ?_, ?_⟩
            · exact callsIn_wide.2 ((tail_det y BB z.1 (HXX.out.2.1.below z.2 hBq) (Nat.le_trans hBq z.2.size) HXX.out.2.2).mono (fun e w' h => ⟨h.1, z.next h.2⟩))
            go_big_quiet_on
            repeat (gi_big_quiet_step (fail))
            gi_big_quiet_want
            gi_big_quiet_op
            refine ⟨.tuple #[.int .i64 (wiV (tailF x.l x.ss) (tailF y.l y.ss) most), .bool (wiB (tailF x.l x.ss) (tailF y.l y.ss) most)], fun z => ?_, ?_⟩
            · exact callsIn_wide.2 ((within15_any (tailA x) (tailA y) _ _ _ _ _ _ (tailF x.l x.ss) (tailF y.l y.ss) most z.1 ((tail_rd (HXX.out.1.1.below z.2 hBq) HXX.out.1.2).1.more (Nat.le_refl _) (Nat.le_trans hBq z.2.size)) ((tail_rd (HXX.out.2.1.below z.2 hBq) HXX.out.2.2).1.more (Nat.le_refl _) (Nat.le_trans hBq z.2.size)) (fun p hp => HXX.out.1.1.fit p (List.mem_of_mem_drop hp)) (fun p hp => HXX.out.2.1.fit p (List.mem_of_mem_drop hp))).mono (fun e w' h => ⟨h.1, z.next h.2⟩))
            go_big_quiet_on
            repeat (gi_big_quiet_step (fail))
            refine wpQuietIn_nil ?_
            intro _ hw'
            obtain ⟨zW, hw''⟩ := hw'
            subst hw''
            have hzb := zW.2
            generalize zW.1 = wz at *
            have HZ := Lib.hid (And.intro (HJ.out.1 _ _ _ HQ.out.1 (hzb.mono HQ.out.2.size)) (HQ.out.2.on hzb hBq))
            have hzs : BB ≤ wz.heap.size := Nat.le_trans hBq hzb.size
            clear Xc0 Xc1 Xx0 Xx1 Xy0 Xy1 hzb HQ
            rw [HWI.out.1]
            have hcs := HST.out
            by_cases hq : farS x y ≤ most
            · rw [decide_eq_true hq, HWI.out.2 hq]
              have hqt : nearQ xs most a b = true := by rw [HST.out.2]; exact decide_eq_true hq
              obtain ⟨fn, tmps, assign, body, hy, hR⟩ := roundR (HY.out _ _ wz (HPL.out hqt) HZ.out.1 HZ.out.2.size (HPX.out hqt wz))
              have HRR := Lib.hid hR
              have HQT := Lib.hid hqt
              generalize farS x y = d at *
              clear hR hqt hcs hq
              go_upto_region 8 with (fail)
              refine (wpIn_wide (n := 0)).1 ?_
              gi_wp2_with (with_reducible refine HRR.out.mono ?_)
              rintro e w3 ⟨b2, rfl, hq3, ho⟩
              have HQ3 := Lib.hid (HZ.out.2.only ho (fun c hc hs => by
                rcases hs with hs | hs
                · exact hs.2 hc
                · exact hs) hzs)
              have HPL2 := Lib.hid (HPL.out HQT.out)
              clear ho HRR hy
              cases b2 with
              | true =>
                have HJ3 := Lib.hid (hq3.1 rfl)
                clear hq3
                gi_wp2
                go_wp2
                go_roundw
                case rel => exact ⟨b + 1, by omega, by omega, by go_num, Lib.hid ⟨by rw [HST.out.1, if_pos HQT.out, ← List.append_assoc, List.length_append]; exact HJ3.out, HQ3.out⟩⟩
                case measure => simp [intOf]; omega
              | false =>
                have HJ3 := Lib.hid (hq3.2 rfl)
                clear hq3
                gi_wp2
                go_wp2
                (try simp only [Exit.inBlock, Exit.then]); refine bodyPost_ret (results_none rfl _ _ _) rfl ?_
                exact ⟨⟨_, rfl⟩, .inr ⟨_, Nat.succ_pos _, HPL2.out, HJ3.out⟩⟩
            · rw [decide_eq_false hq]
              have hqf : nearQ xs most a b = false := by rw [HST.out.2]; exact decide_eq_false hq
              have HQF := Lib.hid hqf
              clear hcs hqf hq
              generalize wiV (tailF x.l x.ss) (tailF y.l y.ss) most = d at *
              go_wp2
              go_roundw
              case rel => exact ⟨b + 1, by omega, by omega, by go_num, Lib.hid ⟨by rw [HST.out.1, HQF.out, if_neg (by decide), List.append_nil]; exact HZ.out.1, HZ.out.2⟩⟩
              case measure => simp [intOf]; omega
          · have hbk : b = k := by omega
            subst hbk
            have c0 : wr.cell? ⟨lb, 0, none⟩ = some (.slice X b cp) := HQ.out.2.bl.cell 0
            have dB : decide ((b : Int) < (b : Int)) = false := by simp
            go_wp2
            go_roundw
            case rel => exact ⟨a + 1, by omega, by go_num, Lib.hid ⟨HQ.out.1, HQ.out.2⟩⟩
            case measure => simp [intOf]; omega
      · have hak : a = k := by omega
        subst hak
        go_wp2
        go_end0
        exact ⟨⟨_, rfl⟩, .inl (by rw [HP.out]; exact HR.out.1)⟩
end Go.Proofs.Ytogofchpocoebaa
