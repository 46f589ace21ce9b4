/- rhyme.Web. -/
import Derived.Test.YtogofchpocoebaaV14
import Derived.WalkMore
namespace Go.Proofs.Ytogofchpocoebaa
open Go.RowKit Go.Maps
attribute [local go_sem] Oper.semAt_some

theorem IntR.below {W W' : World} {g k m B : Nat} {f : Nat → Int} (h : IntR W g k m f) (hb : Below B W W') (hB : g < B) : IntR W' g k m f := let ⟨cs, h1, h2, h3⟩ := h; ⟨cs, h1.below hb hB, h2, h3⟩
theorem unl_le (o : Nat → Option Nat) : ∀ k, unl o k ≤ k := by
  intro k
  induction k with
  | zero => exact Nat.le_refl _
  | succ k ih => unfold unl; split <;> omega
/-- labels in memory -/
structure WbSt (w : World) (g k : Nat) (o : Nat → Option Nat) (wr : World) : Prop where
  row : IntR wr g k k (fun a => lab (o a))
  below : Below g w wr
section
variable {w wr w' : World} {g k : Nat} {o : Nat → Option Nat}
theorem WbSt.on (h : WbSt w g k o wr) (hb : Below wr.heap.size wr w') : WbSt w g k o w' := ⟨h.row.on hb, h.below.trans (hb.mono (Nat.le_of_lt h.row.lt))⟩
theorem WbSt.past (h : WbSt w g k o wr) (hb : Below (g + 1) wr w') : WbSt w g k o w' := ⟨h.row.below hb (Nat.lt_succ_self _), h.below.trans (hb.mono (Nat.le_succ _))⟩
theorem WbSt.set (h : WbSt w g k o wr) {j : Nat} (hj : j < k) (n : Nat) : WbSt w g k (fun a => if a = j then some n else o a) (wr.setCell ⟨g, j, none⟩ (.int .i64 (n : Int))) := by
  refine ⟨(h.row.set hj (n : Int)).congr (fun a _ => ?_), h.below.setCell (Nat.le_refl _) _⟩
  by_cases e : a = j
  · rw [if_pos e, if_pos e]; rfl
  · rw [if_neg e, if_neg e]
theorem WbSt.is (h : WbSt w g k o wr) {j m : Nat} (hj : j < k) (hm : o j = some m) : wr.cell? ⟨g, j, none⟩ = some (.int .i64 (m : Int)) := by
  have := h.row.cell hj
  rw [hm] at this
  exact this
theorem WbSt.no (h : WbSt w g k o wr) {j : Nat} (hj : j < k) (hm : o j = none) : wr.cell? ⟨g, j, none⟩ = some (.int .i64 (-1)) := by
  have := h.row.cell hj
  rw [hm] at this
  exact this
end
theorem web_long (X : Option Addr) (k cp : Nat) (most : Int) (w : World) (h : 512 < k) : Calls Try.prog 73 #[.slice X k cp, .int .i64 most] w fun e w' => e = .returned (.tuple #[.slice none 0 0, .int .i64 3]) ∧ w' = w := by
  have d1 : decide ((512 : Int) < (k : Int)) = true := by simp; omega
  go_enter Try.func73, Try.ntmps73
  go_wp2
  refine wp_scope_straight ?_
  go_wp2
  rw [Exit.noGoto_ret]
  go_ret2
  exact ⟨rfl, rfl⟩
theorem web_neg (X : Option Addr) (k cp : Nat) (most : Int) (w : World) (h : k ≤ 512) (hm : most < 0) : Calls Try.prog 73 #[.slice X k cp, .int .i64 most] w fun e w' => e = .returned (.tuple #[.slice none 0 0, .int .i64 2]) ∧ Below w.heap.size w w' := by
  have d1 : decide ((512 : Int) < (k : Int)) = false := by simp; omega
  have d2 : decide (most < 0) = true := by simpa using hm
  go_enter Try.func73, Try.ntmps73
  go_wp2
  refine wp_scope_straight ?_
  go_wp2
  rw [Exit.noGoto_ret]
  go_ret2
  exact ⟨rfl, Below.refl _ _⟩
theorem web_ill (X : Option Addr) (k cp BB : Nat) (xs : List Sd) (most : Int) (w : World) (h : SdsIn w BB X k xs) (hBB : BB ≤ w.heap.size) (hk : k ≤ 512) (hm : 0 ≤ most) (hall : xs.all mayB = false) : Calls Try.prog 73 #[.slice X k cp, .int .i64 most] w fun e w' => e = .returned (.tuple #[.slice none 0 0, .int .i64 2]) ∧ Below w.heap.size w w' := by
  have d1 : decide ((512 : Int) < (k : Int)) = false := by simp; omega
  have d2 : decide (most < 0) = false := by simp; omega
  have HA := Lib.hid hall
  have HX := Lib.hid h
  have HM := Lib.hid (show k ≤ maxLen by unfold maxLen; omega)
  clear hall h
  go_enter Try.func73, Try.ntmps73
  go_wp2
  refine wp_scope_straight ?_
  go_wp2_with fail
  refine (mayAll_any X k cp 0 BB BB xs w HX.out.rd hBB hBB HX.out.each HM.out).mono ?_
  rintro e w1 ⟨rfl, hb⟩
  rw [HA.out]
  have H1 := Lib.hid hb
  clear hb
  go_wp2
  rw [Exit.noGoto_ret]
  go_ret2
  exact ⟨rfl, H1.out⟩
theorem Qu.one' {w : World} {base n i : Nat} (hi : i = w.heap.size) (hb : base ≤ w.heap.size) : Qu (w.alloc (.cells #[.int .i64 (n : Int)] 3)) base (.slice (some ⟨i, 0, none⟩) 1 1) [n] := by subst hi; exact Qu.one w hb
def lenV (v : Value) : Nat := match v with | .slice _ n _ => n | _ => 0
set_option maxHeartbeats 8000000 in
set_option maxRecDepth 100000 in
theorem web_any (X : Option Addr) (k cp BB : Nat) (xs : List Sd) (most : Int) (w : World) (h : SdsIn w BB X k xs) (hBB : BB ≤ w.heap.size) (hk : k ≤ 512) (hmost : 0 ≤ most) (hall : xs.all mayB = true) :
    Calls Try.prog 73 #[.slice X k cp, .int .i64 most] w fun e w' => ∃ (v : Value) (F : Nat → Nat), e = .returned (.tuple #[v, .int .i64 0]) ∧ w'.ownsRow w.heap.size 3 1 v k (fnl (fun a => (F a : Int)) k) ∧ Num k (Conn k (nearQ xs most)) F ∧ Below w.heap.size w w' := by
  have d1 : decide ((512 : Int) < (k : Int)) = false := by simp; omega
  have d2 : decide (most < 0) = false := by simp; omega
  have HA := Lib.hid hall
  have HX := Lib.hid h
  have HL := Lib.hid h.len
  have HMO := Lib.hid hmost
  have HM := Lib.hid (show k ≤ maxLen by unfold maxLen; omega)
  have HF := Lib.hid (show ∀ x ∈ xs, Form x.l x.ss from fun x hx => form_of (by have := List.all_eq_true.1 hall x hx; unfold mayB at this; exact eq_of_beq this))
  clear hall h
  obtain ⟨i0, hi, hz0, hz1, hz2⟩ := info_parts info3
  obtain ⟨Z, hZ, hmk⟩ := made_full (P := Try.prog) 71 3 i0 (.int .i64 0) 1 Try.underlying71 hi hz0 hz1 k (by rw [hz2]; omega) (by unfold maxLen; omega)
  have HI := Lib.hid (And.intro hi (And.intro hz0 (And.intro hz1 hz2)))
  clear hi hz0 hz1 hz2
  have wf : ∀ k, Fence.wide.fn k := fun _ => trivial
  have wd : Fence.wide.depth = none := rfl
  go_enter Try.func73, Try.ntmps73
  go_wp2
  refine wp_scope_straight ?_
  go_wp2_with fail
  refine (mayAll_any X k cp 0 BB BB xs w HX.out.rd hBB hBB HX.out.each HM.out).mono ?_
  rintro e w1 ⟨rfl, hb⟩
  rw [HA.out]
  have hw1 := hb.size
  have H1 := Lib.hid hb
  clear hb
  by_cases hk0 : k = 0
  · subst hk0
    go_wp2
    rw [Exit.noGoto_ret]
    go_ret2
    exact ⟨.slice none 0 0, fun _ => 0, rfl, World.ownsRow_nil _ _ _ _, ⟨fun i j hi => absurd hi (Nat.not_lt_zero _), fun i hi => absurd hi (Nat.not_lt_zero _)⟩, H1.out⟩
  have dk0 : ((k : Int) == 0) = false := beq_eq_false_iff_ne.2 (by omega)
  obtain ⟨g, hg⟩ : ∃ g, g = w1.heap.size := ⟨_, rfl⟩
  have HG := Lib.hid hg
  go_upto_region 8 with (fail)
  refine wp_abs (fun wx => IntR wx w1.heap.size k 0 (fun _ => -1) ∧ Below w1.heap.size w1 wx) ⟨⟨Z, Blk.new _ _ _, by rw [hZ, Nat.mul_one], fun a ha => absurd ha (Nat.not_lt_zero _)⟩, (Below.refl _ _).alloc (Nat.le_refl _) _⟩ ?_
  intro w2 h2
  have H2 := Lib.hid h2
  rw [← hg] at H2 ⊢
  have hBg : BB ≤ g := by omega
  have hwg : w.heap.size ≤ g := by omega
  clear hmk hZ h2 hg
  go_wp2
  go_loopw [7, 35] (fun _ v35 wr => ∃ i : Nat, i ≤ k ∧ v35 = .int .i64 i ∧ Hid (IntR wr g k i (fun _ => -1) ∧ Below g w1 wr)) (fun _ v35 _ => k - (intOf v35).toNat)
  case atStart => exact ⟨0, by omega, rfl, H2⟩
  case round =>
    obtain ⟨i, hi, rfl, HR⟩ := hrel
    by_cases hlt : i < k
    · obtain ⟨u, fc⟩ := HR.out.1.has hlt
      have fo := HR.out.1.frozen i
      have i1 : (0 : Int) ≤ (i : Int) := by omega
      have i2 : (i : Int) < (k : Int) := by omega
      have di : decide ((i : Int) < (k : Int)) = true := by simp; omega
      go_wp2
      go_roundw
      case rel => exact ⟨i + 1, by omega, by go_num, Lib.hid ⟨HR.out.1.next hlt rfl, HR.out.2.setCell (Nat.le_refl _) _⟩⟩
      case measure => simp [intOf]; omega
    · have hik : i = k := by omega
      subst hik
      have di : decide ((i : Int) < (i : Int)) = false := by simp
      clear H2
      go_wp2
      go_step3
      go_wp2
      go_loopw [8, 9, 10, 11, 12, 13, 14, 44] (fun v8 _ _ _ _ _ _ v44 wr => ∃ (c next : Nat) (o : Nat → Option Nat), c ≤ i ∧ next ≤ c ∧ v44 = .int .i64 c ∧ v8 = .int .i64 next ∧ Hid (WbSt w1 g i o wr ∧ WebOk i (nearQ xs most) o c next)) (fun _ _ _ _ _ _ _ v44 _ => i - (intOf v44).toNat)
      case atStart => exact ⟨0, 0, fun _ => none, by omega, by omega, rfl, rfl, Lib.hid ⟨⟨HR.out.1, HR.out.2⟩, web_init _ _⟩⟩
      case round =>
        obtain ⟨c, next, o, hc, hnc, rfl, rfl, HQ⟩ := hrel
        clear HR
        by_cases hlc : c < i
        · have i1 : (0 : Int) ≤ (c : Int) := by omega
          have i2 : (c : Int) < (i : Int) := by omega
          have di : decide ((c : Int) < (i : Int)) = true := by simp; omega
          cases hoc : o c with
          | some m =>
            have cm := HQ.out.1.is hlc hoc
            have dm : decide ((0 : Int) ≤ (m : Int)) = true := decide_eq_true (by omega)
            have dm2 : ¬ (m : Int) < 0 := by omega
            have HO := Lib.hid (show (o c).isSome = true by rw [hoc]; rfl)
            clear hoc
            go_wp2
            go_roundw
            case rel => exact ⟨c + 1, next, o, by omega, by omega, by go_num, rfl, Lib.hid ⟨HQ.out.1, web_skip HQ.out.2 HO.out⟩⟩
            case measure => simp [intOf]; omega
          | none =>
            have cm := HQ.out.1.no hlc hoc
            have fo := HQ.out.1.row.frozen c
            have HO := Lib.hid hoc
            clear hoc
            have hgr := HQ.out.1.row.lt
            have hBr : BB ≤ wr.heap.size := by omega
            go_wp2
            have HW := Lib.hid HQ.out.2
            have HD0 := Lib.hid (And.intro ((HQ.out.1.set hlc next).on ((Below.refl _ _).alloc (Nat.le_refl _) (.cells #[.int .i64 (c : Int)] 3))) (And.intro (Qu.one' (w := wr.setCell ⟨g, c, none⟩ (.int .i64 (next : Int))) (base := g + 1) (n := c) (i := wr.heap.size) (by simp) (by simp; omega)) (bfs_start HQ.out.2 hlc HO.out)))
            have hun := unl_set (v := next) HO.out i
            rw [if_pos hlc] at hun
            have hul := unl_le o i
            go_loopw [10, 11, 12, 13, 14] (fun v10 _ _ _ _ wq => ∃ (o' : Nat → Option Nat) (l : List Nat), l.length + unl o' i ≤ i ∧ lenV v10 = l.length ∧ Hid (WbSt w1 g i o' wq ∧ Qu wq (g + 1) v10 l ∧ BfsOk i (nearQ xs most) o o' c next l none)) (fun v10 _ _ _ _ wq => lenV v10 + 2 * unlW wq g i)
            case atStart => exact ⟨_, [c], by simp only [List.length_cons, List.length_nil]; omega, rfl, HD0⟩
            case round =>
              obtain ⟨o', l, hlen, hlv, HR⟩ := hrel
              clear HD0 hun hul
              have hqq := HR.out.2.1
              cases l with
              | nil =>
                obtain ⟨qb, qo, qc, rfl⟩ := hqq.slice
                have dl : decide ((0 : Int) < (([] : List Nat).length : Int)) = false := by simp
                clear hqq
                go_wp2
                go_roundw
                case rel => exact ⟨c + 1, next + 1, o', by omega, by omega, by go_num, by go_num, Lib.hid ⟨HR.out.1, bfs_end (near_comm xs most) HW.out HR.out.2.2⟩⟩
                case measure => simp [intOf]; omega
              | cons q l =>
                obtain ⟨qb, qo, qc, rfl, cq⟩ := hqq.head
                have hmeas : 2 * unlW wr g i = 2 * unl o' i := by rw [unlW_is (o := o') (fun j hj => HR.out.1.row.cell hj)]
                have HME := Lib.hid hmeas
                have HQQ := Lib.hid hqq
                have hwt := HR.out.2.2.wt q (by simp)
                have hqi := hwt.1
                have HWT := Lib.hid hwt.2
                simp only [List.length_cons] at hlen hlv
                have dl : decide ((0 : Int) < ((q :: l).length : Int)) = true := by simp
                have j1 : (0 : Int) < ((q :: l).length : Int) := by simp
                clear hqq hmeas hwt
                go_wp2_with (at_cut; refine wpList_pop rfl 71 _ rfl i0 Try.underlying71 HI.out.1 HI.out.2.2.1 q rfl HQQ.out ?_; intro v10 hq10; have HQ10 := Lib.hid hq10; clear hq10)
                have HD1 := Lib.hid (And.intro HR.out.1 (And.intro HQ10.out (bfs_pop HR.out.2.2)))
                have HWT0 := Lib.hid (And.intro HWT.out hqi)
                clear HQQ HQ10 cq
                go_loopw [10, 12, 13, 14, 68] (fun v10 _ _ _ v68 wp_ => ∃ (o2 : Nat → Option Nat) (l2 : List Nat) (j : Nat), j ≤ i ∧ v68 = .int .i64 j ∧ l2.length + unl o2 i ≤ i ∧ l2.length + 2 * unl o2 i ≤ l.length + 2 * unl o' i ∧ Hid (WbSt w1 g i o2 wp_ ∧ Qu wp_ (g + 1) v10 l2 ∧ BfsOk i (nearQ xs most) o o2 c next l2 (some (q, j)) ∧ o2 q = some next)) (fun _ _ _ _ v68 _ => i - (intOf v68).toNat)
                case atStart => exact ⟨o', l, 0, by omega, rfl, by omega, by omega, Lib.hid ⟨HD1.out.1, HD1.out.2.1, HD1.out.2.2, HWT.out⟩⟩
                case round =>
                  obtain ⟨o2, l2, j, hj, rfl, hb1, hb2, HP⟩ := hrel
                  clear HD1 HR
                  by_cases hlj : j < i
                  · have k1 : (0 : Int) ≤ (j : Int) := by omega
                    have k2 : (j : Int) < (i : Int) := by omega
                    have dj : decide ((j : Int) < (i : Int)) = true := by simp; omega
                    cases hoj : o2 j with
                    | some m =>
                      have cm := HP.out.1.is hlj hoj
                      have dm : decide ((0 : Int) ≤ (m : Int)) = true := decide_eq_true (by omega)
                      have dm2 : ¬ (m : Int) < 0 := by omega
                      have HO2 := Lib.hid (show (o2 j).isSome = true by rw [hoj]; rfl)
                      clear hoj
                      go_wp2
                      go_roundw
                      case rel => exact ⟨o2, l2, j + 1, by omega, by go_num, hb1, hb2, Lib.hid ⟨HP.out.1, HP.out.2.1, bfs_skip (near_comm xs most) HW.out HP.out.2.2.1 hqi hlj HO2.out, HP.out.2.2.2⟩⟩
                      case measure => simp [intOf]; omega
                    | none =>
                      have cm := HP.out.1.no hlj hoj
                      have HO2 := Lib.hid hoj
                      clear hoj
                      have hgq := HP.out.1.row.lt
                      have hBq : BB ≤ wr.heap.size := by omega
                      have hxx := HX.out.below (H1.out.trans (HP.out.1.below.mono hwg)) hBB
                      obtain ⟨ba, oa, eX, hba, x0, x1, hx1, hmx⟩ := hxx.at hqi
                      obtain ⟨bb, ob, eX2, hbb, y0, y1, hy1, hmy⟩ := hxx.at hlj
                      rw [eX] at eX2
                      injection eX2 with eX2
                      injection eX2 with e1 e2
                      subst e1 e2
                      have hqd : nearQ xs most q j = decide (farS (xs.getD q sd0) (xs.getD j sd0) ≤ most) := rfl
                      have hfx := HF.out _ hmx
                      have hfy := HF.out _ hmy
                      have hwi := wi_far hfx hfy HMO.out
                      have HXX := Lib.hid (And.intro (And.intro hx1 hfx) (And.intro hy1 hfy))
                      have HQD := Lib.hid hqd
                      rw [eX]
                      clear hx1 hy1 hmx hmy hqd eX hxx hfx hfy
                      generalize xs.getD q sd0 = x at *
                      generalize xs.getD j sd0 = y at *
                      have HWI := Lib.hid hwi
                      have k3 : (0 : Int) ≤ (q : Int) := by omega
                      have k4 : (q : Int) < (i : Int) := by omega
                      clear hwi
                      go_wp2
                      have Xx0 := Bel.cell x0
                      have Xx1 := Bel.cell x1
                      have Xy0 := Bel.cell y0
                      have Xy1 := Bel.cell y1
                      clear x0 x1 y0 y1 cm
                      refine wp_bel (by kernel_rfl) (by kernel_rfl) ?_
                      repeat (gi_big_quiet_step (fail))
                      gi_big_quiet_want
                      gi_big_quiet_op
                      refine ⟨.slice (tailA x) (tailF x.l x.ss).length (tailC x), fun z => ?_, ?_⟩
                      · exact callsIn_wide.2 ((tail_det x BB z.1 (HXX.out.1.1.below z.2 hBq) (Nat.le_trans hBq z.2.size) HXX.out.1.2).mono (fun e w' h => ⟨h.1, z.next h.2⟩))
                      go_big_quiet_on
                      repeat (gi_big_quiet_step (fail))
                      gi_big_quiet_want
                      gi_big_quiet_op
                      refine ⟨.slice (tailA y) (tailF y.l y.ss).length (tailC y), fun z => ?_, ?_⟩
                      · exact callsIn_wide.2 ((tail_det y BB z.1 (HXX.out.2.1.below z.2 hBq) (Nat.le_trans hBq z.2.size) HXX.out.2.2).mono (fun e w' h => ⟨h.1, z.next h.2⟩))
                      go_big_quiet_on
                      repeat (gi_big_quiet_step (fail))
                      gi_big_quiet_want
                      gi_big_quiet_op
                      refine ⟨.tuple #[.int .i64 (wiV (tailF x.l x.ss) (tailF y.l y.ss) most), .bool (wiB (tailF x.l x.ss) (tailF y.l y.ss) most)], fun z => ?_, ?_⟩
                      · exact callsIn_wide.2 ((within15_any (tailA x) (tailA y) _ _ _ _ _ _ (tailF x.l x.ss) (tailF y.l y.ss) most z.1 ((tail_rd (HXX.out.1.1.below z.2 hBq) HXX.out.1.2).1.more (Nat.le_refl _) (Nat.le_trans hBq z.2.size)) ((tail_rd (HXX.out.2.1.below z.2 hBq) HXX.out.2.2).1.more (Nat.le_refl _) (Nat.le_trans hBq z.2.size)) (fun p hp => HXX.out.1.1.fit p (List.mem_of_mem_drop hp)) (fun p hp => HXX.out.2.1.fit p (List.mem_of_mem_drop hp))).mono (fun e w' h => ⟨h.1, z.next h.2⟩))
                      go_big_quiet_on
                      repeat (gi_big_quiet_step (fail))
                      refine wpQuietIn_nil ?_
                      intro _ hw'
                      obtain ⟨zW, hw''⟩ := hw'
                      subst hw''
                      have hzb := zW.2
                      generalize zW.1 = wz at *
                      have HZ := Lib.hid (And.intro (HP.out.1.on hzb) (HP.out.2.1.on hzb))
                      have hzs := hzb.size
                      clear Xx0 Xx1 Xy0 Xy1 hzb HXX
                      rw [HWI.out.1]
                      by_cases hq : farS x y ≤ most
                      · rw [decide_eq_true hq]
                        have HNR := Lib.hid (show nearQ xs most q j = true by rw [HQD.out]; exact decide_eq_true hq)
                        generalize wiV (tailF x.l x.ss) (tailF y.l y.ss) most = d at *
                        have cm := HZ.out.1.no hlj HO2.out
                        have fo := HZ.out.1.row.frozen j
                        have hun := unl_set (v := next) HO2.out i
                        rw [if_pos hlj] at hun
                        have hqj : q ≠ j := by
                          rintro rfl
                          have h1 := HP.out.2.2.2
                          rw [HO2.out] at h1
                          cases h1
                        have HB2 := Lib.hid (And.intro (bfs_take HW.out HP.out.2.2.1 hqi HP.out.2.2.2 hlj HO2.out HNR.out) (show (fun a => if a = j then some next else o2 a) q = some next by show (if q = j then _ else _) = _; rw [if_neg hqj]; exact HP.out.2.2.2))
                        have hl2 : l2.length ≤ 1000000 := by omega
                        have HS := Lib.hid (And.intro ((HZ.out.1.set hlj next).on ((Below.refl _ _).alloc (Nat.le_refl _) (.cells #[.int .i64 (j : Int)] 3))) (((HZ.out.2.only (Only.setCell (S := fun k => k = g) (Only.refl _ wz) (p := ⟨g, j, none⟩) (.inl rfl) (.int .i64 (next : Int))) (fun k hk e => by omega))).on ((Below.refl _ _).alloc (Nat.le_refl _) (.cells #[.int .i64 (j : Int)] 3))))
                        clear hq
                        obtain ⟨qb2, qo2, qc2, hv2⟩ := HP.out.2.1.slice
                        subst hv2
                        have HC := Lib.hid (show ((wz.setCell ⟨g, j, none⟩ (.int .i64 (next : Int))).alloc (.cells #[.int .i64 (j : Int)] 3)).cell? ⟨wz.heap.size, 0, none⟩ = some (natW j) from (blk_new_eq (by simp)).cell 0)
                        go_wp2_with (at_builtin; refine wpList_push rfl _ _ 71 rfl i0 Try.underlying71 HI.out.1 HI.out.2.1 HI.out.2.2.1 HI.out.2.2.2 j rfl HS.out.2 _ 1 rfl HC.out hl2 (by simp; omega) ?_; intro v' w' hq' hb'; have HT := Lib.hid (And.intro (HS.out.1.past hb') hq'); clear hq' hb')
                        go_roundw
                        case rel => exact ⟨_, l2 ++ [j], j + 1, by omega, by go_num, by rw [List.length_append]; simp only [List.length_cons, List.length_nil]; omega, by rw [List.length_append]; simp only [List.length_cons, List.length_nil]; omega, Lib.hid ⟨HT.out.1, HT.out.2, HB2.out.1, HB2.out.2⟩⟩
                        case measure => simp [intOf]; omega
                      · rw [decide_eq_false hq]
                        have HNR := Lib.hid (show nearQ xs most q j = false by rw [HQD.out]; exact decide_eq_false hq)
                        generalize wiV (tailF x.l x.ss) (tailF y.l y.ss) most = d at *
                        clear hq
                        go_wp2
                        go_roundw
                        case rel => exact ⟨o2, l2, j + 1, by omega, by go_num, hb1, hb2, Lib.hid ⟨HZ.out.1, HZ.out.2, bfs_far HP.out.2.2.1 HNR.out, HP.out.2.2.2⟩⟩
                        case measure => simp [intOf]; omega
                  · have hji : j = i := by omega
                    subst hji
                    have dj : decide ((j : Int) < (j : Int)) = false := by simp
                    obtain ⟨qb2, qo2, qc2, hv2⟩ := HP.out.2.1.slice
                    subst hv2
                    go_wp2
                    go_roundw
                    case rel => exact ⟨o2, l2, hb1, rfl, Lib.hid ⟨HP.out.1, HP.out.2.1, bfs_row HP.out.2.2.1⟩⟩
                    case measure =>
                      rw [HME.out, unlW_is (o := o2) (fun j hj => HP.out.1.row.cell hj)]
                      simp [lenV]
                      omega
        · have hci : c = i := by omega
          subst hci
          have di : decide ((c : Int) < (c : Int)) = false := by simp
          go_wp2
          rw [Exit.noGoto_ret]
          go_ret2
          refine ⟨.slice (some ⟨g, 0, none⟩) c c, fun a => (o a).getD 0, rfl, ?_, web_num HQ.out.2, H1.out.trans (by have h := HQ.out.1.below; exact h.mono hwg)⟩
          refine (HQ.out.1.row.congr (fun a ha => ?_)).own hwg HM.out
          have h := HQ.out.2.all a ha
          cases ho : o a with
          | none => rw [ho] at h; cases h
          | some m => show lab (some m) = (((o a).getD 0 : Nat) : Int); rw [ho]; rfl
end Go.Proofs.Ytogofchpocoebaa
