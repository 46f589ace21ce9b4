/- The reference's May, Last.
   The reference's Tail, Head.
   The reference's Key, Same.
   spoil.
   wakes. -/
import Derived.Test.YtogofchpocoebaaY9
import Derived.Test.YtogofchpocoebaaY3
import Derived.Test.YtogofchpocoebaaS2
import Derived.Test.YtogofchpocoebaaGen
namespace Go.Proofs.Ytogofchpocoebaa
open Go.RowKit Go.Maps

set_option maxHeartbeats 4000000 in
set_option maxRecDepth 100000 in
theorem refMayR_any (x : Sd) (BB : Nat) (w : World) (hx : SdIn w BB x) (hBB : BB ≤ w.heap.size) :
    Calls Try.prog 33 #[.agg #[.slice x.A x.n x.c, .slice x.D x.m x.d]] w fun e w' => e = .returned (.bool (mayB x)) ∧ Below w.heap.size w w' := by
  have HX := Lib.hid hx
  clear hx
  go_enter Try.func33, Try.ntmps33
  go_upto_region 1 with (fail)
  refine wp_abs (fun wx => Below w.heap.size w wx ∧ Blk wx w.heap.size 25 #[.slice x.A x.n x.c, .slice x.D x.m x.d]) ⟨(Below.refl _ _).alloc (Nat.le_refl _) _, Blk.new _ _ _⟩ ?_
  rintro w1 ⟨hb, hB1⟩
  have c0 : w1.cell? ⟨w.heap.size, 0, none⟩ = some (.slice x.A x.n x.c) := hB1.cell 0
  have c1 : w1.cell? ⟨w.heap.size, 1, none⟩ = some (.slice x.D x.m x.d) := hB1.cell 1
  have H1 := Lib.hid hb
  clear hb hB1
  go_wp2_with fail
  have hh := HX.out.below H1.out hBB
  refine (refMay_any x.A x.D x.n x.c x.m x.d 0 BB 0 BB x.l x.ss w1 hh.ph hh.sy (Nat.le_trans hBB H1.out.size) (Nat.le_trans hBB H1.out.size)).mono ?_
  rintro e w2 ⟨rfl, hb⟩
  have H2 := Lib.hid (H1.out.trans (hb.mono H1.out.size))
  clear hb c0 c1 hh
  have hm : mayB x = (mayF x.l x.ss == 0) := rfl
  have HM := Lib.hid hm
  clear hm
  cases hE : (mayF x.l x.ss == 0) with
  | false =>
    rw [hE] at HM
    go_wp2
    go_ret
    exact ⟨ret_bool HM.out.symm, H2.out⟩
  | true =>
    rw [hE] at HM
    go_wp2
    go_ret
    exact ⟨ret_bool HM.out.symm, H2.out⟩

set_option maxHeartbeats 4000000 in
set_option maxRecDepth 100000 in
theorem refLast_any (x : Sd) (BB : Nat) (w : World) (hx : SdIn w BB x) (hBB : BB ≤ w.heap.size) (h64 : x.m ≤ 64) :
    Calls Try.prog 34 #[.agg #[.slice x.A x.n x.c, .slice x.D x.m x.d]] w fun e w' => e = .returned (.int .i64 (topGo x.ss x.m).1) ∧ Below w.heap.size w w' := by
  have HX := Lib.hid hx
  clear hx
  generalize hmm : x.m = m
  have HMM := Lib.hid hmm
  rw [hmm] at h64
  clear hmm
  go_enter Try.func34, Try.ntmps34
  go_upto_region 1 with (fail)
  refine wp_abs (fun wx => Below w.heap.size w wx ∧ Blk wx w.heap.size 25 #[.slice x.A x.n x.c, .slice x.D m x.d]) ⟨(Below.refl _ _).alloc (Nat.le_refl _) _, Blk.new _ _ _⟩ ?_
  rintro w1 ⟨hb, hB1⟩
  have c0 : w1.cell? ⟨w.heap.size, 0, none⟩ = some (.slice x.A x.n x.c) := hB1.cell 0
  have c1 : w1.cell? ⟨w.heap.size, 1, none⟩ = some (.slice x.D m x.d) := hB1.cell 1
  have H1 := Lib.hid hb
  clear hb hB1
  go_wp2
  go_loopw [3, 4, 5] (fun a b v wr => ∃ j : Nat, j ≤ m ∧ v = .int .i64 j ∧ a = .int .i64 (topGo x.ss j).1 ∧ b = .int .i64 (topGo x.ss j).2 ∧ wr = w1) (fun _ _ v _ => m - (intOf v).toNat)
  case atStart => exact ⟨0, by omega, rfl, rfl, rfl, rfl⟩
  case round =>
    obtain ⟨j, hj, rfl, rfl, rfl, rfl⟩ := hrel
    by_cases hlt : j < m
    · have hx1 := HX.out.below H1.out hBB
      have hjm : j < x.m := by have := HMM.out; omega
      obtain ⟨b, o, hl, eD, _, hlt2, y0, y1, y2, y3, y4⟩ := hx1.sy.sy (k := j) hjm
      have hg : x.ss.getD j sy0 = x.ss[j] := by rw [List.getD_eq_getElem?_getD, List.getElem?_eq_getElem hl]; rfl
      have ht : topGo x.ss (j + 1) = if (topGo x.ss j).2 ≤ x.ss[j].st then ((j : Int), x.ss[j].st) else topGo x.ss j := by rw [← hg]; rfl
      rw [eD] at c1
      generalize x.ss[j].st = st at *
      have HT := Lib.hid ht
      clear hx1 y0 y1 y2 y4 hg ht eD
      have i1 : (0 : Int) ≤ (j : Int) := by omega
      have i2 : (j : Int) < (m : Int) := by omega
      by_cases hle : (topGo x.ss j).2 ≤ st
      · replace HT := Lib.hid (by have := HT.out; rwa [if_pos hle] at this)
        generalize topGo x.ss j = tp at *
        have hd1 : decide (tp.2 ≤ st) = true := decide_eq_true hle
        go_wp2
        go_roundw
        case rel => exact ⟨j + 1, by omega, by go_num, by rw [HT.out], by rw [HT.out], trivial⟩
        case measure => simp [intOf]; omega
      · replace HT := Lib.hid (by have := HT.out; rwa [if_neg hle] at this)
        generalize topGo x.ss j = tp at *
        have hd1 : decide (tp.2 ≤ st) = false := decide_eq_false hle
        go_wp2
        go_roundw
        case rel => exact ⟨j + 1, by omega, by go_num, by rw [HT.out], by rw [HT.out], trivial⟩
        case measure => simp [intOf]; omega
    · have hjk : j = m := by omega
      subst hjk
      go_wp2
      go_ret
      exact ⟨rfl, H1.out⟩
end Go.Proofs.Ytogofchpocoebaa

namespace Go.Proofs.Ytogofchpocoebaa
open Go.RowKit Go.Maps

theorem refLastF_any (x : Sd) (BB : Nat) (w : World) (hx : SdIn w BB x) (hBB : BB ≤ w.heap.size) (hf : Form x.l x.ss) :
    Calls Try.prog 34 #[.agg #[.slice x.A x.n x.c, .slice x.D x.m x.d]] w fun e w' => e = .returned (.int .i64 (lastF x.ss : Int)) ∧ Below w.heap.size w w' := by
  have eM := hx.sy.len_sy
  have h := refLast_any x BB w hx hBB (by have := hf.m64; omega)
  rw [← eM, top_last hf.ok hf.pos] at h
  rw [← eM]
  exact h

set_option maxHeartbeats 4000000 in
set_option maxRecDepth 100000 in
theorem refTail_det (x : Sd) (BB : Nat) (w : World) (hx : SdIn w BB x) (hBB : BB ≤ w.heap.size) (hf : Form x.l x.ss) :
    Calls Try.prog 36 #[.agg #[.slice x.A x.n x.c, .slice x.D x.m x.d]] w fun e w' => e = .returned (.slice (tailA x) (tailF x.l x.ss).length (tailC x)) ∧ Below w.heap.size w w' := by
  obtain ⟨q1, q2, q3, q4⟩ := hf.last
  have eN := hx.ph.len_ph
  have eM := hx.sy.len_sy
  obtain ⟨i, hi⟩ : ∃ i, i = lastF x.ss := ⟨_, rfl⟩
  have him : i < x.m := by have := lastF_lt hf.pos; omega
  obtain ⟨nu, hnu⟩ : ∃ k : Nat, (lastS x.ss).nu = k := ⟨(lastS x.ss).nu.toNat, by omega⟩
  have hnn : nu < x.n := by omega
  obtain ⟨b, o, hl, eD, _, hlt, y0, y1, y2, y3, y4⟩ := hx.sy.sy (k := i) him
  obtain ⟨ba, oa, eA, _, hlta, _⟩ := hx.ph.2 (by omega)
  have hls : lastS x.ss = x.ss[i] := by unfold lastS; rw [← hi, List.getD_eq_getElem?_getD, List.getElem?_eq_getElem hl]; rfl
  have hnu2 : x.ss[i].nu = (nu : Int) := by rw [← hls]; exact hnu
  rw [hnu2] at y1
  have htl : tailF x.l x.ss = x.l.drop nu := by unfold tailF; rw [hnu]; rfl
  have htn : (tailF x.l x.ss).length = x.n - nu := by rw [htl, List.length_drop, eN]
  have HT := Lib.hid (And.intro htl htn)
  have HTA := Lib.hid (show tailA x = some ⟨ba, oa + nu * 3, none⟩ ∧ tailC x = x.c - nu from ⟨by unfold tailA; rw [eA, hnu]; rfl, by unfold tailC; rw [hnu]; rfl⟩)
  have HLAST := Lib.hid (fun (W : World) (hb : Below w.heap.size w W) => refLastF_any x BB W (hx.below hb hBB) (Nat.le_trans hBB hb.size) hf)
  rw [← hi] at HLAST
  have hcap := hx.cap
  have hn128 : x.n ≤ 128 := by have := hf.n128; omega
  have hm64 : x.m ≤ 64 := by have := hf.m64; omega
  have hrd := hx.ph
  rw [eA] at hrd
  have HRD := Lib.hid hrd
  clear q1 q2 q3 q4 hls hnu2 hnu hf hx hi htl htn hrd
  rw [eA, eD]
  rw [eA, eD] at HLAST
  generalize x.n = n at *
  generalize x.c = c at *
  generalize x.m = m at *
  generalize x.d = d at *
  go_enter Try.func36, Try.ntmps36
  go_upto_region 1 with (fail)
  refine wp_abs (fun wx => Below w.heap.size w wx ∧ Blk wx w.heap.size 25 #[.slice (some ⟨ba, oa, none⟩) n c, .slice (some ⟨b, o, none⟩) m d]) ⟨(Below.refl _ _).alloc (Nat.le_refl _) _, Blk.new _ _ _⟩ ?_
  rintro w1 ⟨hb, hB1⟩
  have c0 : w1.cell? ⟨w.heap.size, 0, none⟩ = some (.slice (some ⟨ba, oa, none⟩) n c) := hB1.cell 0
  have c1 : w1.cell? ⟨w.heap.size, 1, none⟩ = some (.slice (some ⟨b, o, none⟩) m d) := hB1.cell 1
  have z1 : w1.cell? ⟨b, o + i * 5 + 1, none⟩ = some (.int .i64 nu) := (hb.cell (p := ⟨b, o + i * 5 + 1, none⟩) (by simp; omega)).trans y1
  have H1 := Lib.hid hb
  clear hb hB1 y0 y1 y2 y3 y4
  have i1 : (0 : Int) ≤ (i : Int) := by omega
  have i2 : (i : Int) < (m : Int) := by omega
  have j1 : (0 : Int) ≤ (nu : Int) := by omega
  have j2 : (nu : Int) ≤ (n : Int) := by omega
  have j3 : (n : Int) ≤ (c : Int) := by omega
  have j4 : (nu : Int) < (c : Int) := by omega
  have wf : ∀ k, Fence.wide.fn k := fun _ => trivial
  have wd : Fence.wide.depth = none := rfl
  go_wp2
  have Xc0 := Bel.cell c0
  have Xc1 := Bel.cell c1
  have Xz1 := Bel.cell z1
  clear c0 c1 z1
  refine wp_bel (by kernel_rfl) (by kernel_rfl) ?_
  repeat (gi_big_quiet_step (fail))
  gi_big_quiet_want
  gi_big_quiet_op
  refine ⟨.int .i64 (i : Int), fun x => ?_, ?_⟩
  · exact callsIn_wide.2 ((HLAST.out x.1 (H1.out.trans (x.2.mono H1.out.size))).mono (fun e w' h => ⟨h.1, x.next h.2⟩))
  go_big_quiet_on
  repeat (gi_big_quiet_step (fail))
  refine wpQuietIn_nil ?_
  intro _ hw'
  obtain ⟨xW, hw''⟩ := hw'
  subst hw''
  have HZ := Lib.hid (H1.out.trans (xW.2.mono H1.out.size))
  go_wp2
  go_ret
  exact ⟨by rw [HT.out.2, HTA.out.1, HTA.out.2]; rfl, HZ.out⟩

set_option maxHeartbeats 8000000 in
set_option maxRecDepth 100000 in
theorem refHead_det (x : Sd) (BB : Nat) (w : World) (hx : SdIn w BB x) (hBB : BB ≤ w.heap.size) (hf : Form x.l x.ss) :
    Calls Try.prog 37 #[.agg #[.slice x.A x.n x.c, .slice x.D x.m x.d]] w fun e w' => e = .returned (.slice (headA x) (headF x.l x.ss).length (headC x)) ∧ Below w.heap.size w w' := by
  obtain ⟨q1, q2, q3, q4⟩ := hf.last
  have eN := hx.ph.len_ph
  have eM := hx.sy.len_sy
  obtain ⟨i, hi⟩ : ∃ i, i = lastF x.ss := ⟨_, rfl⟩
  have him : i < x.m := by have := lastF_lt hf.pos; omega
  obtain ⟨nu, hnu⟩ : ∃ k : Nat, (lastS x.ss).nu = k := ⟨(lastS x.ss).nu.toNat, by omega⟩
  obtain ⟨fr, hfr⟩ : ∃ k : Nat, (lastS x.ss).fr = k := ⟨(lastS x.ss).fr.toNat, by omega⟩
  have hnn : nu < x.n := by omega
  have hfn : fr ≤ nu := by omega
  obtain ⟨b, o, hl, eD, _, hlt, y0, y1, y2, y3, y4⟩ := hx.sy.sy (k := i) him
  obtain ⟨ba, oa, eA, _, hlta, _⟩ := hx.ph.2 (by omega)
  have hls : lastS x.ss = x.ss[i] := by unfold lastS; rw [← hi, List.getD_eq_getElem?_getD, List.getElem?_eq_getElem hl]; rfl
  have hnu2 : x.ss[i].nu = (nu : Int) := by rw [← hls]; exact hnu
  have hfr2 : x.ss[i].fr = (fr : Int) := by rw [← hls]; exact hfr
  rw [hnu2] at y1
  rw [hfr2] at y0
  have htl : headF x.l x.ss = (x.l.drop fr).take (nu - fr) := by unfold headF; rw [hnu, hfr]; rfl
  have htn : (headF x.l x.ss).length = nu - fr := by rw [htl, List.length_take, List.length_drop, eN]; omega
  have HT := Lib.hid (And.intro htl htn)
  have HTA := Lib.hid (show headA x = some ⟨ba, oa + fr * 3, none⟩ ∧ headC x = x.c - fr from ⟨by unfold headA; rw [eA, hfr]; rfl, by unfold headC; rw [hfr]; rfl⟩)
  have HLAST := Lib.hid (fun (W : World) (hb : Below w.heap.size w W) => refLastF_any x BB W (hx.below hb hBB) (Nat.le_trans hBB hb.size) hf)
  rw [← hi] at HLAST
  have hcap := hx.cap
  have hn128 : x.n ≤ 128 := by have := hf.n128; omega
  have hm64 : x.m ≤ 64 := by have := hf.m64; omega
  have hrd := hx.ph
  rw [eA] at hrd
  have HRD := Lib.hid hrd
  clear q1 q2 q3 q4 hls hnu2 hnu hfr hfr2 hf hx hi htl htn hrd
  rw [eA, eD]
  rw [eA, eD] at HLAST
  generalize x.n = n at *
  generalize x.c = c at *
  generalize x.m = m at *
  generalize x.d = d at *
  generalize x.ss[i].to_ = yt at *
  generalize x.ss[i].st = ys at *
  generalize x.ss[i].hv = yh at *
  go_enter Try.func37, Try.ntmps37
  go_upto_region 1 with (fail)
  refine wp_abs (fun wx => Below w.heap.size w wx ∧ Blk wx w.heap.size 25 #[.slice (some ⟨ba, oa, none⟩) n c, .slice (some ⟨b, o, none⟩) m d]) ⟨(Below.refl _ _).alloc (Nat.le_refl _) _, Blk.new _ _ _⟩ ?_
  rintro w1 ⟨hb, hB1⟩
  have hK : ∀ W', Below w1.heap.size w1 W' → W'.cell? ⟨w.heap.size, 0, none⟩ = some (.slice (some ⟨ba, oa, none⟩) n c) ∧ W'.cell? ⟨w.heap.size, 1, none⟩ = some (.slice (some ⟨b, o, none⟩) m d) ∧ W'.cell? ⟨b, o + i * 5, none⟩ = some (.int .i64 fr) ∧ W'.cell? ⟨b, o + i * 5 + 1, none⟩ = some (.int .i64 nu) ∧ W'.cell? ⟨b, o + i * 5 + 2, none⟩ = some (.int .i64 yt) ∧ W'.cell? ⟨b, o + i * 5 + 3, none⟩ = some (.int .i64 ys) ∧ W'.cell? ⟨b, o + i * 5 + 4, none⟩ = some (.bool yh) := fun W' hb' => by
    have hl1 := hB1.lt
    have hw : ∀ k v, w.cell? ⟨b, k, none⟩ = some v → W'.cell? ⟨b, k, none⟩ = some v := fun k v h => ((hb'.cell (p := ⟨b, k, none⟩) (by simp; omega)).trans (hb.cell (p := ⟨b, k, none⟩) (by simp; omega))).trans h
    exact ⟨(hB1.below hb' hl1).cell 0, (hB1.below hb' hl1).cell 1, hw _ _ y0, hw _ _ y1, hw _ _ y2, hw _ _ y3, hw _ _ y4⟩
  have HK := Lib.hid hK
  have hlw := hB1.lt
  have H1 := Lib.hid hb
  clear hb hB1 y0 y1 y2 y3 y4 hK
  have i1 : (0 : Int) ≤ (i : Int) := by omega
  have i2 : (i : Int) < (m : Int) := by omega
  obtain ⟨c0, c1, z0, z1, z2, z3, z4⟩ := HK.out w1 (Below.refl _ _)
  go_region_held3 (fun W' => W'.cell? ⟨w.heap.size, 0, none⟩ = some (.slice (some ⟨ba, oa, none⟩) n c) ∧ W'.cell? ⟨w.heap.size, 1, none⟩ = some (.slice (some ⟨b, o, none⟩) m d) ∧ W'.cell? ⟨b, o + i * 5, none⟩ = some (.int .i64 fr) ∧ W'.cell? ⟨b, o + i * 5 + 1, none⟩ = some (.int .i64 nu) ∧ W'.cell? ⟨b, o + i * 5 + 2, none⟩ = some (.int .i64 yt) ∧ W'.cell? ⟨b, o + i * 5 + 3, none⟩ = some (.int .i64 ys) ∧ W'.cell? ⟨b, o + i * 5 + 4, none⟩ = some (.bool yh))
    ((refine HK.out _ ?_; repeat (first | exact HZ.out | exact Below.refl _ _ | (with_reducible refine bdrew ?_) | (refine Below.setCell ?_ (by first | exact Nat.le_refl _ | exact HZ.out.size) _) | (refine Below.alloc ?_ (by first | exact Nat.le_refl _ | exact HZ.out.size) _))))
    (first
      | (go_at_call 34
         refine (HLAST.out _ (by repeat (first | exact H1.out | (with_reducible refine bdrew ?_) | (refine Below.alloc ?_ H1.out.size _)))).mono ?_
         rintro e wz ⟨rfl, hb⟩
         have HZ : Hid (Below w1.heap.size w1 wz) := Lib.hid (Below.trans (by repeat (first | exact Below.refl _ _ | (with_reducible refine bdrew ?_) | (refine Below.alloc ?_ (Nat.le_refl _) _))) (hb.mono (by simp)))
         have hZB : ∀ (_ : Unit), True := fun _ => trivial
         first
           | (have hB : Blk wz w1.heap.size 37 #[.int .i64 0, .int .i64 0, .int .i64 0, .int .i64 0, .bool false] := (Blk.drew (Blk.new w1 37 #[.int .i64 0, .int .i64 0, .int .i64 0, .int .i64 0, .bool false])).below hb (by simp)
              have f0 : wz.cell? ⟨w1.heap.size, 0, none⟩ = some (.int .i64 0) := hB.cell 0
              have f1 : wz.cell? ⟨w1.heap.size, 1, none⟩ = some (.int .i64 0) := hB.cell 1
              have f2 : wz.cell? ⟨w1.heap.size, 2, none⟩ = some (.int .i64 0) := hB.cell 2
              have f3 : wz.cell? ⟨w1.heap.size, 3, none⟩ = some (.int .i64 0) := hB.cell 3
              have f4 : wz.cell? ⟨w1.heap.size, 4, none⟩ = some (.bool false) := hB.cell 4
              have ff := hB.frozen
              have HBZ := Lib.hid hB
              clear hB)
           | skip
         clear hb hZB))
  all_goals
    obtain ⟨sp, hsp⟩ : ∃ sp : Nat, (sp = wz.heap.size ∨ sp = w1.heap.size) ∧ True := ⟨_, .inl rfl, trivial⟩
    clear hsp sp c0 c1 z0 z1 z2 z3 z4
    first
      | (refine exit_abs (fun W => Below w.heap.size w W ∧ Blk W wz.heap.size 37 #[.int .i64 fr, .int .i64 nu, .int .i64 yt, .int .i64 ys, .bool yh] ∧ W.cell? ⟨w.heap.size, 0, none⟩ = some (.slice (some ⟨ba, oa, none⟩) n c)) ⟨H1.out.trans ((HZ.out.alloc HZ.out.size _).mono H1.out.size), Blk.new _ _ _, (HK.out _ (HZ.out.alloc HZ.out.size _)).1⟩ ?_
         generalize wz.heap.size = sp at *)
      | (refine exit_abs (fun W => Below w.heap.size w W ∧ Blk W w1.heap.size 37 #[.int .i64 fr, .int .i64 nu, .int .i64 yt, .int .i64 ys, .bool yh] ∧ W.cell? ⟨w.heap.size, 0, none⟩ = some (.slice (some ⟨ba, oa, none⟩) n c)) ⟨H1.out.trans ((((((HZ.out.setCell (Nat.le_refl _) _).setCell (Nat.le_refl _) _).setCell (Nat.le_refl _) _).setCell (Nat.le_refl _) _).setCell (Nat.le_refl _) _).mono H1.out.size), by simpa using ((((HBZ.out.set_ 0 (.int .i64 fr)).set_ 1 (.int .i64 nu)).set_ 2 (.int .i64 yt)).set_ 3 (.int .i64 ys)).set_ 4 (.bool yh), (HK.out _ (((((HZ.out.setCell (Nat.le_refl _) _).setCell (Nat.le_refl _) _).setCell (Nat.le_refl _) _).setCell (Nat.le_refl _) _).setCell (Nat.le_refl _) _)).1⟩ ?_
         clear f0 f1 f2 f3 f4 ff HBZ
         generalize w1.heap.size = sp at *)
    rintro W ⟨hbW, hS, c0⟩
    have s0 : W.cell? ⟨sp, 0, none⟩ = some (.int .i64 fr) := hS.cell 0
    have s1 : W.cell? ⟨sp, 1, none⟩ = some (.int .i64 nu) := hS.cell 1
    have HW := Lib.hid hbW
    clear hbW hS HZ HK H1
    have j1 : (0 : Int) ≤ (fr : Int) := by omega
    have j2 : (fr : Int) ≤ (nu : Int) := by omega
    have j3 : (nu : Int) ≤ (c : Int) := by omega
    have j4 : (fr : Int) < (c : Int) := by omega
    go_wp2
    go_ret
    exact ⟨by rw [HT.out.2, HTA.out.1, HTA.out.2]; rfl, HW.out⟩
theorem refTail_any (x : Sd) (BB : Nat) (w : World) (hx : SdIn w BB x) (hBB : BB ≤ w.heap.size) (hf : Form x.l x.ss) :
    Calls Try.prog 36 #[.agg #[.slice x.A x.n x.c, .slice x.D x.m x.d]] w fun e w' => ∃ X C, e = .returned (.slice X (tailF x.l x.ss).length C) ∧ Rd w' 0 BB 3 X (tailF x.l x.ss).length (phs (tailF x.l x.ss)) ∧ (tailF x.l x.ss).length ≤ C ∧ Below w.heap.size w w' :=
  (refTail_det x BB w hx hBB hf).mono fun _e _w' h => ⟨_, _, h.1, (tail_rd (hx.below h.2 hBB) hf).1, (tail_rd (hx.below h.2 hBB) hf).2, h.2⟩
theorem refHead_any (x : Sd) (BB : Nat) (w : World) (hx : SdIn w BB x) (hBB : BB ≤ w.heap.size) (hf : Form x.l x.ss) :
    Calls Try.prog 37 #[.agg #[.slice x.A x.n x.c, .slice x.D x.m x.d]] w fun e w' => ∃ X C, e = .returned (.slice X (headF x.l x.ss).length C) ∧ Rd w' 0 BB 3 X (headF x.l x.ss).length (phs (headF x.l x.ss)) ∧ (headF x.l x.ss).length ≤ C ∧ Below w.heap.size w w' :=
  (refHead_det x BB w hx hBB hf).mono fun _e _w' h => ⟨_, _, h.1, (head_rd (hx.below h.2 hBB) hf).1, (head_rd (hx.below h.2 hBB) hf).2, h.2⟩
end Go.Proofs.Ytogofchpocoebaa

namespace Go.Proofs.Ytogofchpocoebaa
open Go.RowKit Go.Maps

set_option maxHeartbeats 4000000 in
set_option maxRecDepth 100000 in
theorem refKey_any (x : Sd) (BB : Nat) (w : World) (hx : SdIn w BB x) (hBB : BB ≤ w.heap.size) (hf : Form x.l x.ss) :
    Calls Try.prog 38 #[.agg #[.slice x.A x.n x.c, .slice x.D x.m x.d]] w fun e w' => e = .returned (.string (bts (texts (tailF x.l x.ss)))) ∧ Below w.heap.size w w' := by
  have HX := Lib.hid (And.intro hx hf)
  have HF := Lib.hid (form_parts hf).1
  have hlen := (form_parts hf).2.2.1
  clear hx hf
  go_enter Try.func38, Try.ntmps38
  go_upto_region 1 with (fail)
  refine wp_abs (fun wx => Below w.heap.size w wx ∧ Blk wx w.heap.size 25 #[.slice x.A x.n x.c, .slice x.D x.m x.d]) ⟨(Below.refl _ _).alloc (Nat.le_refl _) _, Blk.new _ _ _⟩ ?_
  rintro w1 ⟨hb, hB1⟩
  have c0 : w1.cell? ⟨w.heap.size, 0, none⟩ = some (.slice x.A x.n x.c) := hB1.cell 0
  have c1 : w1.cell? ⟨w.heap.size, 1, none⟩ = some (.slice x.D x.m x.d) := hB1.cell 1
  have H1 := Lib.hid hb
  clear hb hB1
  go_wp2_with fail
  refine (refTail_any x BB _ (HX.out.1.below H1.out hBB) (Nat.le_trans hBB H1.out.size) HX.out.2).mono ?_
  rintro e w2 ⟨X, C, rfl, hR, hC, hb⟩
  have H2 := Lib.hid (And.intro (H1.out.trans (hb.mono H1.out.size)) hR)
  clear hb hR c0 c1
  generalize hTL : tailF x.l x.ss = l at *
  have HTL := Lib.hid hTL
  clear hTL
  obtain ⟨n, hn⟩ : ∃ n, n = l.length := ⟨_, rfl⟩
  have HN := Lib.hid hn
  rw [← hn] at H2 hC hlen ⊢
  clear hn
  go_wp2
  go_loopw [4, 5] (fun sv v wr => ∃ k : Nat, k ≤ n ∧ v = .int .i64 k ∧ Hid (Below w2.heap.size w2 wr ∧ sv = .string (bts (texts (l.take k))))) (fun _ v _ => n - (intOf v).toNat)
  case atStart => exact ⟨0, by omega, rfl, Lib.hid ⟨Below.refl _ _, rfl⟩⟩
  case round =>
    obtain ⟨k, hk, rfl, HR⟩ := hrel
    have hsv := HR.out.2
    subst hsv
    by_cases hlt : k < n
    · obtain ⟨b, o, hl, rfl, hL, hB2, x0, x1, x2⟩ := (H2.out.2.below HR.out.1 (Nat.le_trans hBB H2.out.1.size)).ph hlt
      have hsn : texts (l.take (k + 1)) = texts (l.take k) ++ textP l[k] := by rw [List.take_succ_eq_append_getElem hl, texts_snoc]
      have b1 := texts_len (l.take k) (List.all_eq_true.2 fun x hx => List.all_eq_true.1 HF.out x (List.mem_of_mem_take hx))
      have b2 := textP_len (List.all_eq_true.1 HF.out _ (List.getElem_mem hl))
      rw [List.length_take] at b1
      generalize l[k] = p at *
      have q1 : ∀ W : World, Sem.run Try.prog (Op.stringOp .add (bts (texts (l.take k))) (bts (textP p))) W = .ok (.string (bts (texts (l.take k)) ++ bts (textP p))) W := fun W => run_string_add_sum W _ _ (by simp only [bts_size]; omega)
      have HSN := Lib.hid hsn
      clear hsn hL hB2 b1 b2
      have i1 : (0 : Int) ≤ (k : Int) := by omega
      have i2 : (k : Int) < (n : Int) := by omega
      go_wp2_with fail
      refine (refText_any p _).mono ?_
      rintro e wz ⟨rfl, hb⟩
      have HX2 := Lib.hid (HR.out.1.trans (hb.mono HR.out.1.size))
      clear hb
      go_wp2
      go_roundw
      case rel => exact ⟨k + 1, by omega, by go_num, Lib.hid ⟨HX2.out, by rw [HSN.out, ← bts_append]⟩⟩
      case measure => simp [intOf]; omega
    · have hkn : k = n := by omega
      subst hkn
      have HL := Lib.hid (show texts (l.take k) = texts l by rw [List.take_of_length_le (by rw [HN.out]; exact Nat.le_refl _)])
      go_wp2
      go_ret
      exact ⟨by rw [HTL.out, ← HL.out]; rfl, H2.out.1.trans (HR.out.1.mono H2.out.1.size)⟩

set_option maxHeartbeats 4000000 in
set_option maxRecDepth 100000 in
theorem refSame_any (A B : Option Addr) (n c m d L1 L2 B1 B2 : Nat) (l1 l2 : List Ph) (w : World)
    (h1 : Rd w L1 B1 3 A n (phs l1)) (h2 : Rd w L2 B2 3 B m (phs l2)) (e1 : n ≤ maxLen) (e2 : m ≤ maxLen) (z1 : B1 ≤ w.heap.size) (z2 : B2 ≤ w.heap.size) :
    Calls Try.prog 35 #[.slice A n c, .slice B m d] w fun e w' => e = .returned (.bool (decide (l1 = l2))) ∧ Below w.heap.size w w' := by
  unfold maxLen at e1 e2
  have Q := Lib.hid (And.intro h1.len_ph h2.len_ph)
  have H1 := Lib.hid h1
  have H2 := Lib.hid h2
  clear h1 h2
  by_cases hn : n = m
  · subst hn
    have hb1 : ((n : Int) != (n : Int)) = false := by simp
    go_enter Try.func35, Try.ntmps35
    go_wp2
    go_loopw [5] (fun v wr => ∃ k : Nat, k ≤ n ∧ v = .int .i64 k ∧ Hid (Below w.heap.size w wr ∧ decide (l1 = l2) = decide (l1.drop k = l2.drop k))) (fun v _ => n - (intOf v).toNat)
    case atStart => exact ⟨0, by omega, rfl, Below.refl _ _, rfl⟩
    case round =>
      obtain ⟨k, hk, rfl, H⟩ := hrel
      by_cases hlt : k < n
      · obtain ⟨b, o, hl, rfl, hL, hB, p1, p2, p5⟩ := H1.out.ph hlt
        obtain ⟨b', o', hl', rfl, hL', hB', p3, p4, p6⟩ := H2.out.ph hlt
        generalize hx : l1[k] = x at p1 p2 p5
        generalize hy : l2[k] = y at p3 p4 p6
        obtain ⟨x1, x2, x3⟩ := x
        obtain ⟨y1, y2, y3⟩ := y
        have r1 := (H.out.1.cell (p := ⟨b, o + k * 3, none⟩) (Nat.lt_of_lt_of_le hB z1)).trans p1
        have r2 := (H.out.1.cell (p := ⟨b, o + k * 3 + 1, none⟩) (Nat.lt_of_lt_of_le hB z1)).trans p2
        have r5 := (H.out.1.cell (p := ⟨b, o + k * 3 + 2, none⟩) (Nat.lt_of_lt_of_le hB z1)).trans p5
        have r3 := (H.out.1.cell (p := ⟨b', o' + k * 3, none⟩) (Nat.lt_of_lt_of_le hB' z2)).trans p3
        have r4 := (H.out.1.cell (p := ⟨b', o' + k * 3 + 1, none⟩) (Nat.lt_of_lt_of_le hB' z2)).trans p4
        have r6 := (H.out.1.cell (p := ⟨b', o' + k * 3 + 2, none⟩) (Nat.lt_of_lt_of_le hB' z2)).trans p6
        have hde : decide (l1.drop k = l2.drop k) = (decide ((x1, x2, x3) = (y1, y2, y3)) && decide (l1.drop (k + 1) = l2.drop (k + 1))) := by
          rw [drop_atP l1 k hl, drop_atP l2 k hl', hx, hy]
          simp [Bool.and_assoc, List.cons.injEq]
        have HDE := Lib.hid hde
        have i1 : (0 : Int) ≤ (k : Int) := by omega
        have i2 : (k : Int) < (n : Int) := by omega
        clear hde hx hy p1 p2 p3 p4 p5 p6
        by_cases g1 : x1 = y1
        · subst g1
          by_cases g2 : x2 = y2
          · subst g2
            by_cases g3 : x3 = y3
            · subst g3
              go_wp2
              go_quiet (fail)
              go_wp2
              go_roundw
              case rel => exact ⟨k + 1, by omega, by go_num, Lib.hid ⟨bdrawn H.out.1 _, by rw [H.out.2, HDE.out]; simp⟩⟩
              case measure => simp [intOf]; omega
            · go_wp2
              go_quiet (fail)
              go_wp2
              go_ret
              exact ⟨ret_bool (by rw [H.out.2, HDE.out]; simp [g3]), bdrawn H.out.1 _⟩
          · go_wp2
            go_quiet (fail)
            go_wp2
            go_ret
            exact ⟨ret_bool (by rw [H.out.2, HDE.out]; simp [g2]), bdrawn H.out.1 _⟩
        · go_wp2
          go_quiet (fail)
          go_wp2
          go_ret
          exact ⟨ret_bool (by rw [H.out.2, HDE.out]; simp [g1]), bdrawn H.out.1 _⟩
      · have hkn : k = n := by omega
        subst hkn
        have HL := Lib.hid (show decide (l1 = l2) = true by rw [H.out.2, List.drop_of_length_le (by rw [Q.out.1]; exact Nat.le_refl _), List.drop_of_length_le (by rw [Q.out.2]; exact Nat.le_refl _)]; rfl)
        go_wp2
        go_ret
        exact ⟨ret_bool HL.out.symm, H.out.1⟩
  · have hs : decide (l1 = l2) = false := by
      simp only [decide_eq_false_iff_not]
      intro hh; apply hn; rw [← Q.out.1, ← Q.out.2, hh]
    have hb1 : ((n : Int) != (m : Int)) = true := by simp; omega
    have HS := Lib.hid hs
    clear hs hn
    go_enter Try.func35, Try.ntmps35
    go_wp2
    go_ret
    exact ⟨ret_bool HS.out.symm, Below.refl _ _⟩
end Go.Proofs.Ytogofchpocoebaa

namespace Go.Proofs.Ytogofchpocoebaa
open Go.RowKit Go.Maps

set_option maxHeartbeats 4000000 in
set_option maxRecDepth 100000 in
theorem spoil_any (base : Nat) (A : Option Addr) (n C : Nat) (xs : List Value) (w : World) (h : w.ownsRow base 43 3 (.slice A n C) n xs) :
    Calls Try.prog 39 #[.slice A n C] w fun e w' => e = .returned (.tuple #[]) ∧ Only (fun k => (Value.slice A n C).ownBlock = some k) w w' := by
  rcases h.2 with ⟨hv, hn⟩ | ⟨g, cap, cur, hv, hb, hg, hnc, hcm, hcs, _⟩
  · injection hv with h1 h2 h3
    subst h1 h2 h3
    clear h hn
    go_enter Try.func39, Try.ntmps39
    go_wp2
    go_loopw [2] (fun v wr => v = .int .i64 0 ∧ wr = w) (fun _ _ => 0)
    case atStart => exact ⟨rfl, rfl⟩
    case round =>
      obtain ⟨rfl, rfl⟩ := hrel
      go_wp2
      go_end0
      exact ⟨rfl, Only.refl _ _⟩
  · injection hv with h1 h2 h3
    subst h1 h3
    unfold maxLen at hcm
    have HB := Lib.hid (show Blk w g 43 cur from hg)
    have HC := Lib.hid hcs
    clear h hb hg hcs
    have i0 : (0 : Int) ≤ (C : Int) := by omega
    go_enter Try.func39, Try.ntmps39
    go_wp2
    go_loopw [2] (fun v wr => ∃ k : Nat, k ≤ C ∧ v = .int .i64 k ∧ Hid (Only (fun j => j = g) w wr ∧ ∃ c' : Array Value, c'.size = C * 3 ∧ Blk wr g 43 c')) (fun v _ => C - (intOf v).toNat)
    case atStart => exact ⟨0, by omega, rfl, Lib.hid ⟨Only.refl _ _, cur, HC.out, HB.out⟩⟩
    case round =>
      obtain ⟨k, hk, rfl, HR⟩ := hrel
      by_cases hlt : k < C
      · obtain ⟨c', hs, hB⟩ := HR.out.2
        obtain ⟨z0, x0⟩ : ∃ z, wr.cell? ⟨g, k * 3, none⟩ = some z := ⟨_, (hB.cell _).trans (Array.getElem?_eq_getElem (by omega))⟩
        obtain ⟨z1, x1⟩ : ∃ z, wr.cell? ⟨g, k * 3 + 1, none⟩ = some z := ⟨_, (hB.cell _).trans (Array.getElem?_eq_getElem (by omega))⟩
        obtain ⟨z2, x2⟩ : ∃ z, wr.cell? ⟨g, k * 3 + 2, none⟩ = some z := ⟨_, (hB.cell _).trans (Array.getElem?_eq_getElem (by omega))⟩
        have ff := hB.frozen
        have HX := Lib.hid (And.intro hs hB)
        clear hs hB
        have i1 : (0 : Int) ≤ (k : Int) := by omega
        have i2 : (k : Int) < (C : Int) := by omega
        go_wp2
        go_roundw
        case rel => exact ⟨k + 1, by omega, by go_num, Lib.hid ⟨((HR.out.1.setCell (.inl rfl) _).setCell (.inl rfl) _).setCell (.inl rfl) _, _, by simpa using HX.out.1, ((HX.out.2.set_ _ _).set_ _ _).set_ _ _⟩⟩
        case measure => simp [intOf]; omega
      · have hkn : k = C := by omega
        subst hkn
        go_wp2
        go_end0
        exact ⟨rfl, by have := HR.out.1; simpa [Value.ownBlock, eq_comm] using this⟩
end Go.Proofs.Ytogofchpocoebaa

namespace Go.Proofs.Ytogofchpocoebaa
open Go.RowKit Go.Maps

def wkL15 : List Ph := [(97, false, 0)]
def wkS15 : List Sy := [⟨0, 0, 1, 0, false⟩]
theorem wk_may15 : (mayF wkL15 wkS15 == 0) = true := by kernel_rfl
theorem wk_tail15 : bts (texts (tailF wkL15 wkS15)) = ⟨#[97]⟩ := by kernel_rfl
theorem wk_fit15 : ∀ p ∈ wkL15, fitP p := by
  intro p hp
  simp only [wkL15, List.mem_singleton] at hp
  subst hp
  simp [fitP, fit32]

theorem Rd.of_blk {W : World} {g : Nat} {t : TypeId} {cs : Array Value} (h : Blk W g t cs) (sz n : Nat) (hn : cs.size = n * sz) {B : Nat} (hB : g < B) : Rd W 0 B sz (some ⟨g, 0, none⟩) n cs.toList :=
  ⟨by simpa using hn, fun _ => ⟨g, 0, rfl, Nat.zero_le _, hB, fun j u hu => by
    rw [Nat.zero_add]
    refine (h.cell j).trans ?_
    simpa using hu⟩⟩

set_option maxHeartbeats 4000000 in
set_option maxRecDepth 100000 in
theorem wakes15_any (w : World) :
    Calls Try.prog 27 #[] w fun e w' => e = .returned (.bool true) ∧ Below w.heap.size w w' := by
  go_enter Try.func27, Try.ntmps27
  go_wp2_with fail
  generalize hW : ((w.alloc (Obj.cells #[Value.int IntKind.i32 97, Value.bool false, Value.int IntKind.i32 0] 43)).alloc (Obj.cells #[Value.int IntKind.i64 0, Value.int IntKind.i64 0, Value.int IntKind.i64 1, Value.int IntKind.i64 0, Value.bool false] 37)) = W
  have hb : Below w.heap.size w W := by rw [← hW]; exact ((Below.refl _ _).alloc (Nat.le_refl _) _).alloc (by simp) _
  have hB0 : Blk W w.heap.size 43 #[.int .i32 97, .bool false, .int .i32 0] := by rw [← hW]; exact (Blk.new _ _ _).alloc _
  have hB1 : Blk W (w.heap.size + 1) 37 #[.int .i64 0, .int .i64 0, .int .i64 1, .int .i64 0, .bool false] := by
    rw [← hW]
    have := Blk.new (w.alloc (Obj.cells #[Value.int IntKind.i32 97, Value.bool false, Value.int IntKind.i32 0] 43)) 37 #[.int .i64 0, .int .i64 0, .int .i64 1, .int .i64 0, .bool false]
    simpa using this
  have hlt := hB1.lt
  have HB := Lib.hid hb
  have hsd : SdIn W (w.heap.size + 2) ⟨some ⟨w.heap.size, 0, none⟩, 1, 1, some ⟨w.heap.size + 1, 0, none⟩, 1, 1, wkL15, wkS15⟩ := ⟨Rd.of_blk hB0 3 1 rfl (by omega), Rd.of_blk hB1 5 1 rfl (by omega), wk_fit15, Nat.le_refl _⟩
  clear hW hb hB0 hB1
  refine (keyUp_any _ _ W hsd (by omega)).mono ?_
  rintro e w2 ⟨rfl, hb⟩
  have hm : mayB ⟨some ⟨w.heap.size, 0, none⟩, 1, 1, some ⟨w.heap.size + 1, 0, none⟩, 1, 1, wkL15, wkS15⟩ = true := wk_may15
  have H2 := Lib.hid (HB.out.trans (hb.mono HB.out.size))
  clear hb hsd
  rw [if_pos hm, show bts (texts (tailF wkL15 wkS15)) = ⟨#[97]⟩ from wk_tail15]
  go_wp2
  go_ret
  exact ⟨rfl, H2.out⟩
end Go.Proofs.Ytogofchpocoebaa
