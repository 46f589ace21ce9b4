/- phone.All and phone.Each: what they hand over, one behind another; the reference's Sonority.
   phone.Each: what it hands over, one behind another.
   phone.Each: what it hands over, where the rounds keep memory of their own. -/
import Derived.Test.YtogofchpocoebaaS2
import Derived.Test.YtogofchpocoebaaQ5
import Derived.Test.YtogofchpocoebaaQ6
import Derived.Test.YtogofchpocoebaaP5
import Derived.Test.YtogofchpocoebaaMem
import Derived.Stop.RegionWithIn
import Derived.RangeFuncCalls
import Derived.RangeFuncBound
import Derived.TacticsInMore
import Derived.Shelf.RegionOpen
import Derived.Deep.DeepMust
namespace Go.Proofs.Ytogofchpocoebaa
open Go.RowKit Go.Maps
attribute [local go_sem] Oper.semAt_some

set_option maxHeartbeats 1000000 in
theorem refSon_any (p : Ph) (w : World) : Calls Try.prog 54 #[.agg #[.int .i32 p.1, .bool p.2.1, .int .i32 p.2.2]] w fun e w' => e = .returned (.int .i64 (sonF p)) ∧ Below w.heap.size w w' := by
  have HS := Lib.hid (show sonF p = if isF p then if (traits p.1).vow then 7 else (traits p.1).mnr + 1 else 0 from rfl)
  go_enter Try.func54, Try.ntmps54
  go_upto_region 1 with (fail)
  refine wp_abs (fun wx => Below w.heap.size w wx ∧ Blk wx w.heap.size 43 #[.int .i32 p.1, .bool p.2.1, .int .i32 p.2.2]) ⟨(Below.refl _ _).alloc (Nat.le_refl _) _, Blk.new _ _ _⟩ ?_
  generalize hpb : w.heap.size = pb
  rintro wx ⟨hb, hx⟩
  rw [← hpb] at hb
  have c0 : wx.cell? ⟨pb, 0, none⟩ = some (.int .i32 p.1) := hx.cell 0
  have HX := Lib.hid (And.intro hb hx)
  have HPB := Lib.hid hpb
  clear hb hx hpb
  go_wp2_with fail
  refine (refOf_any p.1 _).mono ?_
  rintro e w1 ⟨rfl, hb⟩
  have H1 := Lib.hid (And.intro (HX.out.1.trans (hb.mono HX.out.1.size)) (HX.out.2.below hb HX.out.2.lt))
  clear hb HX c0
  go_upto_region 2 with (fail)
  refine wp_abs (fun wy => Below w.heap.size w wy ∧ Blk wy pb 43 #[.int .i32 p.1, .bool p.2.1, .int .i32 p.2.2] ∧ Blk wy w1.heap.size 56 #[.bool (traits p.1).vow, .int .i64 (traits p.1).hgt, .int .i64 (traits p.1).bck, .bool (traits p.1).rnd, .int .i64 (traits p.1).plc, .int .i64 (traits p.1).mnr, .bool (traits p.1).vcd]) ⟨H1.out.1.trans (((Below.refl _ _).alloc (Nat.le_refl _) _).mono H1.out.1.size), H1.out.2.alloc _, Blk.new _ _ _⟩ ?_
  generalize w1.heap.size = tb
  clear H1
  rintro w2 ⟨hb, hx, hd⟩
  have c0 : w2.cell? ⟨pb, 0, none⟩ = some (.int .i32 p.1) := hx.cell 0
  have c1 : w2.cell? ⟨pb, 1, none⟩ = some (.bool p.2.1) := hx.cell 1
  have c2 : w2.cell? ⟨pb, 2, none⟩ = some (.int .i32 p.2.2) := hx.cell 2
  have HX := Lib.hid (And.intro hb hd)
  clear hb hx hd
  go_wp2_with fail
  refine (refIs_any p _).mono ?_
  rintro e w3 ⟨rfl, hb⟩
  have H3 := Lib.hid (HX.out.1.trans (hb.mono HX.out.1.size))
  have hd := HX.out.2.below hb HX.out.2.lt
  clear hb HX c0 c1 c2
  cases hF : isF p with
  | false =>
    have HR := Lib.hid (show sonF p = 0 by rw [HS.out, hF]; rfl)
    clear hF hd
    go_wp2
    go_ret
    exact ⟨ret_int HR.out.symm, H3.out⟩
  | true =>
    have d0 : w3.cell? ⟨tb, 0, none⟩ = some (.bool (traits p.1).vow) := hd.cell 0
    have d5 : w3.cell? ⟨tb, 5, none⟩ = some (.int .i64 (traits p.1).mnr) := hd.cell 5
    have hok := traits_ok p.1
    have hm : 0 ≤ (traits p.1).mnr ∧ (traits p.1).mnr ≤ 5 := by
      unfold trOk at hok
      simp only [Bool.and_eq_true, decide_eq_true_eq] at hok
      omega
    cases hv : (traits p.1).vow with
    | true =>
      have HR := Lib.hid (show sonF p = 7 by rw [HS.out, hF, hv]; rfl)
      rw [hv] at d0
      clear hF hd hok hm hv
      go_wp2
      go_ret
      exact ⟨ret_int HR.out.symm, H3.out⟩
    | false =>
      have HR := Lib.hid (show sonF p = (traits p.1).mnr + 1 by rw [HS.out, hF, hv]; rfl)
      rw [hv] at d0
      clear hF hd hok hv
      generalize (traits p.1).mnr = m at *
      obtain ⟨m1, m2⟩ := hm
      go_wp2
      go_ret
      exact ⟨ret_int HR.out.symm, H3.out⟩

/-- how a round may end, in one word -/
def RoundR (J Jx : Nat → World → Prop) (k : Nat) (T : Nat → Prop) (W1 : World) (e : Ending) (W' : World) : Prop := ∃ b : Bool, e = .returned (.bool b) ∧ ((b = true → J (k + 1) W') ∧ (b = false → Jx (k + 1) W')) ∧ Only T W1 W'
theorem roundR {J Jx : Nat → World → Prop} {k : Nat} {T : Nat → Prop} {W1 : World} {l : Nat} {args : Array Value} (h : YieldAt Fence.wide 0 Try.prog l args W1 fun e W' => (e = .returned (.bool true) ∧ J (k + 1) W' ∧ Only T W1 W') ∨ (e = .returned (.bool false) ∧ Jx (k + 1) W' ∧ Only T W1 W')) :
    YieldAt Fence.wide 0 Try.prog l args W1 (RoundR J Jx k T W1) :=
  h.mono fun e W' h => by
    rcases h with ⟨he, hj, ho⟩ | ⟨he, hj, ho⟩
    · exact ⟨true, he, ⟨fun _ => hj, fun h => by cases h⟩, ho⟩
    · exact ⟨false, he, ⟨fun h => (by cases h), fun _ => hj⟩, ho⟩

/-- what All says of a rune that it hands over -/
def RnX (_B k : Nat) (args : Array Value) (_W : World) : Prop := ∃ h : k < rowsL.length, args = #[.int .i32 rowsL[k].1]

set_option maxHeartbeats 4000000 in
set_option maxRecDepth 100000 in
theorem all_gives (W : World) : Gives Try.prog 124 #[] 38 RnX (fun _ _ => False) (fun _ => False) W := by
  intro l J Jx hJ hJx hY h0
  show Calls Try.prog 124 #[.func (.yield l) #[] #[]] W _
  have HJ := Lib.hid (And.intro hJ h0)
  have HY := Lib.hid hY
  clear hJ hJx hY h0
  go_enter Try.func124, Try.ntmps124
  go_wp2_with fail
  refine (rows_any _).mono ?_
  rintro e w1 ⟨v, rfl, ho, hb⟩
  obtain ⟨A, c, rfl⟩ := own_slice ho
  have HS := Lib.hid (And.intro (HJ.out.1 _ _ _ HJ.out.2 hb) (And.intro (own_rd ho) hb.size))
  clear ho hb
  go_wp2
  go_loopw [3, 6] (fun _ v6 wr => ∃ k : Nat, k ≤ 38 ∧ v6 = .int .i64 k ∧ Hid (J k wr ∧ Rd wr W.heap.size w1.heap.size 8 A 38 (rws rowsL) ∧ w1.heap.size ≤ wr.heap.size ∧ W.heap.size ≤ w1.heap.size)) (fun _ v _ => 38 - (intOf v).toNat)
  case atStart => exact ⟨0, by omega, rfl, Lib.hid ⟨HS.out.1, HS.out.2.1, Nat.le_refl _, HS.out.2.2⟩⟩
  case round =>
    obtain ⟨k, hk, rfl, HR⟩ := hrel
    clear HS
    by_cases hlt : k < 38
    · obtain ⟨b, o, hl, rfl, hL, hB, hcs⟩ := Rd.flat rowC_len (by omega) HR.out.2.1 hlt
      have HX := Lib.hid (show RnX W.heap.size k #[.int .i32 rowsL[k].1] (wr.alloc (.cells (rowC rowsL[k]).toArray 185)) from ⟨hl, rfl⟩)
      generalize rowsL[k] = r at *
      have y0 : wr.cell? ⟨b, o + k * 8, none⟩ = some (.int .i32 r.1) := hcs 0 _ rfl
      have y1 : wr.cell? ⟨b, o + k * 8 + 1, none⟩ = some (.bool r.2.vow) := hcs 1 _ rfl
      have y2 : wr.cell? ⟨b, o + k * 8 + 2, none⟩ = some (.int .i64 r.2.hgt) := hcs 2 _ rfl
      have y3 : wr.cell? ⟨b, o + k * 8 + 3, none⟩ = some (.int .i64 r.2.bck) := hcs 3 _ rfl
      have y4 : wr.cell? ⟨b, o + k * 8 + 4, none⟩ = some (.bool r.2.rnd) := hcs 4 _ rfl
      have y5 : wr.cell? ⟨b, o + k * 8 + 5, none⟩ = some (.int .i64 r.2.plc) := hcs 5 _ rfl
      have y6 : wr.cell? ⟨b, o + k * 8 + 6, none⟩ = some (.int .i64 r.2.mnr) := hcs 6 _ rfl
      have y7 : wr.cell? ⟨b, o + k * 8 + 7, none⟩ = some (.bool r.2.vcd) := hcs 7 _ rfl
      have i1 : (0 : Int) ≤ (k : Int) := by omega
      have i2 : (k : Int) < 38 := by omega
      clear hcs hL hB
      go_upto_region 3 with (fail)
      refine wp_abs (fun wx => J k wx ∧ Rd wx W.heap.size w1.heap.size 8 (some ⟨b, o, none⟩) 38 (rws rowsL) ∧ w1.heap.size ≤ wx.heap.size ∧ W.heap.size ≤ w1.heap.size ∧ Blk wx wr.heap.size 185 #[.int .i32 r.1, .bool r.2.vow, .int .i64 r.2.hgt, .int .i64 r.2.bck, .bool r.2.rnd, .int .i64 r.2.plc, .int .i64 r.2.mnr, .bool r.2.vcd]) ⟨HJ.out.1 _ _ _ HR.out.1 ((Below.refl _ _).alloc (by have := HR.out.2.2; omega) _), HR.out.2.1.below ((Below.refl _ _).alloc HR.out.2.2.1 _) (Nat.le_refl _), by have := HR.out.2.2.1; simp; omega, HR.out.2.2.2, Blk.new _ _ _⟩ ?_
      clear y0 y1 y2 y3 y4 y5 y6 y7
      generalize wr.heap.size = pb at *
      rintro wx ⟨hj, hr, h1, h2, hX⟩
      have c0 : wx.cell? ⟨pb, 0, none⟩ = some (.int .i32 r.1) := hX.cell 0
      obtain ⟨fn, tmps, assign, body, hy, hR⟩ := roundR (HY.out k #[.int .i32 r.1] wx hlt hj (by omega) HX.out)
      have HRR := Lib.hid hR
      have HS := Lib.hid (And.intro hr (And.intro h1 h2))
      clear hj hr h1 h2 hX hR HX HR
      refine (wpIn_wide (n := 0)).1 ?_
      have wf : ∀ k, Fence.wide.fn k := fun _ => trivial
      have wd : Fence.wide.depth = none := rfl
      gi_wp2_with (with_reducible refine HRR.out.mono ?_)
      rintro e w3 ⟨b2, rfl, hq, ho⟩
      have hr3 : Rd w3 W.heap.size w1.heap.size 8 (some ⟨b, o, none⟩) 38 (rws rowsL) := HS.out.1.keep fun b o hL hB => ho.cell (by have := HS.out.2.1; omega) (fun h => by rcases h with h | h; exact absurd h.1 (by omega); exact h)
      have HQ := Lib.hid (And.intro hr3 (And.intro (Nat.le_trans HS.out.2.1 ho.size) HS.out.2.2))
      clear hr3 ho HS HRR c0 hy
      cases b2 with
      | true =>
        have HJ3 := Lib.hid (hq.1 rfl)
        clear hq
        gi_wp2
        go_wp2
        go_roundw
        case rel => exact ⟨k + 1, by omega, by go_num, Lib.hid ⟨HJ3.out, HQ.out⟩⟩
        case measure => simp [intOf]; omega
      | false =>
        have HJ3 := Lib.hid (hq.2 rfl)
        clear hq
        gi_wp2
        go_wp2
        refine bodyPost_ret (results_none rfl _ _ _) rfl ?_
        exact ⟨⟨_, rfl⟩, .inr ⟨k + 1, by omega, by omega, HJ3.out⟩⟩
    · obtain rfl : k = 38 := by omega
      have d1 : decide ((38 : Nat) < 38) = false := rfl
      go_wp2
      go_end0
      exact ⟨⟨_, rfl⟩, .inl HR.out.1⟩
end Go.Proofs.Ytogofchpocoebaa

namespace Go.Proofs.Ytogofchpocoebaa
open Go.RowKit Go.Maps
attribute [local go_sem] Oper.semAt_some

theorem each_call (s : ByteArray) (w : World) : Calls Try.prog 60 #[.string s] w fun e w' => e = .returned (.func (.func 128) #[] #[.pointer (some ⟨w.heap.size, 0, none⟩)]) ∧ w' = w.alloc (.cells #[.string s] 9) := by
  go_enter Try.func60, Try.ntmps60
  go_wp2
  go_ret
  exact ⟨rfl, rfl⟩

/-- what Each says of a phone that it hands over -/
def EvX (l : List UInt8) (_B k : Nat) (args : Array Value) (_W : World) : Prop := ∃ h : k < (evL l).1.length,
  args = #[.agg #[.int .i64 (((evL l).1[k].2 : Nat) : Int), .int .i64 ((((evL l).1[k].2 + (nextL (l.drop (evL l).1[k].2)).2 : Nat)) : Int)], .agg #[.int .i32 (evL l).1[k].1.1, .bool (evL l).1[k].1.2.1, .int .i32 (evL l).1[k].1.2.2]]

theorem drop_some {α : Type} {l r : List α} {x : α} {k : Nat} (h : l.drop k = x :: r) : ∃ hk : k < l.length, l[k] = x ∧ l.drop (k + 1) = r := by
  have hk : k < l.length := by
    rcases Nat.lt_or_ge k l.length with hk | hk
    · exact hk
    · rw [List.drop_eq_nil_of_le hk] at h; cases h
  rw [List.drop_eq_getElem_cons hk] at h
  injection h with h1 h2
  exact ⟨hk, h1, h2⟩
theorem drop_none {α : Type} {l : List α} {k : Nat} (h : l.drop k = []) (hk : k ≤ l.length) : k = l.length := by
  have := congrArg List.length h
  simp at this
  omega

set_option maxHeartbeats 8000000 in
set_option maxRecDepth 100000 in
theorem each_gives (s : ByteArray) (sb : Nat) (W : World) (hsb : Blk W sb 9 #[.string s]) (hz : s.size ≤ maxLen) : Gives Try.prog 128 #[.pointer (some ⟨sb, 0, none⟩)] (evL s.data.toList).1.length (EvX s.data.toList) (fun _ _ => False) (fun b => b = sb) W := by
  intro l J Jx hJ hJx hY h0
  show Calls Try.prog 128 #[.func (.yield l) #[] #[], .pointer (some ⟨sb, 0, none⟩)] W _
  have HJ := Lib.hid (And.intro hJ h0)
  have HY := Lib.hid hY
  have HB := Lib.hid hsb
  have HZ := Lib.hid hz
  have hlt := hsb.lt
  clear hJ hJx hY h0 hsb
  unfold maxLen at hz
  go_enter Try.func128, Try.ntmps128
  refine wp_scope_labels (fun _ _ _ _ => False) ?first (fun _ _ _ _ h => h.elim)
  go_wp2_with fail
  refine (table_any W).mono ?_
  rintro e w1 ⟨tb, rfl, hlo, ht, hb⟩
  have HS := Lib.hid (And.intro (HJ.out.1 _ _ _ HJ.out.2 hb) (And.intro ht (And.intro (HB.out.below hb hlt) (And.intro hb.size hlo))))
  have HD := Lib.hid (show ∀ n, s.extract n s.size = bts (s.data.toList.drop n) from fun n => bts_drop s.data.toList n)
  have HL := Lib.hid (show s.size = s.data.toList.length from rfl)
  have hdr := HD.out
  clear ht hb hlo
  generalize hev : evL s.data.toList = ev at *
  have HE := Lib.hid hev
  clear hev
  go_wp2
  rename_i K hK
  refine wp_label ?_
  simp only [Exit.then]
  apply hK
  clear hK
  go_wp2
  go_loopw [4, 5, 6] (fun v4 _ _ wr => ∃ (k pos f : Nat), k ≤ ev.1.length ∧ pos ≤ s.size ∧ v4 = .int .i64 pos ∧ Hid (J k wr ∧ TabIs wr tb ∧ Blk wr sb 9 #[.string s] ∧ W.heap.size ≤ wr.heap.size ∧ W.heap.size ≤ tb) ∧ Hid (ev.1.drop k = (evGo s.data.toList f pos).1 ∧ s.size - pos < f)) (fun v _ _ _ => s.size - (intOf v).toNat)
  case atStart => exact ⟨0, 0, s.size + 1, by omega, by omega, rfl, HS, Lib.hid ⟨by rw [List.drop_zero, ← HE.out]; rfl, by omega⟩⟩
  case round =>
    obtain ⟨k, pos, f, hk, hpos, rfl, HR, HF⟩ := hrel
    clear HS
    have cs : wr.cell? ⟨sb, 0, none⟩ = some (.string s) := HR.out.2.2.1.cell 0
    by_cases hp : pos < s.size
    · go_wp2_with fail
      refine (next_any tb (bts (s.data.toList.drop pos)) wr HR.out.2.1 (by rw [bts_size, List.length_drop]; have := HZ.out; have := HL.out; omega)).mono ?_
      rintro e wa ⟨rfl, hb⟩
      rw [show (bts (s.data.toList.drop pos)).data.toList = s.data.toList.drop pos from rfl]
      have hle := nextL_le (s.data.toList.drop pos)
      rw [List.length_drop, ← HL.out] at hle
      have HA := Lib.hid (And.intro (HJ.out.1 _ _ _ HR.out.1 (hb.mono HR.out.2.2.2.1)) (And.intro (HR.out.2.1.on hb) (And.intro (HR.out.2.2.1.below hb HR.out.2.2.1.lt) (And.intro (Nat.le_trans HR.out.2.2.2.1 hb.size) HR.out.2.2.2.2))))
      clear hb cs HR
      generalize hN : nextL (s.data.toList.drop pos) = N at *
      have HN := Lib.hid hN
      obtain ⟨⟨pr, plg, pg⟩, nw⟩ := N
      dsimp only at hle ⊢
      clear hN
      go_upto_region 4 with (fail)
      refine wp_abs (fun wx => (J k wx ∧ TabIs wx tb ∧ Blk wx sb 9 #[.string s] ∧ W.heap.size ≤ wx.heap.size ∧ W.heap.size ≤ tb) ∧ Blk wx wa.heap.size 43 #[.int .i32 pr, .bool plg, .int .i32 pg]) ⟨⟨HJ.out.1 _ _ _ HA.out.1 ((Below.refl _ _).alloc HA.out.2.2.2.1 _), HA.out.2.1.on ((Below.refl _ _).alloc (Nat.le_refl _) _), HA.out.2.2.1.alloc _, by have := HA.out.2.2.2.1; simp; omega, HA.out.2.2.2.2⟩, Blk.new _ _ _⟩ ?_
      generalize wa.heap.size = xb at *
      rintro wx ⟨hS, hX⟩
      have b0 : wx.cell? ⟨xb, 0, none⟩ = some (.int .i32 pr) := hX.cell 0
      have b1 : wx.cell? ⟨xb, 1, none⟩ = some (.bool plg) := hX.cell 1
      have b2 : wx.cell? ⟨xb, 2, none⟩ = some (.int .i32 pg) := hX.cell 2
      have HX := Lib.hid hS
      clear hS hX HA
      by_cases hnw : nw = 0
      · have hnb : ((nw : Int) == 0) = true := by rw [hnw]; rfl
        have hke : k = ev.1.length := by
          refine drop_none ?_ hk
          rw [HF.out.1, evGo_end _ _ _ (.inr (by rw [HN.out]; exact hnw))]
        subst hke
        clear hnw
        go_wp2
        dsimp only [Exit.jumps]
        go_end0
        exact ⟨⟨_, rfl⟩, .inl (by rw [HE.out]; exact HX.out.1)⟩
      · have hnb : ((nw : Int) == 0) = false := by simp; omega
        obtain ⟨f', hf1, hf2⟩ := evGo_step (f := f) HN.out (by have := HL.out; omega) (by have := HL.out; have := HF.out.2; omega) hnw
        dsimp only at hf1 hf2
        have hdk := HF.out.1
        rw [hf2] at hdk
        obtain ⟨hkl, hkx, hkr⟩ := drop_some hdk
        have hx : EvX s.data.toList W.heap.size k #[.agg #[.int .i64 (pos : Int), .int .i64 ((pos + nw : Nat) : Int)], .agg #[.int .i32 pr, .bool plg, .int .i32 pg]] wx := by
          unfold EvX
          rw [HE.out]
          refine ⟨hkl, ?_⟩
          rw [hkx]
          dsimp only
          rw [HN.out]
        obtain ⟨fn, tmps, assign, body, hy, hR⟩ := roundR (HY.out k _ wx hkl HX.out.1 HX.out.2.2.2.1 hx)
        have HRR := Lib.hid hR
        have HF2 := Lib.hid (And.intro hkr hf1)
        have hcast : ((pos + nw : Nat) : Int) = (pos : Int) + (nw : Int) := by omega
        rw [hcast] at hy
        clear hR hx hkr hkx hdk hf2 hf1 hcast HF
        refine (wpIn_wide (n := 0)).1 ?_
        have wf : ∀ k, Fence.wide.fn k := fun _ => trivial
        have wd : Fence.wide.depth = none := rfl
        gi_wp2_with (with_reducible refine HRR.out.mono ?_)
        rintro e w3 ⟨b2, rfl, hq, ho⟩
        have HQ := Lib.hid (And.intro (HX.out.2.1.only ho (fun h => by rcases h with h | h; have := HX.out.2.2.2.2; omega; exact h)) (And.intro (HX.out.2.2.1.only ho (fun h => by rcases h with h | h; exact h.2 rfl; exact h)) (And.intro (Nat.le_trans HX.out.2.2.2.1 ho.size) HX.out.2.2.2.2)))
        clear ho HX HRR b0 b1 hy
        cases b2 with
        | true =>
          have HJ3 := Lib.hid (hq.1 rfl)
          clear hq
          gi_wp2
          go_wp2
          go_roundw
          case rel => exact ⟨k + 1, pos + nw, f', by omega, by omega, by go_num, Lib.hid ⟨HJ3.out, HQ.out⟩, HF2⟩
          case measure => simp [intOf]; omega
        | false =>
          have HJ3 := Lib.hid (hq.2 rfl)
          clear hq
          gi_wp2
          go_wp2
          dsimp only [Exit.jumps]
          go_end0
          exact ⟨⟨_, rfl⟩, .inr ⟨k + 1, by omega, by rw [HE.out]; omega, HJ3.out⟩⟩
    · have hpe : pos = s.size := by omega
      have hke : k = ev.1.length := by
        refine drop_none ?_ hk
        rw [HF.out.1, evGo_end _ _ _ (.inl (by have := HL.out; omega))]
      subst hke
      have hd : decide ((pos : Int) < (s.size : Int)) = false := by simp; omega
      go_wp2
      dsimp only [Exit.jumps]
      go_end0
      exact ⟨⟨_, rfl⟩, .inl (by rw [HE.out]; exact HR.out.1)⟩
end Go.Proofs.Ytogofchpocoebaa

namespace Go.Proofs.Ytogofchpocoebaa
open Go.RowKit Go.Maps
attribute [local go_sem] Oper.semAt_some

theorem roundR2 {J Jx : Nat → Nat → World → Prop} {B2 k : Nat} {T : Nat → Prop} {W1 : World} {l : Nat} {args : Array Value} (h : YieldAt Fence.wide 0 Try.prog l args W1 fun e W' => (e = .returned (.bool true) ∧ J B2 (k + 1) W' ∧ Only T W1 W') ∨ (e = .returned (.bool false) ∧ Jx B2 (k + 1) W' ∧ Only T W1 W')) :
    YieldAt Fence.wide 0 Try.prog l args W1 (RoundR (J B2) (Jx B2) k T W1) := roundR h

set_option maxHeartbeats 8000000 in
set_option maxRecDepth 100000 in
theorem each_gives2 (s : ByteArray) (sb : Nat) (W : World) (hsb : Blk W sb 9 #[.string s]) (hz : s.size ≤ maxLen) : Gives2 Try.prog 128 #[.pointer (some ⟨sb, 0, none⟩)] (evL s.data.toList).1.length (EvX s.data.toList) (fun b => b = sb) W := by
  intro l J Jx hJ hJx hY h0
  show Calls Try.prog 128 #[.func (.yield l) #[] #[], .pointer (some ⟨sb, 0, none⟩)] W _
  have HJ := Lib.hid (And.intro hJ h0)
  have HY := Lib.hid hY
  have HB := Lib.hid hsb
  have HZ := Lib.hid hz
  have hlt := hsb.lt
  clear hJ hJx hY h0 hsb
  unfold maxLen at hz
  go_enter Try.func128, Try.ntmps128
  refine wp_scope_labels (fun _ _ _ _ => False) ?first (fun _ _ _ _ h => h.elim)
  go_wp2_with fail
  refine (table_any W).mono ?_
  rintro e w1 ⟨tb, rfl, hlo, ht, hb⟩
  obtain ⟨B2, hB2⟩ : ∃ B2, B2 = w1.heap.size := ⟨_, rfl⟩
  have HS := Lib.hid (And.intro (HJ.out.1 B2 _ _ _ (HJ.out.2 B2) (Only.of_below hb _)) (And.intro ht (And.intro (HB.out.below hb hlt) (And.intro hb.size (And.intro hlo (And.intro (Nat.le_of_eq hB2) (show tb < B2 from by rw [hB2]; exact ht.lt)))))))
  have HB2 := Lib.hid (show W.heap.size ≤ B2 by rw [hB2]; exact hb.size)
  clear hB2
  have HD := Lib.hid (show ∀ n, s.extract n s.size = bts (s.data.toList.drop n) from fun n => bts_drop s.data.toList n)
  have HL := Lib.hid (show s.size = s.data.toList.length from rfl)
  have hdr := HD.out
  clear ht hb hlo
  generalize hev : evL s.data.toList = ev at *
  have HE := Lib.hid hev
  clear hev
  go_wp2
  rename_i K hK
  refine wp_label ?_
  simp only [Exit.then]
  apply hK
  clear hK
  go_wp2
  go_loopw [4, 5, 6] (fun v4 _ _ wr => ∃ (k pos f : Nat), k ≤ ev.1.length ∧ pos ≤ s.size ∧ v4 = .int .i64 pos ∧ Hid (J B2 k wr ∧ TabIs wr tb ∧ Blk wr sb 9 #[.string s] ∧ W.heap.size ≤ wr.heap.size ∧ W.heap.size ≤ tb ∧ B2 ≤ wr.heap.size ∧ tb < B2) ∧ Hid (ev.1.drop k = (evGo s.data.toList f pos).1 ∧ s.size - pos < f)) (fun v _ _ _ => s.size - (intOf v).toNat)
  case atStart => exact ⟨0, 0, s.size + 1, by omega, by omega, rfl, HS, Lib.hid ⟨by rw [List.drop_zero, ← HE.out]; rfl, by omega⟩⟩
  case round =>
    obtain ⟨k, pos, f, hk, hpos, rfl, HR, HF⟩ := hrel
    clear HS
    have cs : wr.cell? ⟨sb, 0, none⟩ = some (.string s) := HR.out.2.2.1.cell 0
    by_cases hp : pos < s.size
    · go_wp2_with fail
      refine (next_any tb (bts (s.data.toList.drop pos)) wr HR.out.2.1 (by rw [bts_size, List.length_drop]; have := HZ.out; have := HL.out; omega)).mono ?_
      rintro e wa ⟨rfl, hb⟩
      rw [show (bts (s.data.toList.drop pos)).data.toList = s.data.toList.drop pos from rfl]
      have hle := nextL_le (s.data.toList.drop pos)
      rw [List.length_drop, ← HL.out] at hle
      have HA := Lib.hid (And.intro (HJ.out.1 _ _ _ _ HR.out.1 (Only.of_below hb _)) (And.intro (HR.out.2.1.on hb) (And.intro (HR.out.2.2.1.below hb HR.out.2.2.1.lt) (And.intro (Nat.le_trans HR.out.2.2.2.1 hb.size) (And.intro HR.out.2.2.2.2.1 (And.intro (Nat.le_trans HR.out.2.2.2.2.2.1 hb.size) HR.out.2.2.2.2.2.2))))))
      clear hb cs HR
      generalize hN : nextL (s.data.toList.drop pos) = N at *
      have HN := Lib.hid hN
      obtain ⟨⟨pr, plg, pg⟩, nw⟩ := N
      dsimp only at hle ⊢
      clear hN
      go_upto_region 4 with (fail)
      refine wp_abs (fun wx => (J B2 k wx ∧ TabIs wx tb ∧ Blk wx sb 9 #[.string s] ∧ W.heap.size ≤ wx.heap.size ∧ W.heap.size ≤ tb ∧ B2 ≤ wx.heap.size ∧ tb < B2) ∧ Blk wx wa.heap.size 43 #[.int .i32 pr, .bool plg, .int .i32 pg]) ⟨⟨HJ.out.1 _ _ _ _ HA.out.1 (Only.of_below ((Below.refl _ _).alloc (Nat.le_refl _) _) _), HA.out.2.1.on ((Below.refl _ _).alloc (Nat.le_refl _) _), HA.out.2.2.1.alloc _, by have := HA.out.2.2.2.1; simp; omega, HA.out.2.2.2.2.1, by have := HA.out.2.2.2.2.2.1; simp; omega, HA.out.2.2.2.2.2.2⟩, Blk.new _ _ _⟩ ?_
      generalize wa.heap.size = xb at *
      rintro wx ⟨hS, hX⟩
      have b0 : wx.cell? ⟨xb, 0, none⟩ = some (.int .i32 pr) := hX.cell 0
      have b1 : wx.cell? ⟨xb, 1, none⟩ = some (.bool plg) := hX.cell 1
      have b2 : wx.cell? ⟨xb, 2, none⟩ = some (.int .i32 pg) := hX.cell 2
      have HX := Lib.hid hS
      clear hS hX HA
      by_cases hnw : nw = 0
      · have hnb : ((nw : Int) == 0) = true := by rw [hnw]; rfl
        have hke : k = ev.1.length := by
          refine drop_none ?_ hk
          rw [HF.out.1, evGo_end _ _ _ (.inr (by rw [HN.out]; exact hnw))]
        subst hke
        clear hnw
        go_wp2
        dsimp only [Exit.jumps]
        go_end0
        exact ⟨⟨_, rfl⟩, B2, HB2.out, .inl (by rw [HE.out]; exact HX.out.1)⟩
      · have hnb : ((nw : Int) == 0) = false := by simp; omega
        obtain ⟨f', hf1, hf2⟩ := evGo_step (f := f) HN.out (by have := HL.out; omega) (by have := HL.out; have := HF.out.2; omega) hnw
        dsimp only at hf1 hf2
        have hdk := HF.out.1
        rw [hf2] at hdk
        obtain ⟨hkl, hkx, hkr⟩ := drop_some hdk
        have hx : EvX s.data.toList W.heap.size k #[.agg #[.int .i64 (pos : Int), .int .i64 ((pos + nw : Nat) : Int)], .agg #[.int .i32 pr, .bool plg, .int .i32 pg]] wx := by
          unfold EvX
          rw [HE.out]
          refine ⟨hkl, ?_⟩
          rw [hkx]
          dsimp only
          rw [HN.out]
        obtain ⟨fn, tmps, assign, body, hy, hR⟩ := roundR2 (HY.out B2 k _ wx HB2.out HX.out.2.2.2.2.2.1 hkl HX.out.1 hx)
        have HRR := Lib.hid hR
        have HF2 := Lib.hid (And.intro hkr hf1)
        have hcast : ((pos + nw : Nat) : Int) = (pos : Int) + (nw : Int) := by omega
        rw [hcast] at hy
        clear hR hx hkr hkx hdk hf2 hf1 hcast HF
        refine (wpIn_wide (n := 0)).1 ?_
        have wf : ∀ k, Fence.wide.fn k := fun _ => trivial
        have wd : Fence.wide.depth = none := rfl
        gi_wp2_with (with_reducible refine HRR.out.mono ?_)
        rintro e w3 ⟨b2, rfl, hq, ho⟩
        have HQ := Lib.hid (And.intro (HX.out.2.1.only ho (fun h => by rcases h with h | h; have := HX.out.2.2.2.2.1; omega; have := HX.out.2.2.2.2.2.2; omega)) (And.intro (HX.out.2.2.1.only ho (fun h => by rcases h with h | h; exact h.2 rfl; have := HB2.out; omega)) (And.intro (Nat.le_trans HX.out.2.2.2.1 ho.size) (And.intro HX.out.2.2.2.2.1 (And.intro (Nat.le_trans HX.out.2.2.2.2.2.1 ho.size) HX.out.2.2.2.2.2.2)))))
        clear ho HX HRR b0 b1 hy
        cases b2 with
        | true =>
          have HJ3 := Lib.hid (hq.1 rfl)
          clear hq
          gi_wp2
          go_wp2
          go_roundw
          case rel => exact ⟨k + 1, pos + nw, f', by omega, by omega, by go_num, Lib.hid ⟨HJ3.out, HQ.out⟩, HF2⟩
          case measure => simp [intOf]; omega
        | false =>
          have HJ3 := Lib.hid (hq.2 rfl)
          clear hq
          gi_wp2
          go_wp2
          dsimp only [Exit.jumps]
          go_end0
          exact ⟨⟨_, rfl⟩, B2, HB2.out, .inr ⟨k + 1, by omega, by rw [HE.out]; omega, HJ3.out⟩⟩
    · have hpe : pos = s.size := by omega
      have hke : k = ev.1.length := by
        refine drop_none ?_ hk
        rw [HF.out.1, evGo_end _ _ _ (.inl (by have := HL.out; omega))]
      subst hke
      have hd : decide ((pos : Int) < (s.size : Int)) = false := by simp; omega
      go_wp2
      dsimp only [Exit.jumps]
      go_end0
      exact ⟨⟨_, rfl⟩, B2, HB2.out, .inl (by rw [HE.out]; exact HR.out.1)⟩
end Go.Proofs.Ytogofchpocoebaa
