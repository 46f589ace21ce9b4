/- The reference's Classes: the walk. -/
import Derived.Test.YtbjfbmienlojkaaT26
namespace Go.Proofs.Ytbjfbmienlojkaa
open Go.RowKit

def headB (ls : List (Int × Int)) (i : Nat) : Bool := !decide (clsAt ls i < 0) && !decide (firstF ls i < i)
def grpPre (ls : List (Int × Int)) (i k : Nat) : List Int := ((List.range k).filter (fun j => decide (i ≤ j) && alikeB ls i j)).map (fun j : Nat => (j : Int))
def refPre (ls : List (Int × Int)) (i : Nat) : List (List Int) := ((List.range i).filter (headB ls)).map (fun h => grpPre ls h ls.length)
theorem grpPre_start (ls : List (Int × Int)) (i : Nat) : grpPre ls i i = [] := by
  unfold grpPre
  rw [List.filter_eq_nil_iff.2, List.map_nil]
  intro j hj
  have := List.mem_range.1 hj
  simp
  omega
theorem grpPre_succ (ls : List (Int × Int)) (i k : Nat) (h : i ≤ k) : grpPre ls i (k + 1) = if alikeB ls i k then grpPre ls i k ++ [(k : Int)] else grpPre ls i k := by
  unfold grpPre
  rw [List.range_succ, List.filter_append, List.map_append]
  cases h2 : alikeB ls i k <;> simp [h, h2]
theorem grpPre_len (ls : List (Int × Int)) (i k : Nat) : (grpPre ls i k).length ≤ k := by
  unfold grpPre
  rw [List.length_map]
  exact Nat.le_trans (List.length_filter_le _ _) (by simp)
theorem refPre_succ (ls : List (Int × Int)) (i : Nat) : refPre ls (i + 1) = if headB ls i then refPre ls i ++ [grpPre ls i ls.length] else refPre ls i := by
  unfold refPre
  rw [List.range_succ, List.filter_append, List.map_append]
  cases h : headB ls i <;> simp [h]
theorem refPre_len (ls : List (Int × Int)) (i : Nat) : (refPre ls i).length ≤ i := by
  unfold refPre
  rw [List.length_map]
  exact Nat.le_trans (List.length_filter_le _ _) (by simp)

set_option maxHeartbeats 4000000 in
set_option maxRecDepth 100000 in
theorem refClasses_any (A1 A2 : Option Addr) (n1 c1 n2 c2 L1 : Nat) (ls : List (Int × Int)) (w : World)
    (h1 : Rd w L1 w.heap.size 2 A1 n1 (prs ls)) (hn : n1 ≤ 512) :
    Calls Try.prog 23 #[.agg #[.slice A1 n1 c1, .slice A2 n2 c2]] w fun e w' => ∃ v xs, e = .returned v ∧ Own2 w' w.heap.size v xs (refPre ls n1) ∧ Below w.heap.size w w' := by
  have hln : ls.length = n1 := by have := h1.1; rw [prs_len] at this; omega
  have HLN := Lib.hid hln
  have H1 := Lib.hid h1
  have hinfo : (Try.prog.info? 24).map (fun i => (i.zero, i.size, i.bytes)) = some (some (.slice none 0 0), 1, 24) := by kernel_rfl
  obtain ⟨i0, hi, hz0, hz1, hz2⟩ := info_parts hinfo
  have HI := Lib.hid (And.intro hi (And.intro hz0 (And.intro hz1 hz2)))
  have hinfo3 : (Try.prog.info? 3).map (fun i => (i.zero, i.size, i.bytes)) = some (some (.int .i64 0), 1, 8) := by kernel_rfl
  obtain ⟨j0, hj', jz0, jz1, jz2⟩ := info_parts hinfo3
  have HJ := Lib.hid (And.intro hj' (And.intro jz0 (And.intro jz1 jz2)))
  clear h1 hln hi hz0 hz1 hz2 hinfo hinfo3 hj' jz0 jz1 jz2
  go_enter Try.func23, Try.ntmps23
  go_upto_region 2 with (fail)
  refine wp_abs (fun wx => Blk wx w.heap.size 26 #[.slice A1 n1 c1, .slice A2 n2 c2] ∧ Below w.heap.size w wx) ⟨(Blk.new _ _ _), ((Below.refl _ _).alloc (Nat.le_refl _) _)⟩ ?_
  rintro w1 ⟨k0, hb⟩
  have c00 : w1.cell? ⟨w.heap.size, 0, none⟩ = some (.slice A1 n1 c1) := k0.cell 0
  have HB := Lib.hid (And.intro k0 hb)
  clear k0 hb
  go_wp2
  clear c00
  go_loopw [3, 10] (fun v iv wr => ∃ (i : Nat), i ≤ n1 ∧ iv = .int .i64 i ∧ Hid (∃ xs, Own2 wr w1.heap.size v xs (refPre ls i) ∧ Below w1.heap.size w1 wr)) (fun _ iv _ => n1 - (intOf iv).toNat)
  case atStart => exact ⟨0, by omega, rfl, Lib.hid ⟨[], Own2.empty _ _, Below.refl _ _⟩⟩
  case round =>
    obtain ⟨i, hi, rfl, H⟩ := hrel
    by_cases hlt : i < n1
    · obtain ⟨xs, hO, hbl⟩ := H.out
      have hk0 := HB.out.1.below hbl HB.out.1.lt
      have hbw : Below w.heap.size w wr := HB.out.2.trans (hbl.mono HB.out.2.size)
      have hrd := H1.out.up hbw hbw.size
      obtain ⟨b, o, hl, rfl, hL, hB, p1, p2⟩ := hrd.two hlt
      have hce : clsAt ls i = ls[i].1 := clsAt_get hl
      generalize hx : ls[i] = x at p1 p2 hce
      obtain ⟨c, r⟩ := x
      simp only at hce p1 p2
      obtain ⟨V, C, rfl⟩ := own_slice hO.outer
      have l1 := refPre_len ls i
      have c00 : wr.cell? ⟨w.heap.size, 0, none⟩ = some (.slice (some ⟨b, o, none⟩) n1 c1) := hk0.cell 0
      have c01 : wr.cell? ⟨w.heap.size, 1, none⟩ = some (.slice A2 n2 c2) := hk0.cell 1
      have HH := Lib.hid (And.intro hce (And.intro hO (And.intro hbl (And.intro hk0 (And.intro hbw hrd)))))
      clear hce hO hbl H hx hk0 hbw hrd
      have i1 : (0 : Int) ≤ (i : Int) := by omega
      have i2 : (i : Int) < (n1 : Int) := by omega
      by_cases hneg : c < 0
      · go_wp2
        go_roundw
        case rel =>
          refine ⟨i + 1, by omega, by go_num, Lib.hid ⟨xs, ?_, HH.out.2.2.1⟩⟩
          rw [refPre_succ, if_neg (by unfold headB; rw [HH.out.1]; simp [hneg])]
          exact HH.out.2.1
        case measure => simp [intOf]; omega
      · go_wp2_with fail
        refine (first_any (some ⟨b, o, none⟩) A2 n1 c1 n2 c2 L1 ls i wr HH.out.2.2.2.2.2 (by unfold maxLen; omega) hlt).mono ?_
        rintro e w2 ⟨rfl, hb2⟩
        clear p1 p2 c00 c01
        have hf0 : firstF ls i = firstF ls i := rfl
        generalize hff : firstF ls i = ff at hf0 ⊢
        have HF := Lib.hid hff
        clear hff hf0
        have HS := Lib.hid (show Own2 w2 w1.heap.size (.slice V (refPre ls i).length C) xs (refPre ls i) ∧ Below w1.heap.size w1 w2 ∧ Blk w2 w.heap.size 26 #[.slice (some ⟨b, o, none⟩) n1 c1, .slice A2 n2 c2] ∧ Rd w2 L1 w2.heap.size 2 (some ⟨b, o, none⟩) n1 (prs ls) from
          ⟨HH.out.2.1.below hb2, HH.out.2.2.1.trans (hb2.mono HH.out.2.2.1.size), HH.out.2.2.2.1.below hb2 HH.out.2.2.2.1.lt, HH.out.2.2.2.2.2.up hb2 hb2.size⟩)
        clear hb2
        by_cases hfi : ff < i
        · have hfb : decide ((ff : Int) < (i : Int)) = true := by simpa using hfi
          go_wp2
          go_roundw
          case rel =>
            refine ⟨i + 1, by omega, by go_num, Lib.hid ⟨xs, ?_, HS.out.2.1⟩⟩
            rw [refPre_succ, if_neg (by unfold headB; rw [HF.out]; simp [hfi])]
            exact HS.out.1
          case measure => simp [intOf]; omega
        · have hfb : decide ((ff : Int) < (i : Int)) = false := by simp; omega
          have hhead : headB ls i = true := by unfold headB; rw [HH.out.1, HF.out]; simp [hfi, hneg]
          have HHD := Lib.hid hhead
          clear hhead
          go_wp2
          go_loopw [5, 6] (fun cv kv wq => ∃ (k : Nat), i ≤ k ∧ k ≤ n1 ∧ kv = .int .i64 k ∧ Hid (wq.ownsRow w2.heap.size 3 1 cv (grpPre ls i k).length ((grpPre ls i k).map (Value.int .i64)) ∧ Below w2.heap.size w2 wq)) (fun _ kv _ => n1 - (intOf kv).toNat)
          case atStart => exact ⟨i, by omega, by omega, rfl, Lib.hid ⟨by rw [grpPre_start]; exact World.ownsRow_nil _ _ _ _, Below.refl _ _⟩⟩
          case round =>
            obtain ⟨k, hik, hkn, rfl, H⟩ := hrel
            have hbx := HS.out.2.2.1.below H.out.2 HS.out.2.2.1.lt
            have d00 : wr.cell? ⟨w.heap.size, 0, none⟩ = some (.slice (some ⟨b, o, none⟩) n1 c1) := hbx.cell 0
            have d01 : wr.cell? ⟨w.heap.size, 1, none⟩ = some (.slice A2 n2 c2) := hbx.cell 1
            clear hbx
            by_cases hk : k < n1
            · go_wp2_with fail
              refine (alike_any (some ⟨b, o, none⟩) A2 n1 c1 n2 c2 L1 ls i k wr (HS.out.2.2.2.up H.out.2 H.out.2.size) (by unfold maxLen; omega) hlt hk).mono ?_
              rintro e w3 ⟨rfl, hb3⟩
              have HG := Lib.hid (show w3.ownsRow w2.heap.size 3 1 _ (grpPre ls i k).length ((grpPre ls i k).map (Value.int .i64)) ∧ Below w2.heap.size w2 w3 from ⟨own_stay H.out.1 (Only.of_below hb3 _), H.out.2.trans (hb3.mono H.out.2.size)⟩)
              clear hb3
              have hgl := grpPre_len ls i k
              cases hal : alikeB ls i k with
              | false =>
                go_wp2
                go_roundw
                case rel => exact ⟨k + 1, by omega, by omega, by go_num, Lib.hid ⟨by rw [grpPre_succ ls i k hik, hal]; exact HG.out.1, HG.out.2⟩⟩
                case measure => simp [intOf]; omega
              | true =>
                go_wp2_with (at_builtin; refine wpList_append_own _ rfl _ _ 24 rfl w2.heap.size 3 j0 (.int .i64 0) 1 8 Try.underlying24 HJ.out.1 HJ.out.2.1 HJ.out.2.2.1 HJ.out.2.2.2 rfl (by decide) _ _ _ rfl (HG.out.1.alloc _) ⟨w3.heap.size, 0, none⟩ 1 1 [.int .i64 k] rfl ?qc1 ?qc2 ?qc3 ?qc4 ?qc5 ?qc6 ?_)
                case qc1 => rfl
                case qc2 => exact World.news_of_block (cs := #[.int .i64 k]) (t := 3) (fr := (0, 0)) (heap_alloc_new w3 _)
                case qc3 => intro u hu; simp at hu; subst hu; rfl
                case qc4 => unfold maxLen; omega
                case qc5 => omega
                case qc6 => have := HG.out.2.size; simp; omega
                intro v' w4 hown hgrow hnil
                have HN := Lib.hid (show w4.ownsRow w2.heap.size 3 1 v' (grpPre ls i (k + 1)).length ((grpPre ls i (k + 1)).map (Value.int .i64)) ∧ Below w2.heap.size w2 w4 from
                  ⟨by rw [grpPre_succ ls i k hik, hal]; simpa using hown, (HG.out.2.alloc HG.out.2.size _).grown hgrow (by have := HG.out.2.size; simp; omega) (fun q hq => (HG.out.1.lt q hq).1)⟩)
                clear hown hgrow hnil
                go_wp2
                go_roundw
                case rel => exact ⟨k + 1, by omega, by omega, by go_num, HN⟩
                case measure => simp [intOf]; omega
            · have hkn2 : k = n1 := by omega
              subst hkn2
              have hwq := H.out.2.size
              have hw2 := HS.out.2.1.size
              have HO := Lib.hid (show Own2 wr w1.heap.size (.slice V (refPre ls i).length C) xs (refPre ls i) from HS.out.1.below H.out.2)
              have hz : ∃ A' C', u5 = .slice A' (grpPre ls i k).length C' := own_slice H.out.1
              obtain ⟨A', C', rfl⟩ := hz
              go_wp2_with (at_builtin; refine wpList_append_own _ rfl _ _ 43 rfl w1.heap.size 24 i0 (.slice none 0 0) 1 24 Try.underlying43 HI.out.1 HI.out.2.1 HI.out.2.2.1 HI.out.2.2.2 rfl (by decide) _ _ _ rfl (HO.out.alloc _).outer ⟨wr.heap.size, 0, none⟩ 1 1 [.slice A' (grpPre ls i k).length C'] rfl ?qc1 ?qc2 ?qc3 ?qc4 ?qc5 ?qc6 ?_)
              case qc1 => rfl
              case qc2 => exact World.news_of_block (cs := #[.slice A' (grpPre ls i k).length C']) (t := 24) (fr := (0, 0)) (heap_alloc_new wr _)
              case qc3 => first | rfl | (intro u hu; simp at hu; subst hu; rfl)
              case qc4 => unfold maxLen; omega
              case qc5 => omega
              case qc6 => simp; omega
              intro v' w4 hown hgrow hnil
              have honly : Only (fun q => (Value.slice V (refPre ls i).length C).ownBlock = some q) w2 w4 := ((Only.of_below H.out.2 _).alloc _).grown hgrow (fun g hg => .inl hg)
              have hx1 := H.out.1.alloc (.cells #[.slice A' (grpPre ls i k).length C'] 24)
              have hx2 := own_keep hx1 (own_ne hx1 (HO.out.alloc _).outer (by decide)) ((Only.refl _ _).grown hgrow (fun g hg => .inl hg))
              have HN := Lib.hid (show Own2 w4 w1.heap.size v' (xs ++ [.slice A' (grpPre ls i k).length C']) (refPre ls (i + 1)) ∧ Below w1.heap.size w1 w4 from
                ⟨by rw [refPre_succ, HHD.out, if_pos rfl, HLN.out]; exact HS.out.1.push (l := grpPre ls i k) hown honly (own_more hx2 hw2) (fun g hg => (H.out.1.lt g hg).1),
                 HS.out.2.1.trans (honly.below hw2 (fun g hg hh => absurd (HS.out.1.outer.lt g hh).1 (by omega)))⟩)
              clear hown hgrow hnil honly hx1 hx2
              go_wp2
              go_roundw
              case rel => exact ⟨i + 1, by omega, by go_num, Lib.hid ⟨_, HN.out.1, HN.out.2⟩⟩
              case measure => simp [intOf]; omega
    · have hin : i = n1 := by omega
      subst hin
      obtain ⟨xs, hO, hbl⟩ := H.out
      have HH := Lib.hid (And.intro hO hbl)
      clear hO hbl H
      go_wp2
      go_ret
      have hs := HB.out.2.size
      exact ⟨_, xs, rfl, ⟨own_more HH.out.1.outer hs, fun j x l hx hl => own_more (HH.out.1.inner j x l hx hl) hs, HH.out.1.apart⟩, HB.out.2.trans (HH.out.2.mono hs)⟩
end Go.Proofs.Ytbjfbmienlojkaa
