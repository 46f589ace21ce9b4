/- Classes: the walk. -/
import Derived.Test.YtbjfbmienlojkaaT23
import Derived.Deep.RegionHeld3
import Derived.Deep.RegionLaw
import Derived.Deep.AppendLies
namespace Go.Proofs.Ytbjfbmienlojkaa
open Go.RowKit

def clsStep (l : List (List Int)) (i : Nat) (c : Int) : List (List Int) := if c < 0 then l else if c = l.length then l ++ [[(i : Int)]] else l.set c.toNat (l.getD c.toNat [] ++ [(i : Int)])
/-- the rows when k lines are taken -/
def clsPre (cl : List (Int × Int)) : Nat → List (List Int)
  | 0 => []
  | k + 1 => clsStep (clsPre cl k) k (clsAt cl k)

theorem clsPre_len (cl : List (Int × Int)) (k : Nat) : (clsPre cl k).length ≤ k ∧ ∀ l ∈ clsPre cl k, l.length ≤ k := by
  induction k with
  | zero => simp [clsPre]
  | succ k ih =>
    have h2 := ih.2
    unfold clsPre clsStep
    split
    · exact ⟨by omega, fun l hl => by have := h2 l hl; omega⟩
    · split
      · refine ⟨by simp; omega, fun l hl => ?_⟩
        rcases List.mem_append.1 hl with h | h
        · have := h2 l h; omega
        · simp at h; subst h; simp
      · refine ⟨by simp; omega, fun l hl => ?_⟩
        rcases List.mem_or_eq_of_mem_set hl with h | h
        · have := h2 l h; omega
        · subst h
          simp only [List.length_append, List.length_singleton]
          rcases Nat.lt_or_ge (clsAt cl k).toNat (clsPre cl k).length with hlt | hge
          · rw [List.getD_eq_getElem?_getD, List.getElem?_eq_getElem hlt]
            have := h2 _ (List.getElem_mem hlt)
            simp only [Option.getD_some]
            omega
          · rw [List.getD_eq_getElem?_getD, List.getElem?_eq_none hge]
            simp

theorem cls_keep {w W : World} {L G o n c q9 p : Nat} {C R : Int} {xs : List Value} {lss : List (List Int)} {x : Value} (h : Own2 w L (.slice (some ⟨G, o, none⟩) n c) xs lss) (hx : xs[p]? = some x) (h9 : Blk w q9 66 #[.int .i64 C, .int .i64 R]) (ho : Only (fun q => x.ownBlock = some q) w W) :
    W.cell? ⟨q9, 0, none⟩ = some (.int .i64 C) ∧ W.cell? ⟨G, p, none⟩ = some x ∧ W.frozen? ⟨G, p, none⟩ = false := by
  obtain ⟨l, _, hl⟩ := h.get hx
  have hp : p < lss.length := by rw [← h.len]; exact (List.getElem?_eq_some_iff.1 hx).1
  have hO := own_keep h.outer (h.far hx).2 ho
  have h0 : o = 0 ∧ n = lss.length := by
    rcases hO.2 with ⟨h0, _⟩ | ⟨g, cap, cur, hv, _⟩
    · cases h0
    · injection hv with h1 h2 h3
      injection h1 with h1
      injection h1 with h1 h4
      exact ⟨h4, h2⟩
  obtain ⟨rfl, rfl⟩ := h0
  refine ⟨(h9.only ho ?_).cell 0, ?_, (own_at hO (i := p) (by omega)).2⟩
  · intro hh
    obtain ⟨c1, e1⟩ := own_at_blk hl hh
    exact absurd (blk_type e1 h9) (by decide)
  · obtain ⟨b, o, e, _, _, hc⟩ := (own_rd hO).2 (by omega)
    injection e with e
    injection e with e1 e2
    subst e1 e2
    have := hc p x hx
    rwa [Nat.zero_add] at this

theorem new_row {w : World} {L : Nat} (hL : L ≤ w.heap.size) (x : Int) : (w.alloc (.cells #[.int .i64 x] 3)).ownsRow L 3 1 (.slice (some ⟨w.heap.size, 0, none⟩) 1 1) 1 [.int .i64 x] :=
  ⟨rfl, .inr ⟨w.heap.size, 1, #[.int .i64 x], rfl, hL, heap_alloc_new w _, Nat.le_refl _, by decide, rfl, rfl⟩⟩

set_option maxHeartbeats 2000000 in
set_option maxRecDepth 100000 in
theorem classes_bad (A1 A2 : Option Addr) (n1 c1 n2 c2 L1 L2 : Nat) (ls : List (Int × Int)) (st : List Int) (w : World)
    (h1 : Rd w L1 w.heap.size 2 A1 n1 (prs ls)) (h2 : Rd w L2 w.heap.size 1 A2 n2 (st.map (Value.int .i64))) (hn2 : n2 ≤ maxLen) (hn1 : n1 ≤ maxLen) (hm : may ls st = false) :
    Calls Try.prog 22 #[.agg #[.slice A1 n1 c1, .slice A2 n2 c2]] w fun e w' => e = .returned (.tuple #[.slice none 0 0, .int .i64 2]) ∧ Below w.heap.size w w' := by
  have H1 := Lib.hid h1
  have H2 := Lib.hid h2
  have HM := Lib.hid hm
  clear h1 h2 hm
  go_enter Try.func22, Try.ntmps22
  go_upto_region 1 with (fail)
  refine wp_abs (fun wx => Blk wx w.heap.size 26 #[.slice A1 n1 c1, .slice A2 n2 c2] ∧ Below w.heap.size w wx) ⟨(Blk.new _ _ _), ((Below.refl _ _).alloc (Nat.le_refl _) _)⟩ ?_
  rintro wx ⟨k0, hb⟩
  have c00 : wx.cell? ⟨w.heap.size, 0, none⟩ = some (.slice A1 n1 c1) := k0.cell 0
  have c01 : wx.cell? ⟨w.heap.size, 1, none⟩ = some (.slice A2 n2 c2) := k0.cell 1
  have HK := Lib.hid hb
  clear k0 hb
  go_wp2_with fail
  refine (canon_bad A1 A2 n1 c1 n2 c2 L1 L2 ls st wx (H1.out.up HK.out HK.out.size) (H2.out.up HK.out HK.out.size) hn2 hn1 HM.out).mono ?_
  rintro e w1 ⟨rfl, hb1⟩
  have HA := Lib.hid (HK.out.trans (hb1.mono HK.out.size))
  clear hb1 c00 c01 HK
  go_wp2
  exact bodyPost_ret (v := .tuple #[.slice none 0 0, .int .i64 2]) (by simp [results, Try.results22, go_sem]) rfl ⟨rfl, HA.out.alloc HA.out.size _⟩

set_option maxHeartbeats 4000000 in
set_option maxRecDepth 100000 in
theorem classes_ok (A1 A2 : Option Addr) (c1 c2 L1 L2 : Nat) (ls : List (Int × Int)) (st : List Int) (w : World)
    (h1 : Rd w L1 w.heap.size 2 A1 ls.length (prs ls)) (h2 : Rd w L2 w.heap.size 1 A2 st.length (st.map (Value.int .i64))) (hm : may ls st = true)
    (hcan : ∀ k, k < ls.length → clsAt (canonF ls) k ≤ (clsPre (canonF ls) k).length ∧ -1 ≤ clsAt (canonF ls) k) :
    Calls Try.prog 22 #[.agg #[.slice A1 ls.length c1, .slice A2 st.length c2]] w fun e w' => ∃ v xs, e = .returned (.tuple #[v, .int .i64 0]) ∧
      Own2 w' w.heap.size v xs (clsPre (canonF ls) ls.length) ∧ Below w.heap.size w w' := by
  have n1 := mayLen hm
  have H1 := Lib.hid h1
  have H2 := Lib.hid h2
  have HM := Lib.hid hm
  have HC := Lib.hid hcan
  clear h1 h2 hm hcan
  go_enter Try.func22, Try.ntmps22
  go_upto_region 1 with (fail)
  refine wp_abs (fun wx => Blk wx w.heap.size 26 #[.slice A1 ls.length c1, .slice A2 st.length c2] ∧ Below w.heap.size w wx) ⟨(Blk.new _ _ _), ((Below.refl _ _).alloc (Nat.le_refl _) _)⟩ ?_
  rintro wx ⟨k0, hb⟩
  have c00 : wx.cell? ⟨w.heap.size, 0, none⟩ = some (.slice A1 ls.length c1) := k0.cell 0
  have c01 : wx.cell? ⟨w.heap.size, 1, none⟩ = some (.slice A2 st.length c2) := k0.cell 1
  have HK := Lib.hid hb
  clear k0 hb
  go_wp2_with fail
  refine (canon_ok A1 A2 c1 c2 L1 L2 ls st wx (H1.out.up HK.out HK.out.size) (H2.out.up HK.out HK.out.size) HM.out).mono ?_
  rintro e w1 ⟨B1, d1, B2, d2, rfl, o1, o2, hb1⟩
  have HA := Lib.hid (show Below w.heap.size w w1 ∧ Rd w1 wx.heap.size w1.heap.size 2 B1 ls.length (prs (canonF ls)) from ⟨HK.out.trans (hb1.mono HK.out.size), own_rd o1⟩)
  clear hb1 c00 c01 o1 o2 HK
  go_upto_region 5 with (fail)
  refine wp_abs (fun w2 => Blk w2 w1.heap.size 26 #[.slice B1 ls.length d1, .slice B2 st.length d2] ∧ Below w.heap.size w w2 ∧ Rd w2 0 (w1.heap.size + 1) 2 B1 ls.length (prs (canonF ls)) ∧ w1.heap.size + 1 = w2.heap.size)
    ⟨(Blk.new _ _ _), HA.out.1.alloc HA.out.1.size _, (HA.out.2.below ((Below.refl w1.heap.size w1).alloc (Nat.le_refl _) _) (Nat.le_refl _)).more (by omega) (by omega), by simp⟩ ?_
  rintro w2 ⟨k0, hb, hrd, hsz⟩
  have c00 : w2.cell? ⟨w1.heap.size, 0, none⟩ = some (.slice B1 ls.length d1) := k0.cell 0
  have HB := Lib.hid (And.intro hb (And.intro (hsz ▸ hrd) hsz))
  clear k0 hb hrd hsz HA
  go_wp2
  clear c00
  go_loopw [6, 20] (fun v iv wr => ∃ (k : Nat), k ≤ ls.length ∧ iv = .int .i64 k ∧ Hid (∃ xs, Own2 wr w2.heap.size v xs (clsPre (canonF ls) k) ∧ Below w2.heap.size w2 wr)) (fun _ iv _ => ls.length - (intOf iv).toNat)
  case atStart => exact ⟨0, by omega, rfl, Lib.hid ⟨[], Own2.empty _ _, Below.refl _ _⟩⟩
  case round =>
    obtain ⟨k, hk, rfl, H⟩ := hrel
    by_cases hlt : k < ls.length
    · obtain ⟨xs, hO, hbl⟩ := H.out
      obtain ⟨b, o, hl, rfl, hL, hB, p1, p2⟩ := (HB.out.2.1.up hbl hbl.size).two hlt
      have hc := HC.out k hlt
      have hce : clsAt (canonF ls) k = (canonF ls)[k].1 := clsAt_get hl
      generalize hx : (canonF ls)[k] = x at p1 p2 hce
      obtain ⟨c, r⟩ := x
      simp only at hce p1 p2
      rw [hce] at hc
      have b1 := hc.1
      have b2 := hc.2
      have hpl := clsPre_len (canonF ls) k
      obtain ⟨V, C, rfl⟩ := own_slice hO.outer
      have l1 : (clsPre (canonF ls) k).length ≤ 512 := by omega
      have HH := Lib.hid (And.intro hce (And.intro hO (And.intro hbl hpl)))
      clear hce hO hbl hpl H hx hc
      go_upto_region 9 with (fail)
      refine wp_abs (fun wy => Own2 wy w2.heap.size (.slice V (clsPre (canonF ls) k).length C) xs (clsPre (canonF ls) k) ∧ Below w2.heap.size w2 wy ∧ Blk wy wr.heap.size 66 #[.int .i64 c, .int .i64 r]) ⟨HH.out.2.1.alloc _, HH.out.2.2.1.alloc HH.out.2.2.1.size _, Blk.new _ _ _⟩ ?_
      rintro wy ⟨hO, hbl, h9⟩
      clear p1 p2
      have n0 : wy.cell? ⟨wr.heap.size, 0, none⟩ = some (.int .i64 c) := h9.cell 0
      have HY := Lib.hid (And.intro hO (And.intro hbl h9))
      clear hO hbl h9
      by_cases hneg : c < 0
      · go_wp2
        go_roundw
        case rel =>
          refine ⟨k + 1, by omega, by go_num, Lib.hid ⟨xs, ?_, HY.out.2.1⟩⟩
          rw [clsPre, HH.out.1, clsStep, if_pos hneg]
          exact HY.out.1
        case measure => simp [intOf]; omega
      · by_cases heq : c = (clsPre (canonF ls) k).length
        · have hcb : (c == ((clsPre (canonF ls) k).length : Int)) = true := by simp [heq]
          have hinfo : (Try.prog.info? 24).map (fun i => (i.zero, i.size, i.bytes)) = some (some (.slice none 0 0), 1, 24) := by kernel_rfl
          obtain ⟨i0, hi, hz0, hz1, hz2⟩ := info_parts hinfo
          clear hinfo
          have HE := Lib.hid heq
          clear heq
          go_wp2_with (at_builtin; refine wpList_append_own _ rfl _ _ 43 rfl w2.heap.size 24 i0 (.slice none 0 0) 1 24 Try.underlying43 hi hz0 hz1 hz2 rfl (by decide) _ _ _ rfl ((HY.out.1.alloc _).alloc _).outer ⟨wy.heap.size + 1, 0, none⟩ 1 1 [.slice (some ⟨wy.heap.size, 0, none⟩) 1 1] rfl ?qc1 ?qc2 ?qc3 ?qc4 ?qc5 ?qc6 ?_)
          case qc3 => rfl
          case qc4 => unfold maxLen; omega
          case qc5 => omega
          case qc6 => have := HY.out.2.1.size; simp; omega
          intro v' w' hown hgrow hnil
          have hsw := HY.out.2.1.size
          have honly : Only (fun q => (Value.slice V (clsPre (canonF ls) k).length C).ownBlock = some q) wy w' := (((Only.refl _ wy).alloc _).alloc _).grown hgrow (fun g hg => .inl hg)
          have hx1 := (new_row (L := w2.heap.size) hsw (k : Int)).alloc (.cells #[.slice (some ⟨wy.heap.size, 0, none⟩) 1 1] 24)
          have hx2 := own_keep hx1 (own_ne hx1 ((HY.out.1.alloc _).alloc _).outer (by decide)) ((Only.refl _ _).grown hgrow (fun g hg => .inl hg))
          have HN := Lib.hid (show Own2 w' w2.heap.size v' (xs ++ [.slice (some ⟨wy.heap.size, 0, none⟩) 1 1]) (clsPre (canonF ls) (k + 1)) ∧ Below w2.heap.size w2 w' from
            ⟨by rw [clsPre, HH.out.1, clsStep, if_neg (by omega), if_pos HE.out]; exact HY.out.1.push (l := [(k : Int)]) hown honly hx2 (fun g hg => by simp [Value.ownBlock] at hg; omega),
             HY.out.2.1.trans (honly.below hsw (fun g hg hh => absurd (HY.out.1.outer.lt g hh).1 (by omega)))⟩)
          clear hown hgrow hnil honly hx1 hx2
          go_wp2
          go_roundw
          case rel => exact ⟨k + 1, by omega, by go_num, Lib.hid ⟨_, HN.out.1, HN.out.2⟩⟩
          case measure => simp [intOf]; omega
        · obtain ⟨cn, rfl⟩ : ∃ cn : Nat, c = cn := ⟨c.toNat, by omega⟩
          have hcb : ((cn : Int) == ((clsPre (canonF ls) k).length : Int)) = false := by simp only [beq_eq_false_iff_ne, ne_eq]; omega
          have hcm : cn < (clsPre (canonF ls) k).length := by omega
          obtain ⟨G, rfl⟩ : ∃ G, V = some ⟨G, 0, none⟩ := by
            rcases HY.out.1.outer.2 with ⟨_, h0⟩ | ⟨g, cap, cur, hv, _⟩
            · omega
            · injection hv with hv
              exact ⟨g, hv⟩
          have hxl : cn < xs.length := by rw [HY.out.1.len]; exact hcm
          have hx : xs[cn]? = some xs[cn] := List.getElem?_eq_getElem hxl
          generalize xs[cn] = x at hx
          obtain ⟨l, hl2, hxo⟩ := HY.out.1.get hx
          obtain ⟨X, CX, rfl⟩ := own_slice hxo
          have hll : l.length ≤ 512 := by
            have := HH.out.2.2.2.2 l (List.mem_of_getElem? hl2)
            omega
          obtain ⟨e0, e1, f1⟩ := cls_keep HY.out.1 hx HY.out.2.2 (Only.refl _ _)
          obtain ⟨e0d, e1d, f1d⟩ := cls_keep HY.out.1 hx HY.out.2.2 ((Only.refl _ wy).alloc (.cells #[.int .i64 k] 3))
          have hinfo3 : (Try.prog.info? 3).map (fun i => (i.zero, i.size, i.bytes)) = some (some (.int .i64 0), 1, 8) := by kernel_rfl
          obtain ⟨j0, hj', jz0, jz1, jz2⟩ := info_parts hinfo3
          have HJ := Lib.hid (And.intro hj' (And.intro jz0 (And.intro jz1 jz2)))
          have HX := Lib.hid (And.intro hx (And.intro hl2 hxo))
          have hsw := HY.out.2.1.size
          have i0 : (0 : Int) ≤ (cn : Int) := by omega
          have i1 : (cn : Int) < ((clsPre (canonF ls) k).length : Int) := by omega
          have HP := Lib.hid (show clsPre (canonF ls) (k + 1) = (clsPre (canonF ls) k).set cn (l ++ [(k : Int)]) by
            rw [clsPre, HH.out.1, clsStep, if_neg (by omega), if_neg (by omega), Int.toNat_natCast, List.getD_eq_getElem?_getD, hl2]
            rfl)
          have hxb : ∀ q, (Value.slice X l.length CX).ownBlock = some q → w2.heap.size ≤ q := fun q hq => (hxo.lt q hq).1
          have HXB := Lib.hid hxb
          have hG := (HY.out.1.outer.lt G rfl).1
          clear hj' jz0 jz1 jz2 hinfo3 hx hl2 hxo hxb
          go_upto_region 8 with (fail)
          go_region_law
            ((refine step_append_lies _ (by rfl) _ _ 24 (by rfl) w2.heap.size 3 j0 (.int .i64 0) 1 8 Try.underlying24 HJ.out.1 HJ.out.2.1 HJ.out.2.2.1 HJ.out.2.2.2 rfl (by omega) (.slice X l.length CX) l.length (l.map (Value.int .i64)) (by rfl) ?_ _ 1 1 [.int .i64 k] (by rfl) (by rfl) ?_ (by simp [Value.oneCell']) (by omega) ?_ (by omega) ?_ _ rfl ?_; (refine own_stay HX.out.2.2 ?_; (repeat (first | (with_reducible exact Only.refl _ _) | (with_reducible refine Only.drew ?_) | (with_reducible refine Only.alloc ?_ _)))); (refine World.news_of_block (cs := #[.int .i64 k]) (t := 3) (fr := (0, 0)) ?_; refine (show Blk _ _ 3 _ from ?_); repeat (first | ((with_reducible refine blk_new_eq ?_); (first | (with_reducible rfl) | exact (by simp) | exact (by simp; omega))) | (with_reducible refine Blk.drew ?_) | (with_reducible refine Blk.alloc ?_ _))); (unfold maxLen; omega); (first | omega | (simp; omega)); intro gA capA wA hownA hgrowA hatA hltA; have ho : Only (fun q => (Value.slice X l.length CX).ownBlock = some q) wy wA := (by (repeat (first | (with_reducible exact Only.refl _ _) | (with_reducible refine Only.drew ?_) | (with_reducible refine Only.alloc ?_ _) | (with_reducible refine Only.grown ?_ hgrowA (fun g hg => .inl hg))))); obtain ⟨ea, eb, ec⟩ := cls_keep HY.out.1 HX.out.1 HY.out.2.2 ho; have HN := Lib.hid (And.intro (HY.out.1.put (l' := l ++ [(k : Int)]) HX.out.1 ho (by simpa using hownA) (by intro q hq; simp [Value.ownBlock] at hq; subst hq; rcases hatA with h | h; exact .inl h; right; simp at h; omega)) ((HY.out.2.1.trans (ho.below hsw (fun g hg hh => absurd (HXB.out g hh) (by omega)))).setCell (p := ⟨G, cn, none⟩) hG (.slice (some ⟨gA, 0, none⟩) (l.length + 1) capA))); clear ho hownA hgrowA hatA hltA))
          all_goals
            go_wp2
            go_roundw
            case rel => exact ⟨k + 1, by omega, by go_num, Lib.hid ⟨_, HP.out ▸ HN.out.1, HN.out.2⟩⟩
            case measure => simp [intOf]; omega
    · have hkn : k = ls.length := by omega
      subst hkn
      obtain ⟨xs, hO, hbl⟩ := H.out
      have HH := Lib.hid (And.intro hO hbl)
      clear hO hbl H
      go_wp2
      refine bodyPost_ret (v := .tuple #[u6, .int .i64 0]) (by simp [results, Try.results22, go_sem]) rfl ?_
      have hs := HB.out.1.size
      exact ⟨u6, xs, rfl, ⟨own_more HH.out.1.outer hs, fun j x l hx hl => own_more (HH.out.1.inner j x l hx hl) hs, HH.out.1.apart⟩, HB.out.1.trans (HH.out.2.mono hs)⟩
end Go.Proofs.Ytbjfbmienlojkaa
