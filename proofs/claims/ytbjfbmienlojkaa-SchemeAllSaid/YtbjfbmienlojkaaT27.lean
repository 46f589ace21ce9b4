/- The reference's Classes: the walk.
   Classes: what Classes makes is what the reference makes (no program in sight).
   slices.Reverse at the two element types, over a row of the caller's own.
   Turn: a scheme from its end on. -/
import Derived.Test.YtbjfbmienlojkaaT26
import Derived.Test.YtbjfbmienlojkaaT16
import Derived.Test.YtbjfbmienlojkaaT15
import Derived.Test.YtbjfbmienlojkaaT23
namespace Go.Proofs.Ytbjfbmienlojkaa
open Go.RowKit

def headB (ls : List (Int × Int)) (i : Nat) : Bool := !decide (clsAt ls i < 0) && !decide (firstF ls i < i)
def grpPre (ls : List (Int × Int)) (i k : Nat) : List Int := ((List.range k).filter (fun j => decide (i ≤ j) && alikeB ls i j)).map (fun j : Nat => (j : Int))
def refPre (ls : List (Int × Int)) (i : Nat) : List (List Int) := ((List.range i).filter (headB ls)).map (fun h => grpPre ls h ls.length)
theorem grpPre_start (ls : List (Int × Int)) (i : Nat) : grpPre ls i i = [] := by
  unfold grpPre
  rw [List.filter_eq_nil_iff.2, List.map_nil]
  intro j hj
  have := List.mem_range.1 hj
  simp
  omega
theorem grpPre_succ (ls : List (Int × Int)) (i k : Nat) (h : i ≤ k) : grpPre ls i (k + 1) = if alikeB ls i k then grpPre ls i k ++ [(k : Int)] else grpPre ls i k := by
  unfold grpPre
  rw [List.range_succ, List.filter_append, List.map_append]
  cases h2 : alikeB ls i k <;> simp [h, h2]
theorem grpPre_len (ls : List (Int × Int)) (i k : Nat) : (grpPre ls i k).length ≤ k := by
  unfold grpPre
  rw [List.length_map]
  exact Nat.le_trans (List.length_filter_le _ _) (by simp)
theorem refPre_succ (ls : List (Int × Int)) (i : Nat) : refPre ls (i + 1) = if headB ls i then refPre ls i ++ [grpPre ls i ls.length] else refPre ls i := by
  unfold refPre
  rw [List.range_succ, List.filter_append, List.map_append]
  cases h : headB ls i <;> simp [h]
theorem refPre_len (ls : List (Int × Int)) (i : Nat) : (refPre ls i).length ≤ i := by
  unfold refPre
  rw [List.length_map]
  exact Nat.le_trans (List.length_filter_le _ _) (by simp)

set_option maxHeartbeats 4000000 in
set_option maxRecDepth 100000 in
theorem refClasses_any (A1 A2 : Option Addr) (n1 c1 n2 c2 L1 : Nat) (ls : List (Int × Int)) (w : World)
    (h1 : Rd w L1 w.heap.size 2 A1 n1 (prs ls)) (hn : n1 ≤ 512) :
    Calls Try.prog 23 #[.agg #[.slice A1 n1 c1, .slice A2 n2 c2]] w fun e w' => ∃ v xs, e = .returned v ∧ Own2 w' w.heap.size v xs (refPre ls n1) ∧ Below w.heap.size w w' := by
  have hln : ls.length = n1 := by have := h1.1; rw [prs_len] at this; omega
  have HLN := Lib.hid hln
  have H1 := Lib.hid h1
  have hinfo : (Try.prog.info? 24).map (fun i => (i.zero, i.size, i.bytes)) = some (some (.slice none 0 0), 1, 24) := by kernel_rfl
  obtain ⟨i0, hi, hz0, hz1, hz2⟩ := info_parts hinfo
  have HI := Lib.hid (And.intro hi (And.intro hz0 (And.intro hz1 hz2)))
  have hinfo3 : (Try.prog.info? 3).map (fun i => (i.zero, i.size, i.bytes)) = some (some (.int .i64 0), 1, 8) := by kernel_rfl
  obtain ⟨j0, hj', jz0, jz1, jz2⟩ := info_parts hinfo3
  have HJ := Lib.hid (And.intro hj' (And.intro jz0 (And.intro jz1 jz2)))
  clear h1 hln hi hz0 hz1 hz2 hinfo hinfo3 hj' jz0 jz1 jz2
  go_enter Try.func23, Try.ntmps23
  go_upto_region 2 with (fail)
  refine wp_abs (fun wx => Blk wx w.heap.size 26 #[.slice A1 n1 c1, .slice A2 n2 c2] ∧ Below w.heap.size w wx) ⟨(Blk.new _ _ _), ((Below.refl _ _).alloc (Nat.le_refl _) _)⟩ ?_
  rintro w1 ⟨k0, hb⟩
  have c00 : w1.cell? ⟨w.heap.size, 0, none⟩ = some (.slice A1 n1 c1) := k0.cell 0
  have HB := Lib.hid (And.intro k0 hb)
  clear k0 hb
  go_wp2
  clear c00
  go_loopw [3, 10] (fun v iv wr => ∃ (i : Nat), i ≤ n1 ∧ iv = .int .i64 i ∧ Hid (∃ xs, Own2 wr w1.heap.size v xs (refPre ls i) ∧ Below w1.heap.size w1 wr)) (fun _ iv _ => n1 - (intOf iv).toNat)
  case atStart => exact ⟨0, by omega, rfl, Lib.hid ⟨[], Own2.empty _ _, Below.refl _ _⟩⟩
  case round =>
    obtain ⟨i, hi, rfl, H⟩ := hrel
    by_cases hlt : i < n1
    · obtain ⟨xs, hO, hbl⟩ := H.out
      have hk0 := HB.out.1.below hbl HB.out.1.lt
      have hbw : Below w.heap.size w wr := HB.out.2.trans (hbl.mono HB.out.2.size)
      have hrd := H1.out.up hbw hbw.size
      obtain ⟨b, o, hl, rfl, hL, hB, p1, p2⟩ := hrd.two hlt
      have hce : clsAt ls i = ls[i].1 := clsAt_get hl
      generalize hx : ls[i] = x at p1 p2 hce
      obtain ⟨c, r⟩ := x
      simp only at hce p1 p2
      obtain ⟨V, C, rfl⟩ := own_slice hO.outer
      have l1 := refPre_len ls i
      have c00 : wr.cell? ⟨w.heap.size, 0, none⟩ = some (.slice (some ⟨b, o, none⟩) n1 c1) := hk0.cell 0
      have c01 : wr.cell? ⟨w.heap.size, 1, none⟩ = some (.slice A2 n2 c2) := hk0.cell 1
      have HH := Lib.hid (And.intro hce (And.intro hO (And.intro hbl (And.intro hk0 (And.intro hbw hrd)))))
      clear hce hO hbl H hx hk0 hbw hrd
      have i1 : (0 : Int) ≤ (i : Int) := by omega
      have i2 : (i : Int) < (n1 : Int) := by omega
      by_cases hneg : c < 0
      · go_wp2
        go_roundw
        case rel =>
          refine ⟨i + 1, by omega, by go_num, Lib.hid ⟨xs, ?_, HH.out.2.2.1⟩⟩
          rw [refPre_succ, if_neg (by unfold headB; rw [HH.out.1]; simp [hneg])]
          exact HH.out.2.1
        case measure => simp [intOf]; omega
      · go_wp2_with fail
        refine (first_any (some ⟨b, o, none⟩) A2 n1 c1 n2 c2 L1 ls i wr HH.out.2.2.2.2.2 (by unfold maxLen; omega) hlt).mono ?_
        rintro e w2 ⟨rfl, hb2⟩
        clear p1 p2 c00 c01
        have hf0 : firstF ls i = firstF ls i := rfl
        generalize hff : firstF ls i = ff at hf0 ⊢
        have HF := Lib.hid hff
        clear hff hf0
        have HS := Lib.hid (show Own2 w2 w1.heap.size (.slice V (refPre ls i).length C) xs (refPre ls i) ∧ Below w1.heap.size w1 w2 ∧ Blk w2 w.heap.size 26 #[.slice (some ⟨b, o, none⟩) n1 c1, .slice A2 n2 c2] ∧ Rd w2 L1 w2.heap.size 2 (some ⟨b, o, none⟩) n1 (prs ls) from
          ⟨HH.out.2.1.below hb2, HH.out.2.2.1.trans (hb2.mono HH.out.2.2.1.size), HH.out.2.2.2.1.below hb2 HH.out.2.2.2.1.lt, HH.out.2.2.2.2.2.up hb2 hb2.size⟩)
        clear hb2
        by_cases hfi : ff < i
        · have hfb : decide ((ff : Int) < (i : Int)) = true := by simpa using hfi
          go_wp2
          go_roundw
          case rel =>
            refine ⟨i + 1, by omega, by go_num, Lib.hid ⟨xs, ?_, HS.out.2.1⟩⟩
            rw [refPre_succ, if_neg (by unfold headB; rw [HF.out]; simp [hfi])]
            exact HS.out.1
          case measure => simp [intOf]; omega
        · have hfb : decide ((ff : Int) < (i : Int)) = false := by simp; omega
          have hhead : headB ls i = true := by unfold headB; rw [HH.out.1, HF.out]; simp [hfi, hneg]
          have HHD := Lib.hid hhead
          clear hhead
          go_wp2
          go_loopw [5, 6] (fun cv kv wq => ∃ (k : Nat), i ≤ k ∧ k ≤ n1 ∧ kv = .int .i64 k ∧ Hid (wq.ownsRow w2.heap.size 3 1 cv (grpPre ls i k).length ((grpPre ls i k).map (Value.int .i64)) ∧ Below w2.heap.size w2 wq)) (fun _ kv _ => n1 - (intOf kv).toNat)
          case atStart => exact ⟨i, by omega, by omega, rfl, Lib.hid ⟨by rw [grpPre_start]; exact World.ownsRow_nil _ _ _ _, Below.refl _ _⟩⟩
          case round =>
            obtain ⟨k, hik, hkn, rfl, H⟩ := hrel
            have hbx := HS.out.2.2.1.below H.out.2 HS.out.2.2.1.lt
            have d00 : wr.cell? ⟨w.heap.size, 0, none⟩ = some (.slice (some ⟨b, o, none⟩) n1 c1) := hbx.cell 0
            have d01 : wr.cell? ⟨w.heap.size, 1, none⟩ = some (.slice A2 n2 c2) := hbx.cell 1
            clear hbx
            by_cases hk : k < n1
            · go_wp2_with fail
              refine (alike_any (some ⟨b, o, none⟩) A2 n1 c1 n2 c2 L1 ls i k wr (HS.out.2.2.2.up H.out.2 H.out.2.size) (by unfold maxLen; omega) hlt hk).mono ?_
              rintro e w3 ⟨rfl, hb3⟩
              have HG := Lib.hid (show w3.ownsRow w2.heap.size 3 1 _ (grpPre ls i k).length ((grpPre ls i k).map (Value.int .i64)) ∧ Below w2.heap.size w2 w3 from ⟨own_stay H.out.1 (Only.of_below hb3 _), H.out.2.trans (hb3.mono H.out.2.size)⟩)
              clear hb3
              have hgl := grpPre_len ls i k
              cases hal : alikeB ls i k with
              | false =>
                go_wp2
                go_roundw
                case rel => exact ⟨k + 1, by omega, by omega, by go_num, Lib.hid ⟨by rw [grpPre_succ ls i k hik, hal]; exact HG.out.1, HG.out.2⟩⟩
                case measure => simp [intOf]; omega
              | true =>
                go_wp2_with (at_builtin; refine wpList_append_own _ rfl _ _ 24 rfl w2.heap.size 3 j0 (.int .i64 0) 1 8 Try.underlying24 HJ.out.1 HJ.out.2.1 HJ.out.2.2.1 HJ.out.2.2.2 rfl (by decide) _ _ _ rfl (HG.out.1.alloc _) ⟨w3.heap.size, 0, none⟩ 1 1 [.int .i64 k] rfl ?qc1 ?qc2 ?qc3 ?qc4 ?qc5 ?qc6 ?_)
                case qc1 => rfl
                case qc2 => exact World.news_of_block (cs := #[.int .i64 k]) (t := 3) (fr := (0, 0)) (heap_alloc_new w3 _)
                case qc3 => intro u hu; simp at hu; subst hu; rfl
                case qc4 => unfold maxLen; omega
                case qc5 => omega
                case qc6 => have := HG.out.2.size; simp; omega
                intro v' w4 hown hgrow hnil
                have HN := Lib.hid (show w4.ownsRow w2.heap.size 3 1 v' (grpPre ls i (k + 1)).length ((grpPre ls i (k + 1)).map (Value.int .i64)) ∧ Below w2.heap.size w2 w4 from
                  ⟨by rw [grpPre_succ ls i k hik, hal]; simpa using hown, (HG.out.2.alloc HG.out.2.size _).grown hgrow (by have := HG.out.2.size; simp; omega) (fun q hq => (HG.out.1.lt q hq).1)⟩)
                clear hown hgrow hnil
                go_wp2
                go_roundw
                case rel => exact ⟨k + 1, by omega, by omega, by go_num, HN⟩
                case measure => simp [intOf]; omega
            · have hkn2 : k = n1 := by omega
              subst hkn2
              have hwq := H.out.2.size
              have hw2 := HS.out.2.1.size
              have HO := Lib.hid (show Own2 wr w1.heap.size (.slice V (refPre ls i).length C) xs (refPre ls i) from HS.out.1.below H.out.2)
              have hz : ∃ A' C', u5 = .slice A' (grpPre ls i k).length C' := own_slice H.out.1
              obtain ⟨A', C', rfl⟩ := hz
              go_wp2_with (at_builtin; refine wpList_append_own _ rfl _ _ 43 rfl w1.heap.size 24 i0 (.slice none 0 0) 1 24 Try.underlying43 HI.out.1 HI.out.2.1 HI.out.2.2.1 HI.out.2.2.2 rfl (by decide) _ _ _ rfl (HO.out.alloc _).outer ⟨wr.heap.size, 0, none⟩ 1 1 [.slice A' (grpPre ls i k).length C'] rfl ?qc1 ?qc2 ?qc3 ?qc4 ?qc5 ?qc6 ?_)
              case qc1 => rfl
              case qc2 => exact World.news_of_block (cs := #[.slice A' (grpPre ls i k).length C']) (t := 24) (fr := (0, 0)) (heap_alloc_new wr _)
              case qc3 => first | rfl | (intro u hu; simp at hu; subst hu; rfl)
              case qc4 => unfold maxLen; omega
              case qc5 => omega
              case qc6 => simp; omega
              intro v' w4 hown hgrow hnil
              have honly : Only (fun q => (Value.slice V (refPre ls i).length C).ownBlock = some q) w2 w4 := ((Only.of_below H.out.2 _).alloc _).grown hgrow (fun g hg => .inl hg)
              have hx1 := H.out.1.alloc (.cells #[.slice A' (grpPre ls i k).length C'] 24)
              have hx2 := own_keep hx1 (own_ne hx1 (HO.out.alloc _).outer (by decide)) ((Only.refl _ _).grown hgrow (fun g hg => .inl hg))
              have HN := Lib.hid (show Own2 w4 w1.heap.size v' (xs ++ [.slice A' (grpPre ls i k).length C']) (refPre ls (i + 1)) ∧ Below w1.heap.size w1 w4 from
                ⟨by rw [refPre_succ, HHD.out, if_pos rfl, HLN.out]; exact HS.out.1.push (l := grpPre ls i k) hown honly (own_more hx2 hw2) (fun g hg => (H.out.1.lt g hg).1),
                 HS.out.2.1.trans (honly.below hw2 (fun g hg hh => absurd (HS.out.1.outer.lt g hh).1 (by omega)))⟩)
              clear hown hgrow hnil honly hx1 hx2
              go_wp2
              go_roundw
              case rel => exact ⟨i + 1, by omega, by go_num, Lib.hid ⟨_, HN.out.1, HN.out.2⟩⟩
              case measure => simp [intOf]; omega
    · have hin : i = n1 := by omega
      subst hin
      obtain ⟨xs, hO, hbl⟩ := H.out
      have HH := Lib.hid (And.intro hO hbl)
      clear hO hbl H
      go_wp2
      go_ret
      have hs := HB.out.2.size
      exact ⟨_, xs, rfl, ⟨own_more HH.out.1.outer hs, fun j x l hx hl => own_more (HH.out.1.inner j x l hx hl) hs, HH.out.1.apart⟩, HB.out.2.trans (HH.out.2.mono hs)⟩
end Go.Proofs.Ytbjfbmienlojkaa

namespace Go.Proofs.Ytbjfbmienlojkaa
open Go.RowKit

def canStep (s : (Nat → Int) × Int) (c : Int) : (Nat → Int) × Int := if c < 0 then s else (bump s.1 c.toNat s.2, nxt s.1 c.toNat s.2)
def canVal (s : (Nat → Int) × Int) (c : Int) : Int := if c < 0 then c else bump s.1 c.toNat s.2 c.toNat - 1
def canFold : (Nat → Int) × Int → List (Int × Int) → Nat → (Nat → Int) × Int
  | s, _, 0 => s
  | s, [], _ + 1 => s
  | s, p :: t, k + 1 => canFold (canStep s p.1) t k
theorem clsAt_cons (p : Int × Int) (t : List (Int × Int)) (k : Nat) : clsAt (p :: t) (k + 1) = clsAt t k := rfl
theorem clsAt_zero (p : Int × Int) (t : List (Int × Int)) : clsAt (p :: t) 0 = p.1 := rfl
theorem canFold_succ : ∀ (l : List (Int × Int)) (s : (Nat → Int) × Int) (k : Nat), k < l.length → canFold s l (k + 1) = canStep (canFold s l k) (clsAt l k) := by
  intro l
  induction l with
  | nil => intro s k h; simp at h
  | cons p t ih =>
    intro s k h
    cases k with
    | zero =>
      rw [clsAt_zero]
      cases t <;> rfl
    | succ k =>
      rw [clsAt_cons]
      exact ih (canStep s p.1) k (by simpa using h)
theorem canGo_at : ∀ (l : List (Int × Int)) (s : (Nat → Int) × Int) (k : Nat), k < l.length → clsAt (canGo s.1 s.2 l) k = canVal (canFold s l k) (clsAt l k) := by
  intro l
  induction l with
  | nil => intro s k h; simp at h
  | cons p t ih =>
    intro s k h
    obtain ⟨c, r⟩ := p
    cases k with
    | zero =>
      rw [clsAt_zero]
      unfold canGo canVal
      split <;> simp [clsAt_zero, canFold, *]
    | succ k =>
      have hk : k < t.length := by simpa using h
      have hh := ih (canStep s c) k hk
      rw [clsAt_cons]
      show _ = canVal (canFold (canStep s c) t k) (clsAt t k)
      rw [← hh]
      by_cases hc : c < 0
      · rw [canGo, if_pos hc, clsAt_cons]
        unfold canStep
        rw [if_pos hc]
      · rw [canGo, if_neg hc, clsAt_cons]
        unfold canStep
        rw [if_neg hc]

theorem firstFrom_lt (ls : List (Int × Int)) (i : Nat) : ∀ (f k : Nat), i ≤ k + f → (firstFrom ls i f k < i ↔ ∃ j, k ≤ j ∧ j < i ∧ alikeB ls j i = true) := by
  intro f
  induction f with
  | zero =>
    intro k h
    unfold firstFrom
    constructor
    · intro h; omega
    · rintro ⟨j, h1, h2, _⟩; omega
  | succ f ih =>
    intro k h
    unfold firstFrom
    by_cases hk : k < i
    · rw [if_pos hk]
      cases ha : alikeB ls k i with
      | true =>
        rw [if_pos rfl]
        exact ⟨fun _ => ⟨k, Nat.le_refl _, hk, ha⟩, fun _ => hk⟩
      | false =>
        rw [if_neg (by simp), ih (k + 1) (by omega)]
        constructor
        · rintro ⟨j, h1, h2, h3⟩; exact ⟨j, by omega, h2, h3⟩
        · rintro ⟨j, h1, h2, h3⟩
          refine ⟨j, ?_, h2, h3⟩
          rcases Nat.lt_or_ge k j with h4 | h4
          · omega
          · have : j = k := by omega
            subst this
            rw [ha] at h3; cases h3
    · rw [if_neg hk]
      constructor
      · intro h; omega
      · rintro ⟨j, h1, h2, _⟩; omega
theorem headB_iff (ls : List (Int × Int)) (i : Nat) : headB ls i = true ↔ 0 ≤ clsAt ls i ∧ ∀ j, j < i → clsAt ls j ≠ clsAt ls i := by
  have hf := firstFrom_lt ls i i 0 (by omega)
  unfold headB firstF
  simp only [Bool.and_eq_true, Bool.not_eq_true', decide_eq_false_iff_not]
  rw [hf]
  constructor
  · rintro ⟨h1, h2⟩
    refine ⟨by omega, fun j hj he => h2 ⟨j, by omega, hj, ?_⟩⟩
    unfold alikeB
    simp
    right
    exact ⟨by omega, he⟩
  · rintro ⟨h1, h2⟩
    refine ⟨by omega, ?_⟩
    rintro ⟨j, _, hj, ha⟩
    unfold alikeB at ha
    simp at ha
    rcases ha with h | h
    · omega
    · exact h2 j hj h.2

def heads_ (ls : List (Int × Int)) (k : Nat) : List Nat := (List.range k).filter (headB ls)
theorem heads_succ (ls : List (Int × Int)) (k : Nat) : heads_ ls (k + 1) = if headB ls k then heads_ ls k ++ [k] else heads_ ls k := by
  unfold heads_
  rw [List.range_succ, List.filter_append]
  cases h : headB ls k <;> simp [h]
theorem heads_mem {ls : List (Int × Int)} {k h : Nat} : h ∈ heads_ ls k ↔ h < k ∧ headB ls h = true := by
  unfold heads_; simp
structure CanInv (ls : List (Int × Int)) (k : Nat) (s : (Nat → Int) × Int) : Prop where
  i1 : ∀ (p h : Nat), (heads_ ls k)[p]? = some h → s.1 (clsAt ls h).toNat = (p : Int) + 1
  i2 : ∀ c : Nat, s.1 c ≠ 0 → ∃ p h : Nat, (heads_ ls k)[p]? = some h ∧ clsAt ls h = c
  i3 : s.2 = (heads_ ls k).length
  i4 : ∀ j, j < k → 0 ≤ clsAt ls j → ∃ h ∈ heads_ ls k, clsAt ls h = clsAt ls j
  i5 : clsPre (canonF ls) k = (heads_ ls k).map (fun h => grpPre ls h k)

theorem grp_skip (ls : List (Int × Int)) (h k : Nat) (_hh : headB ls h = true) (hk : h < k) (hc : clsAt ls h ≠ clsAt ls k) : grpPre ls h (k + 1) = grpPre ls h k := by
  rw [grpPre_succ ls h k (by omega), if_neg]
  unfold alikeB
  simp
  exact ⟨by omega, fun _ => hc⟩
theorem grp_take (ls : List (Int × Int)) (h k : Nat) (hh : headB ls h = true) (hk : h < k) (hc : clsAt ls h = clsAt ls k) : grpPre ls h (k + 1) = grpPre ls h k ++ [(k : Int)] := by
  rw [grpPre_succ ls h k (by omega), if_pos]
  have := ((headB_iff ls h).1 hh).1
  unfold alikeB
  simp
  right
  exact ⟨this, hc⟩

theorem canInv_zero (ls : List (Int × Int)) : CanInv ls 0 (fun _ => 0, 0) :=
  ⟨fun p h hp => by simp [heads_] at hp, fun c hc => absurd rfl hc, rfl, fun j hj => absurd hj (by omega), rfl⟩
theorem canInv_step {ls : List (Int × Int)} {k : Nat} {s : (Nat → Int) × Int} (h : CanInv ls k s) (hv : clsAt (canonF ls) k = canVal s (clsAt ls k)) :
    CanInv ls (k + 1) (canStep s (clsAt ls k)) ∧ clsAt (canonF ls) k ≤ (clsPre (canonF ls) k).length ∧ (-1 ≤ clsAt ls k → -1 ≤ clsAt (canonF ls) k) := by
  have hl5 : (clsPre (canonF ls) k).length = (heads_ ls k).length := by rw [h.i5, List.length_map]
  by_cases hneg : clsAt ls k < 0
  · have hh : headB ls k = false := by
      cases hb : headB ls k with
      | false => rfl
      | true => have := ((headB_iff ls k).1 hb).1; omega
    have hH : heads_ ls (k + 1) = heads_ ls k := by rw [heads_succ, hh]; rfl
    have hvv : clsAt (canonF ls) k = clsAt ls k := by rw [hv]; unfold canVal; rw [if_pos hneg]
    refine ⟨?_, by omega, by omega⟩
    unfold canStep
    rw [if_pos hneg]
    refine ⟨by rw [hH]; exact h.i1, by rw [hH]; exact h.i2, by rw [hH]; exact h.i3, fun j hj h0 => ?_, ?_⟩
    · rw [hH]
      refine h.i4 j ?_ h0
      rcases Nat.lt_or_ge j k with h1 | h1
      · exact h1
      · have : j = k := by omega
        subst this
        omega
    · rw [clsPre, clsStep, if_pos (by omega), h.i5, hH]
      apply List.map_congr_left
      intro a ha
      obtain ⟨h1, h2⟩ := heads_mem.1 ha
      have := ((headB_iff ls a).1 h2).1
      exact (grp_skip ls a k h2 h1 (by omega)).symm
  · obtain ⟨c, hc⟩ : ∃ c : Nat, clsAt ls k = c := ⟨(clsAt ls k).toNat, by omega⟩
    by_cases hz : s.1 c = 0
    · have hnew : ∀ j, j < k → clsAt ls j ≠ clsAt ls k := by
        intro j hj he
        obtain ⟨a, ha, hac⟩ := h.i4 j hj (by omega)
        obtain ⟨p, hp⟩ := List.getElem?_of_mem ha
        have := h.i1 p a hp
        rw [show (clsAt ls a).toNat = c by omega, hz] at this
        omega
      have hh : headB ls k = true := (headB_iff ls k).2 ⟨by omega, hnew⟩
      have hH : heads_ ls (k + 1) = heads_ ls k ++ [k] := by rw [heads_succ, hh]; rfl
      have hb : bump s.1 c s.2 = fun q => if q = c then s.2 + 1 else s.1 q := by unfold bump; rw [if_pos hz]
      have hn : nxt s.1 c s.2 = s.2 + 1 := by unfold nxt; rw [if_pos hz]
      have hvv : clsAt (canonF ls) k = s.2 := by rw [hv]; unfold canVal; rw [if_neg hneg, hc, Int.toNat_natCast, hb]; simp
      have hi3 := h.i3
      refine ⟨?_, by omega, by omega⟩
      unfold canStep
      rw [if_neg hneg, hc, Int.toNat_natCast, hb, hn]
      have hold : ∀ (p a : Nat), (heads_ ls k)[p]? = some a → (clsAt ls a).toNat ≠ c := by
        intro p a hp he
        have h1 := h.i1 p a hp
        rw [he, hz] at h1
        omega
      refine ⟨fun p a hp => ?_, fun q hq => ?_, by rw [hH]; simp; omega, fun j hj h0 => ?_, ?_⟩
      · rw [hH] at hp
        rcases Nat.lt_or_ge p (heads_ ls k).length with h1 | h1
        · rw [List.getElem?_append_left h1] at hp
          simp only
          rw [if_neg (hold p a hp)]
          exact h.i1 p a hp
        · rw [List.getElem?_append_right h1] at hp
          cases hd : p - (heads_ ls k).length with
          | zero =>
            rw [hd] at hp
            simp at hp
            subst hp
            simp only
            rw [if_pos (by omega)]
            omega
          | succ d => rw [hd] at hp; simp at hp
      · simp only at hq
        by_cases he : q = c
        · subst he
          exact ⟨(heads_ ls k).length, k, by rw [hH]; simp, by omega⟩
        · rw [if_neg he] at hq
          obtain ⟨p, a, hp, hca⟩ := h.i2 q hq
          exact ⟨p, a, by rw [hH, List.getElem?_append_left (List.getElem?_eq_some_iff.1 hp).1]; exact hp, hca⟩
      · rw [hH]
        rcases Nat.lt_or_ge j k with h1 | h1
        · obtain ⟨a, ha, hac⟩ := h.i4 j h1 h0
          exact ⟨a, List.mem_append_left _ ha, hac⟩
        · have : j = k := by omega
          subst this
          exact ⟨j, by simp, rfl⟩
      · rw [clsPre, clsStep, hvv, if_neg (by omega), if_pos (by omega), h.i5, hH, List.map_append]
        congr 1
        · apply List.map_congr_left
          intro a ha
          obtain ⟨h1, h2⟩ := heads_mem.1 ha
          exact (grp_skip ls a k h2 h1 (hnew a h1)).symm
        · have : alikeB ls k k = true := by unfold alikeB; simp
          simp [grpPre_succ ls k k (Nat.le_refl _), grpPre_start, this]
    · obtain ⟨p, a, hp, hca⟩ := h.i2 c hz
      have hs1 := h.i1 p a hp
      rw [show (clsAt ls a).toNat = c by omega] at hs1
      obtain ⟨hak, hah⟩ := heads_mem.1 (List.mem_of_getElem? hp)
      have hh : headB ls k = false := by
        cases hb : headB ls k with
        | false => rfl
        | true => exact absurd (by omega) (((headB_iff ls k).1 hb).2 a hak)
      have hH : heads_ ls (k + 1) = heads_ ls k := by rw [heads_succ, hh]; rfl
      have hb : bump s.1 c s.2 = s.1 := by unfold bump; rw [if_neg hz]
      have hn : nxt s.1 c s.2 = s.2 := by unfold nxt; rw [if_neg hz]
      have hvv : clsAt (canonF ls) k = p := by rw [hv]; unfold canVal; rw [if_neg hneg, hc, Int.toNat_natCast, hb]; omega
      have hpl : p < (heads_ ls k).length := (List.getElem?_eq_some_iff.1 hp).1
      refine ⟨?_, by omega, by omega⟩
      unfold canStep
      rw [if_neg hneg, hc, Int.toNat_natCast, hb, hn]
      refine ⟨by rw [hH]; exact h.i1, by rw [hH]; exact h.i2, by rw [hH]; exact h.i3, fun j hj h0 => ?_, ?_⟩
      · rw [hH]
        rcases Nat.lt_or_ge j k with h1 | h1
        · exact h.i4 j h1 h0
        · have : j = k := by omega
          subst this
          exact ⟨a, List.mem_of_getElem? hp, by omega⟩
      · rw [clsPre, clsStep, hvv, if_neg (by omega), if_neg (by omega), h.i5, hH, Int.toNat_natCast]
        apply List.ext_getElem?
        intro q
        rw [List.getElem?_set]
        by_cases he : p = q
        · subst he
          rw [if_pos rfl]
          simp only [List.getD_eq_getElem?_getD, List.getElem?_map, hp, List.length_map, hpl, if_true]
          simp
          exact (grp_take ls a k hah hak (by omega)).symm
        · rw [if_neg he, List.getElem?_map, List.getElem?_map]
          cases hq : (heads_ ls k)[q]? with
          | none => rfl
          | some b =>
            obtain ⟨h1, h2⟩ := heads_mem.1 (List.mem_of_getElem? hq)
            have hne : clsAt ls b ≠ clsAt ls k := by
              intro hbe
              have := h.i1 q b hq
              rw [show (clsAt ls b).toNat = c by omega, hs1] at this
              omega
            simp only [Option.map_some]
            rw [grp_skip ls b k h2 h1 hne]

theorem canInv_all (ls : List (Int × Int)) : ∀ k, k ≤ ls.length → CanInv ls k (canFold (fun _ => 0, 0) ls k) := by
  intro k
  induction k with
  | zero => intro _; cases ls <;> exact canInv_zero _
  | succ k ih =>
    intro hk
    rw [canFold_succ ls _ k (by omega)]
    exact (canInv_step (ih (by omega)) (canGo_at ls (fun _ => 0, 0) k (by omega))).1
theorem canon_fits (ls : List (Int × Int)) (hok : ∀ p ∈ ls, lineOk p = true) : ∀ k, k < ls.length → clsAt (canonF ls) k ≤ (clsPre (canonF ls) k).length ∧ -1 ≤ clsAt (canonF ls) k := by
  intro k hk
  obtain ⟨_, h1, h2⟩ := canInv_step (canInv_all ls k (by omega)) (canGo_at ls (fun _ => 0, 0) k hk)
  refine ⟨h1, h2 ?_⟩
  rw [clsAt_get hk]
  exact ((lineOk_iff _).1 (hok _ (List.getElem_mem hk))).1
theorem classes_same (ls : List (Int × Int)) : clsPre (canonF ls) ls.length = refPre ls ls.length := (canInv_all ls ls.length (Nat.le_refl _)).i5
end Go.Proofs.Ytbjfbmienlojkaa

namespace Go.Proofs.Ytbjfbmienlojkaa
open Go.RowKit

theorem prs_set2 (l : List (Int × Int)) (k : Nat) (x y : Int) (h : k < l.length) : ((prs l).set (k * 2) (.int .i64 x)).set (k * 2 + 1) (.int .i64 y) = prs (l.set k (x, y)) := by
  induction l generalizing k with
  | nil => simp at h
  | cons a l ih =>
    rcases k with _ | k
    · simp [prs]
    · have := ih k (by simpa using h)
      simp only [prs, List.flatMap_cons] at this ⊢
      rw [show (k + 1) * 2 = k * 2 + 2 by omega]
      simpa using this
theorem own_two {w : World} {base : Nat} {e : TypeId} {g c n : Nat} {l : List (Int × Int)} (h : w.ownsRow base e 2 (.slice (some ⟨g, 0, none⟩) n c) n (prs l)) {k : Nat} (hk : k < n) :
    ∃ hl : k < l.length, w.cell? ⟨g, k * 2, none⟩ = some (.int .i64 l[k].1) ∧ w.cell? ⟨g, k * 2 + 1, none⟩ = some (.int .i64 l[k].2) ∧ w.frozen? ⟨g, k * 2, none⟩ = false ∧ w.frozen? ⟨g, k * 2 + 1, none⟩ = false := by
  obtain ⟨b, o, hl, hA, _, _, h1, h2⟩ := (own_rd h).two hk
  injection hA with hA
  injection hA with hA1 hA2
  subst hA1 hA2
  simp only [Nat.zero_add] at h1 h2
  exact ⟨hl, h1, h2, (own_at h (by omega)).2, (own_at h (by omega)).2⟩
theorem own_one {w : World} {base : Nat} {e : TypeId} {g c n : Nat} {l : List Int} (h : w.ownsRow base e 1 (.slice (some ⟨g, 0, none⟩) n c) n (l.map (Value.int .i64))) {k : Nat} (hk : k < n) :
    ∃ hl : k < l.length, w.cell? ⟨g, k, none⟩ = some (.int .i64 l[k]) ∧ w.frozen? ⟨g, k, none⟩ = false := by
  obtain ⟨b, o, hl, hA, _, _, h1⟩ := (own_rd h).one hk
  injection hA with hA
  injection hA with hA1 hA2
  subst hA1 hA2
  simp only [Nat.zero_add] at h1
  exact ⟨hl, h1, (own_at h (by omega)).2⟩

/-- after k exchanges -/
def RevAt {α : Type} (l cur : List α) (k : Nat) : Prop := cur.length = l.length ∧ ∀ q, q < l.length → cur[q]? = if q < k ∨ l.length < q + k + 1 then l[l.length - 1 - q]? else l[q]?
theorem revAt_zero {α : Type} (l : List α) : RevAt l l 0 := ⟨rfl, fun q hq => by rw [if_neg (by omega)]⟩
theorem revAt_end {α : Type} {l cur : List α} {k j : Nat} (h : RevAt l cur k) (hj : j + k + 1 = l.length) (hkj : j ≤ k) : cur = l.reverse := by
  apply List.ext_getElem?
  intro q
  rcases Nat.lt_or_ge q l.length with hq | hq
  · rw [h.2 q hq, List.getElem?_reverse hq]
    split
    · rfl
    · rw [show l.length - 1 - q = q by omega]
  · rw [List.getElem?_eq_none (by rw [h.1]; exact hq), List.getElem?_eq_none (by simpa using hq)]
theorem revAt_step {α : Type} {l cur : List α} {k j : Nat} (h : RevAt l cur k) (hj : j + k + 1 = l.length) (hkj : k < j) (x y : α) (hx : cur[k]? = some x) (hy : cur[j]? = some y) : RevAt l ((cur.set k y).set j x) (k + 1) := by
  have h1 := h.1
  refine ⟨by simpa using h1, fun q hq => ?_⟩
  have hk := h.2 k (by omega)
  have hjj := h.2 j (by omega)
  rw [if_neg (by omega)] at hk hjj
  rw [List.getElem?_set, List.getElem?_set]
  by_cases e1 : j = q
  · subst e1
    rw [if_pos rfl, if_pos (by rw [List.length_set]; omega), if_pos (by omega), show l.length - 1 - j = k by omega, ← hk, hx]
  · rw [if_neg e1]
    by_cases e2 : k = q
    · subst e2
      rw [if_pos rfl, if_pos (by omega), if_pos (by omega), show l.length - 1 - k = j by omega, ← hjj, hy]
    · rw [if_neg e2, h.2 q hq]
      by_cases e3 : q < k ∨ l.length < q + k + 1
      · rw [if_pos e3, if_pos (by omega)]
      · rw [if_neg e3, if_neg (by omega)]

set_option maxHeartbeats 1000000 in
theorem revP_any (base : Nat) (A : Option Addr) (n c : Nat) (ls : List (Int × Int)) (w : World) (h : w.ownsRow base 66 2 (.slice A n c) n (prs ls)) (hn : n ≤ 100000) :
    Calls Try.prog 67 #[.slice A n c] w fun e w' => e = .returned (.tuple #[]) ∧ w'.ownsRow base 66 2 (.slice A n c) n (prs ls.reverse) ∧ Only (fun k => (Value.slice A n c).ownBlock = some k) w w' := by
  have hl : ls.length = n := by have := h.1; rw [prs_len] at this; omega
  have H := Lib.hid h
  have HL := Lib.hid hl
  clear h hl
  by_cases h0 : n = 0
  · subst h0
    have hl0 : ls = [] := List.eq_nil_of_length_eq_zero HL.out
    go_enter Try.func67, Try.ntmps67
    go_wp2
    refine wp_loop_rounds 1 ?_
    rw [rounds_succ]
    go_wp2
    refine bodyPost_end (results_none rfl _ _ _) rfl ?_
    exact ⟨rfl, by subst hl0; exact H.out, Only.refl _ _⟩
  · obtain ⟨g, rfl⟩ : ∃ g, A = some ⟨g, 0, none⟩ := by
      rcases H.out.2 with ⟨_, h1⟩ | ⟨g, cap, cur, hv, _⟩
      · omega
      · injection hv with hv
        exact ⟨g, hv⟩
    go_enter Try.func67, Try.ntmps67
    go_wp2
    go_loopw [2, 3] (fun v2 v3 wr => ∃ k j : Nat, v2 = .int .i64 k ∧ v3 = .int .i64 j ∧ j + k + 1 = n ∧ Hid (∃ cur, RevAt ls cur k ∧ wr.ownsRow base 66 2 (.slice (some ⟨g, 0, none⟩) n c) n (prs cur) ∧ Only (fun k => (Value.slice (some ⟨g, 0, none⟩) n c).ownBlock = some k) w wr)) (fun v _ _ => n - (intOf v).toNat)
    case atStart => exact ⟨0, n - 1, rfl, by simp; omega, by omega, Lib.hid ⟨ls, revAt_zero ls, H.out, Only.refl _ _⟩⟩
    case round =>
      obtain ⟨k, j, rfl, rfl, hjk, HH⟩ := hrel
      obtain ⟨cur, hR, hO, hB⟩ := HH.out
      clear HH
      have HJ := Lib.hid hjk
      have j1 : k ≤ 100000 := by omega
      have j2 : j ≤ 100000 := by omega
      have j3 : k < n := by omega
      have j4 : j < n := by omega
      clear hjk
      by_cases hlt : k < j
      · obtain ⟨hk1, a1, a2, f1, f2⟩ := own_two hO (k := k) (by omega)
        obtain ⟨hk2, a3, a4, f3, f4⟩ := own_two hO (k := j) (by omega)
        have hs := revAt_step hR (j := j) (by rw [HJ.out, HL.out]) hlt cur[k] cur[j] (List.getElem?_eq_getElem hk1) (List.getElem?_eq_getElem hk2)
        have hx := prs_set2 cur k cur[j].1 cur[j].2 hk1
        have hy := prs_set2 (cur.set k cur[j]) j cur[k].1 cur[k].2 (by simpa using hk2)
        generalize cur[k] = x at *
        generalize cur[j] = y at *
        obtain ⟨x1, x2⟩ := x
        obtain ⟨y1, y2⟩ := y
        simp only at a1 a2 a3 a4 hx hy
        have HN := Lib.hid (And.intro hs (And.intro hx (And.intro hy (And.intro hO hB))))
        clear hs hx hy hR hO hB
        have i1 : (0 : Int) ≤ (k : Int) := by omega
        have i2 : (k : Int) < (n : Int) := by omega
        have i3 : (0 : Int) ≤ (j : Int) := by omega
        have i4 : (j : Int) < (n : Int) := by omega
        go_wp2
        go_region
        go_wp2
        go_roundw
        case rel =>
          refine ⟨k + 1, j - 1, by go_num, by rw [show ((j : Int) - 1) = ((j - 1 : Nat) : Int) by omega], by have := HJ.out; omega, Lib.hid ⟨_, HN.out.1, ?_, ?_⟩⟩
          · rw [← HN.out.2.2.1, ← HN.out.2.1]
            exact own_set (own_set (own_set (own_set HN.out.2.2.2.1 _ _) _ _) _ _) _ _
          · exact ((((HN.out.2.2.2.2.setCell (p := ⟨g, k * 2, none⟩) (.inl rfl) _).setCell (p := ⟨g, k * 2 + 1, none⟩) (.inl rfl) _).setCell (p := ⟨g, j * 2, none⟩) (.inl rfl) _).setCell (p := ⟨g, j * 2 + 1, none⟩) (.inl rfl) _).drew
        case measure => simp [intOf]; omega
      · go_wp2
        refine bodyPost_end (results_none rfl _ _ _) rfl ?_
        exact ⟨rfl, by rw [revAt_end hR (j := j) (by rw [HJ.out, HL.out]) (by omega)] at hO; exact hO, hB⟩
set_option maxHeartbeats 1000000 in
theorem revI_any (base : Nat) (A : Option Addr) (n c : Nat) (ls : List Int) (w : World) (h : w.ownsRow base 3 1 (.slice A n c) n (ls.map (Value.int .i64))) (hn : n ≤ 100000) :
    Calls Try.prog 68 #[.slice A n c] w fun e w' => e = .returned (.tuple #[]) ∧ w'.ownsRow base 3 1 (.slice A n c) n (ls.reverse.map (Value.int .i64)) ∧ Only (fun k => (Value.slice A n c).ownBlock = some k) w w' := by
  have hl : ls.length = n := by have := h.1; simpa using this
  have H := Lib.hid h
  have HL := Lib.hid hl
  clear h hl
  by_cases h0 : n = 0
  · subst h0
    have hl0 : ls = [] := List.eq_nil_of_length_eq_zero HL.out
    go_enter Try.func68, Try.ntmps68
    go_wp2
    refine wp_loop_rounds 1 ?_
    rw [rounds_succ]
    go_wp2
    refine bodyPost_end (results_none rfl _ _ _) rfl ?_
    exact ⟨rfl, by subst hl0; exact H.out, Only.refl _ _⟩
  · obtain ⟨g, rfl⟩ : ∃ g, A = some ⟨g, 0, none⟩ := by
      rcases H.out.2 with ⟨_, h1⟩ | ⟨g, cap, cur, hv, _⟩
      · omega
      · injection hv with hv
        exact ⟨g, hv⟩
    go_enter Try.func68, Try.ntmps68
    go_wp2
    go_loopw [2, 3] (fun v2 v3 wr => ∃ k j : Nat, v2 = .int .i64 k ∧ v3 = .int .i64 j ∧ j + k + 1 = n ∧ Hid (∃ cur, RevAt ls cur k ∧ wr.ownsRow base 3 1 (.slice (some ⟨g, 0, none⟩) n c) n (cur.map (Value.int .i64)) ∧ Only (fun k => (Value.slice (some ⟨g, 0, none⟩) n c).ownBlock = some k) w wr)) (fun v _ _ => n - (intOf v).toNat)
    case atStart => exact ⟨0, n - 1, rfl, by simp; omega, by omega, Lib.hid ⟨ls, revAt_zero ls, H.out, Only.refl _ _⟩⟩
    case round =>
      obtain ⟨k, j, rfl, rfl, hjk, HH⟩ := hrel
      obtain ⟨cur, hR, hO, hB⟩ := HH.out
      clear HH
      have HJ := Lib.hid hjk
      have j1 : k ≤ 100000 := by omega
      have j2 : j ≤ 100000 := by omega
      have j3 : k < n := by omega
      have j4 : j < n := by omega
      clear hjk
      by_cases hlt : k < j
      · obtain ⟨hk1, a1, f1⟩ := own_one hO (k := k) (by omega)
        obtain ⟨hk2, a3, f3⟩ := own_one hO (k := j) (by omega)
        have hs := revAt_step hR (j := j) (by rw [HJ.out, HL.out]) hlt cur[k] cur[j] (List.getElem?_eq_getElem hk1) (List.getElem?_eq_getElem hk2)
        have hx : ((cur.map (Value.int .i64)).set k (.int .i64 cur[j])).set j (.int .i64 cur[k]) = ((cur.set k cur[j]).set j cur[k]).map (Value.int .i64) := by rw [List.map_set, List.map_set]
        generalize cur[k] = x at *
        generalize cur[j] = y at *
        have HN := Lib.hid (And.intro hs (And.intro hx (And.intro hO hB)))
        clear hs hx hR hO hB
        have i1 : (0 : Int) ≤ (k : Int) := by omega
        have i2 : (k : Int) < (n : Int) := by omega
        have i3 : (0 : Int) ≤ (j : Int) := by omega
        have i4 : (j : Int) < (n : Int) := by omega
        go_wp2
        go_region
        go_wp2
        go_roundw
        case rel =>
          refine ⟨k + 1, j - 1, by go_num, by rw [show ((j : Int) - 1) = ((j - 1 : Nat) : Int) by omega], by have := HJ.out; omega, Lib.hid ⟨_, HN.out.1, ?_, ?_⟩⟩
          · rw [← HN.out.2.1]
            exact own_set (own_set HN.out.2.2.1 _ _) _ _
          · exact ((HN.out.2.2.2.setCell (p := ⟨g, k, none⟩) (.inl rfl) _).setCell (p := ⟨g, j, none⟩) (.inl rfl) _).drew
        case measure => simp [intOf]; omega
      · go_wp2
        refine bodyPost_end (results_none rfl _ _ _) rfl ?_
        exact ⟨rfl, by rw [revAt_end hR (j := j) (by rw [HJ.out, HL.out]) (by omega)] at hO; exact hO, hB⟩
end Go.Proofs.Ytbjfbmienlojkaa

namespace Go.Proofs.Ytbjfbmienlojkaa
open Go.RowKit

set_option maxHeartbeats 2000000 in
set_option maxRecDepth 100000 in
theorem turn_bad (A1 A2 : Option Addr) (n1 c1 n2 c2 L1 L2 : Nat) (ls : List (Int × Int)) (st : List Int) (w : World)
    (h1 : Rd w L1 w.heap.size 2 A1 n1 (prs ls)) (h2 : Rd w L2 w.heap.size 1 A2 n2 (st.map (Value.int .i64))) (hn2 : n2 ≤ maxLen) (hn1 : n1 ≤ maxLen) (hm : may ls st = false) :
    Calls Try.prog 28 #[.agg #[.slice A1 n1 c1, .slice A2 n2 c2]] w fun e w' => e = .returned (.tuple #[.agg #[.slice none 0 0, .slice none 0 0], .int .i64 2]) ∧ Below w.heap.size w w' := by
  have H1 := Lib.hid h1
  have H2 := Lib.hid h2
  have HM := Lib.hid hm
  clear h1 h2 hm
  go_enter Try.func28, Try.ntmps28
  go_upto_region 1 with (fail)
  refine wp_abs (fun wx => Blk wx w.heap.size 26 #[.slice A1 n1 c1, .slice A2 n2 c2] ∧ Blk wx (w.heap.size + 1) 26 #[.slice none 0 0, .slice none 0 0] ∧ Below w.heap.size w wx) ⟨(Blk.new _ _ _).alloc _, by simpa using Blk.new (w.alloc (.cells #[.slice A1 n1 c1, .slice A2 n2 c2] 26)) 26 #[.slice none 0 0, .slice none 0 0], ((Below.refl _ _).alloc (Nat.le_refl _) _).alloc (by simp) _⟩ ?_
  rintro wx ⟨k0, k1, hb⟩
  have c00 : wx.cell? ⟨w.heap.size, 0, none⟩ = some (.slice A1 n1 c1) := k0.cell 0
  have c01 : wx.cell? ⟨w.heap.size, 1, none⟩ = some (.slice A2 n2 c2) := k0.cell 1
  have HK := Lib.hid (And.intro k0 (And.intro k1 hb))
  clear k0 k1 hb
  go_wp2_with fail
  refine (check_any A1 A2 n1 c1 n2 c2 L1 L2 ls st wx (H1.out.up HK.out.2.2 HK.out.2.2.size) (H2.out.up HK.out.2.2 HK.out.2.2.size) hn2 hn1).mono ?_
  rintro e w1 ⟨rfl, hb1⟩
  have HA := Lib.hid (show Blk w1 (w.heap.size + 1) 26 #[.slice none 0 0, .slice none 0 0] ∧ Below w.heap.size w w1 from ⟨HK.out.2.1.below hb1 HK.out.2.1.lt, HK.out.2.2.trans (hb1.mono HK.out.2.2.size)⟩)
  have e0 : w1.cell? ⟨w.heap.size + 1, 0, none⟩ = some (.slice none 0 0) := HA.out.1.cell 0
  have e1 : w1.cell? ⟨w.heap.size + 1, 1, none⟩ = some (.slice none 0 0) := HA.out.1.cell 1
  have f0 : w1.frozen? ⟨w.heap.size + 1, 0, none⟩ = false := HA.out.1.frozen 0
  have f1 : w1.frozen? ⟨w.heap.size + 1, 1, none⟩ = false := HA.out.1.frozen 1
  rw [HM.out]
  clear hb1
  show _
  simp only [errOf]
  go_wp2
  have HF := (HA.out.1.set_ 0 (.slice none 0 0)).set_ 1 (.slice none 0 0)
  have g0 := HF.cell 0
  have g1 := HF.cell 1
  simp at g0 g1
  exact bodyPost_ret (v := .tuple #[.agg #[.slice none 0 0, .slice none 0 0], .int .i64 2]) (by simp [results, Try.results28, go_sem, g0, g1]) rfl ⟨rfl, (HA.out.2.setCell (by simp) _).setCell (by simp) _⟩

/-- memory while Turn runs behind the copying -/
structure TurnSt (w0 : World) (q2 q5 : Nat) (v1 v2 : Value) (n m : Nat) (cur : List (Int × Int)) (st : List Int) (w : World) : Prop where
  b2 : Blk w (w0.heap.size + 1) 26 #[.slice none 0 0, .slice none 0 0]
  b5 : Blk w q5 26 #[v1, v2]
  o1 : w.ownsRow q2 66 2 v1 n (prs cur)
  o2 : w.ownsRow q2 3 1 v2 m (st.map (Value.int .i64))
  u1 : ∀ k, v1.ownBlock = some k → k < q5
  u2 : ∀ k, v2.ownBlock = some k → k < q5
  s1 : w0.heap.size + 2 ≤ q2
  below : Below w0.heap.size w0 w

theorem TurnSt.turn1 {w0 : World} {q2 q5 : Nat} {v1 v2 : Value} {n m : Nat} {cur cur' : List (Int × Int)} {st : List Int} {w w' : World} (h : TurnSt w0 q2 q5 v1 v2 n m cur st w)
    (ho : w'.ownsRow q2 66 2 v1 n (prs cur')) (hO : Only (fun k => v1.ownBlock = some k) w w') : TurnSt w0 q2 q5 v1 v2 n m cur' st w' := by
  have hs := h.s1
  refine ⟨h.b2.only hO (fun hk => ?_), h.b5.only hO (fun hk => absurd (h.u1 _ hk) (Nat.lt_irrefl _)), ho, own_keep h.o2 (own_ne h.o2 h.o1 (by decide)) hO, h.u1, h.u2, hs, h.below.trans (hO.below h.below.size (fun k hk hh => ?_))⟩
  · have := (h.o1.lt _ hk).1; omega
  · have := (h.o1.lt _ hh).1; omega
theorem TurnSt.turn2 {w0 : World} {q2 q5 : Nat} {v1 v2 : Value} {n m : Nat} {cur : List (Int × Int)} {st st' : List Int} {w w' : World} (h : TurnSt w0 q2 q5 v1 v2 n m cur st w)
    (ho : w'.ownsRow q2 3 1 v2 m (st'.map (Value.int .i64))) (hO : Only (fun k => v2.ownBlock = some k) w w') : TurnSt w0 q2 q5 v1 v2 n m cur st' w' := by
  have hs := h.s1
  refine ⟨h.b2.only hO (fun hk => ?_), h.b5.only hO (fun hk => absurd (h.u2 _ hk) (Nat.lt_irrefl _)), own_keep h.o1 (own_ne h.o1 h.o2 (by decide)) hO, ho, h.u1, h.u2, hs, h.below.trans (hO.below h.below.size (fun k hk hh => ?_))⟩
  · have := (h.o2.lt _ hk).1; omega
  · have := (h.o2.lt _ hh).1; omega

set_option maxHeartbeats 4000000 in
set_option maxRecDepth 100000 in
theorem turn_ok (A1 A2 : Option Addr) (c1 c2 L1 L2 : Nat) (ls : List (Int × Int)) (st : List Int) (w : World)
    (h1 : Rd w L1 w.heap.size 2 A1 ls.length (prs ls)) (h2 : Rd w L2 w.heap.size 1 A2 st.length (st.map (Value.int .i64))) (hm : may ls st = true) :
    Calls Try.prog 28 #[.agg #[.slice A1 ls.length c1, .slice A2 st.length c2]] w fun e w' => ∃ B1 d1 B2 d2, e = .returned (.tuple #[.agg #[.slice B1 ls.length d1, .slice B2 st.length d2], .int .i64 0]) ∧
      w'.ownsRow w.heap.size 66 2 (.slice B1 ls.length d1) ls.length (prs ls.reverse) ∧ w'.ownsRow w.heap.size 3 1 (.slice B2 st.length d2) st.length (st.reverse.map (Value.int .i64)) ∧ Below w.heap.size w w' := by
  have n1 := mayLen hm
  have n2 := mayStan hm
  have H1 := Lib.hid h1
  have H2 := Lib.hid h2
  have HM := Lib.hid hm
  clear h1 h2 hm
  go_enter Try.func28, Try.ntmps28
  go_upto_region 1 with (fail)
  refine wp_abs (fun wx => Blk wx w.heap.size 26 #[.slice A1 ls.length c1, .slice A2 st.length c2] ∧ Blk wx (w.heap.size + 1) 26 #[.slice none 0 0, .slice none 0 0] ∧ Below w.heap.size w wx) ⟨(Blk.new _ _ _).alloc _, by simpa using Blk.new (w.alloc (.cells #[.slice A1 ls.length c1, .slice A2 st.length c2] 26)) 26 #[.slice none 0 0, .slice none 0 0], ((Below.refl _ _).alloc (Nat.le_refl _) _).alloc (by simp) _⟩ ?_
  rintro wx ⟨k0, k1, hb⟩
  have c00 : wx.cell? ⟨w.heap.size, 0, none⟩ = some (.slice A1 ls.length c1) := k0.cell 0
  have c01 : wx.cell? ⟨w.heap.size, 1, none⟩ = some (.slice A2 st.length c2) := k0.cell 1
  have HK := Lib.hid (And.intro k0 (And.intro k1 hb))
  clear k0 k1 hb
  go_wp2_with fail
  refine (check_any A1 A2 ls.length c1 st.length c2 L1 L2 ls st wx (H1.out.up HK.out.2.2 HK.out.2.2.size) (H2.out.up HK.out.2.2 HK.out.2.2.size) (by unfold maxLen; omega) (by unfold maxLen; omega)).mono ?_
  rintro e w1 ⟨rfl, hb1⟩
  have HA := Lib.hid (show Blk w1 w.heap.size 26 #[.slice A1 ls.length c1, .slice A2 st.length c2] ∧ Blk w1 (w.heap.size + 1) 26 #[.slice none 0 0, .slice none 0 0] ∧ Below w.heap.size w w1 from ⟨HK.out.1.below hb1 HK.out.1.lt, HK.out.2.1.below hb1 HK.out.2.1.lt, HK.out.2.2.trans (hb1.mono HK.out.2.2.size)⟩)
  clear hb1 HK c00 c01
  have c00 : w1.cell? ⟨w.heap.size, 0, none⟩ = some (.slice A1 ls.length c1) := HA.out.1.cell 0
  have c01 : w1.cell? ⟨w.heap.size, 1, none⟩ = some (.slice A2 st.length c2) := HA.out.1.cell 1
  rw [HM.out]
  simp only [errOf]
  go_wp2_with fail
  refine (copied_any A1 A2 ls.length c1 st.length c2 L1 L2 ls st w1 (H1.out.up HA.out.2.2 HA.out.2.2.size) (H2.out.up HA.out.2.2 HA.out.2.2.size) (by omega) (by omega)).mono ?_
  rintro e w2 ⟨B1, d1, B2, d2, rfl, o1, o2, hb2⟩
  have zz := HA.out.2.1.lt
  have HB := Lib.hid (show Blk w2 (w.heap.size + 1) 26 #[.slice none 0 0, .slice none 0 0] ∧ Below w.heap.size w w2 ∧ w1.heap.size ≤ w2.heap.size ∧ w2.ownsRow w1.heap.size 66 2 (.slice B1 ls.length d1) ls.length (prs ls) ∧ w2.ownsRow w1.heap.size 3 1 (.slice B2 st.length d2) st.length (st.map (Value.int .i64)) from
    ⟨HA.out.2.1.below hb2 HA.out.2.1.lt, HA.out.2.2.trans (hb2.mono HA.out.2.2.size), hb2.size, o1, o2⟩)
  clear hb2 o1 o2 c00 c01
  go_upto_region 5 with (fail)
  refine wp_abs (TurnSt w w1.heap.size w2.heap.size (.slice B1 ls.length d1) (.slice B2 st.length d2) ls.length st.length ls st) ⟨HB.out.1.alloc _, Blk.new _ _ _, HB.out.2.2.2.1.alloc _, HB.out.2.2.2.2.alloc _, fun k hk => (HB.out.2.2.2.1.lt k hk).2, fun k hk => (HB.out.2.2.2.2.lt k hk).2, by omega, HB.out.2.1.alloc HB.out.2.1.size _⟩ ?_
  intro w3 hC
  have c00 : w3.cell? ⟨w2.heap.size, 0, none⟩ = some (.slice B1 ls.length d1) := hC.b5.cell 0
  have HC := Lib.hid hC
  clear hC HB
  go_wp2_with fail
  refine (revP_any _ B1 ls.length d1 ls w3 HC.out.o1 (by omega)).mono ?_
  rintro e w4 ⟨rfl, o1, hO⟩
  have HD := Lib.hid (HC.out.turn1 o1 hO)
  clear c00 o1 hO HC
  have c01 : w4.cell? ⟨w2.heap.size, 1, none⟩ = some (.slice B2 st.length d2) := HD.out.b5.cell 1
  go_wp2_with fail
  refine (revI_any _ B2 st.length d2 st w4 HD.out.o2 (by omega)).mono ?_
  rintro e w5 ⟨rfl, o2, hO⟩
  have HE := Lib.hid (HD.out.turn2 o2 hO)
  clear c01 o2 hO HD
  have c00 : w5.cell? ⟨w2.heap.size, 0, none⟩ = some (.slice B1 ls.length d1) := HE.out.b5.cell 0
  have c01 : w5.cell? ⟨w2.heap.size, 1, none⟩ = some (.slice B2 st.length d2) := HE.out.b5.cell 1
  have e0 : w5.cell? ⟨w.heap.size + 1, 0, none⟩ = some (.slice none 0 0) := HE.out.b2.cell 0
  have e1 : w5.cell? ⟨w.heap.size + 1, 1, none⟩ = some (.slice none 0 0) := HE.out.b2.cell 1
  have f0 : w5.frozen? ⟨w.heap.size + 1, 0, none⟩ = false := HE.out.b2.frozen 0
  have f1 : w5.frozen? ⟨w.heap.size + 1, 1, none⟩ = false := HE.out.b2.frozen 1
  go_wp2
  have HF := (HE.out.b2.set_ 0 (.slice B1 ls.length d1)).set_ 1 (.slice B2 st.length d2)
  have g0 := HF.cell 0
  have g1 := HF.cell 1
  simp at g0 g1
  refine bodyPost_ret (v := .tuple #[.agg #[.slice B1 ls.length d1, .slice B2 st.length d2], .int .i64 0]) (by simp [results, Try.results28, go_sem, g0, g1]) rfl ?_
  have h5 := HE.out.s1
  exact ⟨B1, d1, B2, d2, rfl, own_more (own_setCell (own_setCell HE.out.o1 (by simp; omega) _) (by simp; omega) _) (by omega), own_more (own_setCell (own_setCell HE.out.o2 (by simp; omega) _) (by simp; omega) _) (by omega), (HE.out.below.setCell (by simp) _).setCell (by simp) _⟩
end Go.Proofs.Ytbjfbmienlojkaa
