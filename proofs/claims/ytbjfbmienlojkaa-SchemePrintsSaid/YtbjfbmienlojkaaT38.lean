/- The reference's Turn: the walk. -/
import Derived.Test.YtbjfbmienlojkaaT37
namespace Go.Proofs.Ytbjfbmienlojkaa
open Go.RowKit

/-- the first k places hold the last k, from the end on -/
def TrnAt {α : Type} (l cur : List α) (k : Nat) : Prop := cur.length = l.length ∧ ∀ q, q < l.length → cur[q]? = if q < k then l[l.length - 1 - q]? else l[q]?
theorem trnAt_zero {α : Type} (l : List α) : TrnAt l l 0 := ⟨rfl, fun q hq => by rw [if_neg (by omega)]⟩
theorem trnAt_end {α : Type} {l cur : List α} {k : Nat} (h : TrnAt l cur k) (hk : l.length ≤ k) : cur = l.reverse := by
  apply List.ext_getElem?
  intro q
  rcases Nat.lt_or_ge q l.length with hq | hq
  · rw [h.2 q hq, List.getElem?_reverse hq, if_pos (by omega)]
  · rw [List.getElem?_eq_none (by rw [h.1]; exact hq), List.getElem?_eq_none (by simpa using hq)]
theorem trnAt_step {α : Type} {l cur : List α} {k : Nat} (h : TrnAt l cur k) (hk : k < l.length) (x : α) (hx : l[l.length - 1 - k]? = some x) : TrnAt l (cur.set k x) (k + 1) := by
  refine ⟨by simpa using h.1, fun q hq => ?_⟩
  rw [List.getElem?_set]
  by_cases e1 : k = q
  · subst e1
    rw [if_pos rfl, if_pos (by rw [h.1]; exact hk), if_pos (by omega), hx]
  · rw [if_neg e1, h.2 q hq]
    by_cases e2 : q < k
    · rw [if_pos e2, if_pos (by omega)]
    · rw [if_neg e2, if_neg (by omega)]

set_option maxHeartbeats 4000000 in
set_option maxRecDepth 100000 in
theorem refTurn_any (A1 A2 : Option Addr) (n1 c1 n2 c2 L1 L2 : Nat) (ls : List (Int × Int)) (st : List Int) (w : World)
    (h1 : Rd w L1 w.heap.size 2 A1 n1 (prs ls)) (h2 : Rd w L2 w.heap.size 1 A2 n2 (st.map (Value.int .i64))) (hn1 : n1 ≤ 100000) (hn2 : n2 ≤ 100000) :
    Calls Try.prog 31 #[.agg #[.slice A1 n1 c1, .slice A2 n2 c2]] w fun e w' => ∃ B1 d1 B2 d2, e = .returned (.agg #[.slice B1 n1 d1, .slice B2 n2 d2]) ∧
      w'.ownsRow w.heap.size 66 2 (.slice B1 n1 d1) n1 (prs ls.reverse) ∧ w'.ownsRow w.heap.size 3 1 (.slice B2 n2 d2) n2 (st.reverse.map (Value.int .i64)) ∧ Below w.heap.size w w' := by
  have hln : ls.length = n1 := by have := h1.1; rw [prs_len] at this; omega
  have hsn : st.length = n2 := by have := h2.1; simpa using this
  have HLN := Lib.hid hln
  have HSN := Lib.hid hsn
  have H1 := Lib.hid h1
  have H2 := Lib.hid h2
  clear h1 h2 hln hsn
  go_enter Try.func31, Try.ntmps31
  go_upto_region 1 with (fail)
  refine wp_abs (fun wx => Blk wx w.heap.size 26 #[.slice A1 n1 c1, .slice A2 n2 c2] ∧ Blk wx (w.heap.size + 1) 26 #[.slice none 0 0, .slice none 0 0] ∧ Below w.heap.size w wx) ⟨(Blk.new _ _ _).alloc _, by simpa using Blk.new (w.alloc (.cells #[.slice A1 n1 c1, .slice A2 n2 c2] 26)) 26 #[.slice none 0 0, .slice none 0 0], ((Below.refl _ _).alloc (Nat.le_refl _) _).alloc (by simp) _⟩ ?_
  rintro w1 ⟨k0, k1, hb⟩
  have c00 : w1.cell? ⟨w.heap.size, 0, none⟩ = some (.slice A1 n1 c1) := k0.cell 0
  have c01 : w1.cell? ⟨w.heap.size, 1, none⟩ = some (.slice A2 n2 c2) := k0.cell 1
  have HA := Lib.hid (And.intro k0 (And.intro k1 hb))
  clear k0 k1 hb
  go_wp2_with fail
  refine (refCopy_any A1 A2 n1 c1 n2 c2 L1 L2 ls st w1 (H1.out.up HA.out.2.2 HA.out.2.2.size) (H2.out.up HA.out.2.2 HA.out.2.2.size) hn1 hn2).mono ?_
  rintro e w2 ⟨B1, d1, B2, d2, rfl, o1, o2, hb2⟩
  have zz := HA.out.2.1.lt
  have HB := Lib.hid (show Blk w2 w.heap.size 26 #[.slice A1 n1 c1, .slice A2 n2 c2] ∧ Blk w2 (w.heap.size + 1) 26 #[.slice none 0 0, .slice none 0 0] ∧ Below w.heap.size w w2 ∧ w2.ownsRow w1.heap.size 66 2 (.slice B1 n1 d1) n1 (prs ls) ∧ w2.ownsRow w1.heap.size 3 1 (.slice B2 n2 d2) n2 (st.map (Value.int .i64)) from
    ⟨HA.out.1.below hb2 HA.out.1.lt, HA.out.2.1.below hb2 HA.out.2.1.lt, HA.out.2.2.trans (hb2.mono HA.out.2.2.size), o1, o2⟩)
  clear hb2 o1 o2 c00 c01
  go_upto_region 2 with (fail)
  refine wp_abs (RtSt w (.slice A1 n1 c1) (.slice A2 n2 c2) w1.heap.size w2.heap.size (.slice B1 n1 d1) (.slice B2 n2 d2) n1 n2 ls st) ⟨HB.out.1.alloc _, HB.out.2.1.alloc _, Blk.new _ _ _, HB.out.2.2.2.1.alloc _, HB.out.2.2.2.2.alloc _, fun k hk => (HB.out.2.2.2.1.lt k hk).2, fun k hk => (HB.out.2.2.2.2.lt k hk).2, by omega, HB.out.2.2.1.alloc HB.out.2.2.1.size _⟩ ?_
  intro w3 hC
  have c00 : w3.cell? ⟨w.heap.size, 0, none⟩ = some (.slice A1 n1 c1) := hC.b1.cell 0
  have HC := Lib.hid hC
  clear hC HB HA
  go_wp2
  clear c00
  go_loopw [11] (fun iv wr => ∃ (i : Nat), i ≤ n1 ∧ iv = .int .i64 i ∧ Hid (∃ cur, TrnAt ls cur i ∧ RtSt w (.slice A1 n1 c1) (.slice A2 n2 c2) w1.heap.size w2.heap.size (.slice B1 n1 d1) (.slice B2 n2 d2) n1 n2 cur st wr)) (fun iv _ => n1 - (intOf iv).toNat)
  case atStart => exact ⟨0, by omega, rfl, Lib.hid ⟨ls, trnAt_zero ls, HC.out⟩⟩
  case round =>
    obtain ⟨i, hi, rfl, HS⟩ := hrel
    clear HC
    by_cases hlt : i < n1
    · obtain ⟨cur, hT, hS⟩ := HS.out
      have hrd := H1.out.up hS.t.below hS.t.below.size
      obtain ⟨b, o, hl, rfl, hL, hB, p1, p2⟩ := hrd.two (k := n1 - 1 - i) (by omega)
      have hst := trnAt_step hT (by rw [HLN.out]; exact hlt) ls[n1 - 1 - i] (by rw [HLN.out]; exact List.getElem?_eq_getElem hl)
      generalize ls[n1 - 1 - i] = x at p1 p2 hst
      obtain ⟨c, r⟩ := x
      simp only at p1 p2
      obtain ⟨g, rfl⟩ := hS.form (by omega)
      obtain ⟨hk1, q1, q2, f1, f2⟩ := own_two hS.t.o1 (k := i) hlt
      have c00 : wr.cell? ⟨w.heap.size, 0, none⟩ = some (.slice (some ⟨b, o, none⟩) n1 c1) := hS.b1.cell 0
      have d00 : wr.cell? ⟨w2.heap.size, 0, none⟩ = some (.slice (some ⟨g, 0, none⟩) n1 d1) := hS.t.b5.cell 0
      have hns : RtSt w (.slice (some ⟨b, o, none⟩) n1 c1) (.slice A2 n2 c2) w1.heap.size w2.heap.size (.slice (some ⟨g, 0, none⟩) n1 d1) (.slice B2 n2 d2) n1 n2 (cur.set i (c, r)) st ((wr.setCell ⟨g, i * 2, none⟩ (.int .i64 c)).setCell ⟨g, i * 2 + 1, none⟩ (.int .i64 r)) := by
        refine hS.turn1 ?_ (only_put (only_put (Only.refl _ wr) _ _) _ _)
        rw [← prs_set2 cur i c r hk1]
        exact own_set (own_set hS.t.o1 _ _) _ _
      have HN := Lib.hid (And.intro hst hns)
      have i1 : (0 : Int) ≤ (i : Int) := by omega
      have i2 : (i : Int) < (n1 : Int) := by omega
      have w1' : IntKind.i64.wrap ((n1 : Int) - 1) = (n1 : Int) - 1 := IntWalk.i64_in _ (by omega)
      have w2' : IntKind.i64.wrap ((n1 : Int) - 1 - (i : Int)) = (n1 : Int) - 1 - (i : Int) := IntWalk.i64_in _ (by omega)
      have i3 : (0 : Int) ≤ (n1 : Int) - 1 - (i : Int) := by omega
      have i4 : (n1 : Int) - 1 - (i : Int) < (n1 : Int) := by omega
      have e5 : ((n1 : Int) - 1 - (i : Int)).toNat = n1 - 1 - i := by omega
      clear hrd hT hS HS hst hns
      go_wp2
      go_region
      clear w1' w2' e5
      go_wp2
      go_roundw
      case rel => exact ⟨i + 1, by omega, by go_num, Lib.hid ⟨_, HN.out.1, HN.out.2.drew⟩⟩
      case measure => simp [intOf]; omega
    · obtain ⟨cur, hT, hS⟩ := HS.out
      have hce := trnAt_end hT (by rw [HLN.out]; omega)
      subst hce
      have c01 : wr.cell? ⟨w.heap.size, 1, none⟩ = some (.slice A2 n2 c2) := hS.b1.cell 1
      have HC := Lib.hid hS
      clear hS hT HS
      go_wp2
      clear c01
      go_loopw [32] (fun iv wr => ∃ (j : Nat), j ≤ n2 ∧ iv = .int .i64 j ∧ Hid (∃ cur, TrnAt st cur j ∧ RtSt w (.slice A1 n1 c1) (.slice A2 n2 c2) w1.heap.size w2.heap.size (.slice B1 n1 d1) (.slice B2 n2 d2) n1 n2 ls.reverse cur wr)) (fun iv _ => n2 - (intOf iv).toNat)
      case atStart => exact ⟨0, by omega, rfl, Lib.hid ⟨st, trnAt_zero st, HC.out⟩⟩
      case round =>
        obtain ⟨j, hj, rfl, HS⟩ := hrel
        clear HC
        by_cases hlt2 : j < n2
        · obtain ⟨cur, hT, hS⟩ := HS.out
          have hrd := H2.out.up hS.t.below hS.t.below.size
          obtain ⟨b, o, hl, rfl, hL, hB, p1⟩ := hrd.one (k := n2 - 1 - j) (by omega)
          have hst := trnAt_step hT (by rw [HSN.out]; exact hlt2) st[n2 - 1 - j] (by rw [HSN.out]; exact List.getElem?_eq_getElem hl)
          generalize st[n2 - 1 - j] = x at p1 hst
          obtain ⟨g, rfl⟩ := hS.form2 (by omega)
          obtain ⟨hk1, q1, f1⟩ := own_one hS.t.o2 (k := j) hlt2
          have c00 : wr.cell? ⟨w.heap.size, 1, none⟩ = some (.slice (some ⟨b, o, none⟩) n2 c2) := hS.b1.cell 1
          have d00 : wr.cell? ⟨w2.heap.size, 1, none⟩ = some (.slice (some ⟨g, 0, none⟩) n2 d2) := hS.t.b5.cell 1
          have hns : RtSt w (.slice A1 n1 c1) (.slice (some ⟨b, o, none⟩) n2 c2) w1.heap.size w2.heap.size (.slice B1 n1 d1) (.slice (some ⟨g, 0, none⟩) n2 d2) n1 n2 ls.reverse (cur.set j x) (wr.setCell ⟨g, j, none⟩ (.int .i64 x)) := by
            refine hS.turn2 ?_ (only_put (Only.refl _ wr) _ _)
            rw [List.map_set]
            exact own_set hS.t.o2 _ _
          have HN := Lib.hid (And.intro hst hns)
          have i1 : (0 : Int) ≤ (j : Int) := by omega
          have i2 : (j : Int) < (n2 : Int) := by omega
          have w1' : IntKind.i64.wrap ((n2 : Int) - 1) = (n2 : Int) - 1 := IntWalk.i64_in _ (by omega)
          have w2' : IntKind.i64.wrap ((n2 : Int) - 1 - (j : Int)) = (n2 : Int) - 1 - (j : Int) := IntWalk.i64_in _ (by omega)
          have i3 : (0 : Int) ≤ (n2 : Int) - 1 - (j : Int) := by omega
          have i4 : (n2 : Int) - 1 - (j : Int) < (n2 : Int) := by omega
          have e5 : ((n2 : Int) - 1 - (j : Int)).toNat = n2 - 1 - j := by omega
          clear hrd hT hS HS hst hns
          go_wp2
          go_region
          clear w1' w2' e5
          go_wp2
          go_roundw
          case rel => exact ⟨j + 1, by omega, by go_num, Lib.hid ⟨_, HN.out.1, HN.out.2.drew⟩⟩
          case measure => simp [intOf]; omega
        · obtain ⟨cur, hT, hS⟩ := HS.out
          have hce := trnAt_end hT (by rw [HSN.out]; omega)
          subst hce
          have HQ := Lib.hid hS
          clear HS hS hT
          have d00 : wr.cell? ⟨w2.heap.size, 0, none⟩ = some (.slice B1 n1 d1) := HQ.out.t.b5.cell 0
          have d01 : wr.cell? ⟨w2.heap.size, 1, none⟩ = some (.slice B2 n2 d2) := HQ.out.t.b5.cell 1
          have e0 : wr.cell? ⟨w.heap.size + 1, 0, none⟩ = some (.slice none 0 0) := HQ.out.t.b2.cell 0
          have e1 : wr.cell? ⟨w.heap.size + 1, 1, none⟩ = some (.slice none 0 0) := HQ.out.t.b2.cell 1
          have f0 : wr.frozen? ⟨w.heap.size + 1, 0, none⟩ = false := HQ.out.t.b2.frozen 0
          have f1 : wr.frozen? ⟨w.heap.size + 1, 1, none⟩ = false := HQ.out.t.b2.frozen 1
          have hs1 := HQ.out.t.s1
          go_wp2
          have HF := (HQ.out.t.b2.set_ 0 (.slice B1 n1 d1)).set_ 1 (.slice B2 n2 d2)
          have g0 := HF.cell 0
          have g1 := HF.cell 1
          simp at g0 g1
          refine bodyPost_ret (v := .agg #[.slice B1 n1 d1, .slice B2 n2 d2]) (by simp [results, Try.results31, go_sem, g0, g1]) rfl ?_
          exact ⟨B1, d1, B2, d2, rfl, own_more (own_setCell (own_setCell HQ.out.t.o1 (by simp; omega) _) (by simp; omega) _) (by omega), own_more (own_setCell (own_setCell HQ.out.t.o2 (by simp; omega) _) (by simp; omega) _) (by omega), (HQ.out.t.below.setCell (by simp) _).setCell (by simp) _⟩
end Go.Proofs.Ytbjfbmienlojkaa
