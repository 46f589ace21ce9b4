/- SchemeClasses: the walk of the law where the scheme may be. -/
import Derived.Test.YtbjfbmienlojkaaT29
import Derived.Deep.QuietTactic
import Derived.BigQuiet
import Derived.Deep.RegionLaw
import Derived.Deep.AppendLies
namespace Go.Proofs.Ytbjfbmienlojkaa
open Go.RowKit

/-- one number of one row written over -/
theorem Own2.write {w : World} {L : Nat} {v : Value} {xs : List Value} {lss : List (List Int)} {i g o n c k : Nat} {l : List Int} (h : Own2 w L v xs lss) (hx : xs[i]? = some (.slice (some ⟨g, o, none⟩) n c)) (hl : lss[i]? = some l) (z : Int) :
    Own2 (w.setCell ⟨g, k, none⟩ (.int .i64 z)) L v xs (lss.set i (l.set k z)) := by
  have hi := h.inner i _ l hx hl
  have hform : o = 0 ∧ n = l.length := by
    rcases hi.2 with ⟨h0, _⟩ | ⟨g', cap, cur, hv, _⟩
    · cases h0
    · injection hv with h1 h2 h3
      injection h1 with h1
      injection h1 with h1 h4
      exact ⟨h4, h2⟩
  obtain ⟨rfl, rfl⟩ := hform
  refine ⟨?_, fun j y m hy hm => ?_, h.apart⟩
  · rw [List.length_set]
    refine own_far h.outer ?_ _
    intro hh
    rcases (h.far hx).1 with h0 | h0
    · cases h0
    · exact h0 hh.symm
  · by_cases hj : j = i
    · subst hj
      rw [hx] at hy
      cases hy
      have hlt : j < lss.length := (List.getElem?_eq_some_iff.1 hl).1
      rw [List.getElem?_set_self hlt] at hm
      cases hm
      rw [List.length_set, List.map_set]
      exact own_set hi k _
    · rw [List.getElem?_set_ne (Ne.symm hj)] at hm
      refine own_far (h.inner j y m hy hm) ?_ _
      intro hh
      rcases h.apart j i y _ hj hy hx with h0 | h0
      · rw [h0] at hh; cases hh
      · exact h0 hh

/-- what the law's loop over the rows keeps -/
structure RowsLeft (wc : World) (v : Value) (ref : List (List Int)) (i : Nat) (xs : List Value) (lss : List (List Int)) (w : World) : Prop where
  own : Own2 w wc.heap.size v xs lss
  len : lss.length = ref.length
  rest : ∀ j, i ≤ j → lss[j]? = ref[j]?
  below : Below wc.heap.size wc w

theorem RowsLeft.on {wc : World} {v : Value} {ref : List (List Int)} {i : Nat} {xs : List Value} {lss : List (List Int)} {w w' : World} (h : RowsLeft wc v ref i xs lss w) (hb : Only (fun _ => False) w w') : RowsLeft wc v ref i xs lss w' :=
  ⟨h.own.on hb, h.len, h.rest, h.below.trans (hb.below h.below.size (fun _ _ hf => hf))⟩
theorem own2_cell {w : World} {L G o n c p : Nat} {xs : List Value} {lss : List (List Int)} {x : Value} (h : Own2 w L (.slice (some ⟨G, o, none⟩) n c) xs lss) (hx : xs[p]? = some x) : w.cell? ⟨G, p, none⟩ = some x ∧ w.frozen? ⟨G, p, none⟩ = false := by
  have hp : p < lss.length := by rw [← h.len]; exact (List.getElem?_eq_some_iff.1 hx).1
  have h0 : o = 0 ∧ n = lss.length := by
    rcases h.outer.2 with ⟨h0, _⟩ | ⟨g, cap, cur, hv, _⟩
    · cases h0
    · injection hv with h1 h2 h3
      injection h1 with h1
      injection h1 with h1 h4
      exact ⟨h4, h2⟩
  obtain ⟨rfl, rfl⟩ := h0
  refine ⟨?_, (own_at h.outer (i := p) (by omega)).2⟩
  obtain ⟨b, o, e, _, _, hc⟩ := (own_rd h.outer).2 (by omega)
  injection e with e
  injection e with e1 e2
  subst e1 e2
  have := hc p x hx
  rwa [Nat.zero_add] at this

theorem own2_put_cell {w W : World} {L G o n c p : Nat} {xs : List Value} {lss : List (List Int)} {x : Value} (h : Own2 w L (.slice (some ⟨G, o, none⟩) n c) xs lss) (hx : xs[p]? = some x) (ho : Only (fun q => x.ownBlock = some q) w W) : W.cell? ⟨G, p, none⟩ = some x ∧ W.frozen? ⟨G, p, none⟩ = false := by
  have hp : p < lss.length := by rw [← h.len]; exact (List.getElem?_eq_some_iff.1 hx).1
  have hO := own_keep h.outer (h.far hx).2 ho
  have h0 : o = 0 ∧ n = lss.length := by
    rcases hO.2 with ⟨h0, _⟩ | ⟨g, cap, cur, hv, _⟩
    · cases h0
    · injection hv with h1 h2 h3
      injection h1 with h1
      injection h1 with h1 h4
      exact ⟨h4, h2⟩
  obtain ⟨rfl, rfl⟩ := h0
  refine ⟨?_, (own_at hO (i := p) (by omega)).2⟩
  obtain ⟨b, o, e, _, _, hc⟩ := (own_rd hO).2 (by omega)
  injection e with e
  injection e with e1 e2
  subst e1 e2
  have := hc p x hx
  rwa [Nat.zero_add] at this

set_option maxHeartbeats 4000000 in
set_option maxRecDepth 100000 in
theorem schemeClasses_ok (A1 A2 : Option Addr) (c1 c2 L1 L2 : Nat) (ls : List (Int × Int)) (st : List Int) (w : World)
    (h1 : Rd w L1 w.heap.size 2 A1 ls.length (prs ls)) (h2 : Rd w L2 w.heap.size 1 A2 st.length (st.map (Value.int .i64))) (hm : may ls st = true) :
    Calls Try.prog 5 #[.agg #[.slice A1 ls.length c1, .slice A2 st.length c2]] w fun e w' => e = .returned (.bool true) ∧ Below w.heap.size w w' := by
  have n1 := mayLen hm
  have n2 := mayStan hm
  have H1 := Lib.hid h1
  have H2 := Lib.hid h2
  have HM := Lib.hid hm
  have HFT := Lib.hid (canon_fits ls (mayLine hm))
  clear h1 h2 hm
  go_enter Try.func5, Try.ntmps5
  go_upto_region 1 with (fail)
  refine wp_abs (fun wx => Blk wx w.heap.size 26 #[.slice A1 ls.length c1, .slice A2 st.length c2] ∧ Below w.heap.size w wx) ⟨(Blk.new _ _ _), ((Below.refl _ _).alloc (Nat.le_refl _) _)⟩ ?_
  rintro wx ⟨k0, hb⟩
  have HK := Lib.hid (And.intro k0 hb)
  clear k0 hb
  go_wp2_with fail
  refine (wakes_any wx).mono ?_
  rintro e w1 ⟨rfl, hb1⟩
  have HA := Lib.hid (show Blk w1 w.heap.size 26 #[.slice A1 ls.length c1, .slice A2 st.length c2] ∧ Below w.heap.size w w1 from ⟨HK.out.1.below hb1 HK.out.1.lt, HK.out.2.trans (hb1.mono HK.out.2.size)⟩)
  clear hb1 HK
  have c00 : w1.cell? ⟨w.heap.size, 0, none⟩ = some (.slice A1 ls.length c1) := HA.out.1.cell 0
  have c01 : w1.cell? ⟨w.heap.size, 1, none⟩ = some (.slice A2 st.length c2) := HA.out.1.cell 1
  go_wp2_with fail
  refine (refMay_any A1 A2 ls.length c1 st.length c2 L1 L2 ls st w1 (H1.out.up HA.out.2 HA.out.2.size) (H2.out.up HA.out.2 HA.out.2.size) (by unfold maxLen; omega) (by unfold maxLen; omega)).mono ?_
  rintro e w2 ⟨rfl, hb2⟩
  have HB := Lib.hid (show Blk w2 w.heap.size 26 #[.slice A1 ls.length c1, .slice A2 st.length c2] ∧ Below w.heap.size w w2 from ⟨HA.out.1.below hb2 HA.out.1.lt, HA.out.2.trans (hb2.mono HA.out.2.size)⟩)
  clear hb2 HA c00 c01
  have c00 : w2.cell? ⟨w.heap.size, 0, none⟩ = some (.slice A1 ls.length c1) := HB.out.1.cell 0
  have c01 : w2.cell? ⟨w.heap.size, 1, none⟩ = some (.slice A2 st.length c2) := HB.out.1.cell 1
  rw [HM.out]
  go_wp2_with fail
  refine (refClasses_any A1 A2 ls.length c1 st.length c2 L1 ls w2 (H1.out.up HB.out.2 HB.out.2.size) n1).mono ?_
  rintro e w3 ⟨V, xs, rfl, hO, hb3⟩
  obtain ⟨W, CW, rfl⟩ := own_slice hO.outer
  have hrl := refPre_len ls ls.length
  generalize href : refPre ls ls.length = ref at hO hrl
  have HR := Lib.hid href
  have HC := Lib.hid (show Blk w3 w.heap.size 26 #[.slice A1 ls.length c1, .slice A2 st.length c2] ∧ Below w.heap.size w w3 ∧ Own2 w3 w2.heap.size (.slice W ref.length CW) xs ref from ⟨HB.out.1.below hb3 HB.out.1.lt, HB.out.2.trans (hb3.mono HB.out.2.size), hO⟩)
  clear hb3 HB c00 c01 hO href
  go_wp2
  go_loopw [6] (fun rv wr => ∃ (r : Nat), r ≤ 2 ∧ rv = .int .i64 r ∧ Hid (Below w3.heap.size w3 wr)) (fun rv _ => 2 - (intOf rv).toNat)
  case atStart => exact ⟨0, by omega, rfl, Lib.hid (Below.refl _ _)⟩
  case round =>
    obtain ⟨r, hr, rfl, H⟩ := hrel
    obtain ⟨wc, hwc⟩ : ∃ wc : World, wc = wr := ⟨_, rfl⟩
    subst hwc
    by_cases hlt : r < 2
    · have HD := Lib.hid (show Blk wc w.heap.size 26 #[.slice A1 ls.length c1, .slice A2 st.length c2] ∧ Below w.heap.size w wc ∧ Own2 wc w2.heap.size (.slice W ref.length CW) xs ref from ⟨HC.out.1.below H.out HC.out.1.lt, HC.out.2.1.trans (H.out.mono HC.out.2.1.size), HC.out.2.2.below H.out⟩)
      have c00 : wc.cell? ⟨w.heap.size, 0, none⟩ = some (.slice A1 ls.length c1) := HD.out.1.cell 0
      have c01 : wc.cell? ⟨w.heap.size, 1, none⟩ = some (.slice A2 st.length c2) := HD.out.1.cell 1
      go_wp2_with fail
      refine (classes_ok A1 A2 c1 c2 L1 L2 ls st wc (H1.out.up HD.out.2.1 HD.out.2.1.size) (H2.out.up HD.out.2.1 HD.out.2.1.size) HM.out HFT.out).mono ?_
      rintro e w4 ⟨v2, ys, rfl, hO, hb4⟩
      rw [classes_same, HR.out] at hO
      obtain ⟨Y, CY, rfl⟩ := own_slice hO.outer
      have HE := Lib.hid (And.intro (And.intro (HD.out.2.2.below hb4) hb4) hO)
      clear c00 c01 hb4 hO
      go_wp2
      go_loopw [49] (fun iv wq => ∃ (i : Nat), i ≤ ref.length ∧ iv = .int .i64 i ∧ Hid (∃ ys lss, RowsLeft wc (.slice Y ref.length CY) ref i ys lss wq)) (fun iv _ => ref.length - (intOf iv).toNat)
      case atStart => exact ⟨0, by omega, rfl, Lib.hid ⟨ys, ref, HE.out.2, rfl, fun _ _ => rfl, HE.out.1.2⟩⟩
      case round =>
        obtain ⟨i, hi, rfl, G⟩ := hrel
        by_cases hil : i < ref.length
        · obtain ⟨wq, hwq⟩ : ∃ wq : World, wq = wr := ⟨_, rfl⟩
          subst hwq
          obtain ⟨ys', lss', hL⟩ := G.out
          have hyl : i < ys'.length := by rw [hL.own.len, hL.len]; exact hil
          have hxl : i < xs.length := by rw [HE.out.1.1.len]; exact hil
          obtain ⟨l, hl⟩ : ∃ l, ref[i]? = some l := ⟨_, List.getElem?_eq_getElem hil⟩
          have hl' : lss'[i]? = some l := (hL.rest i (Nat.le_refl _)).trans hl
          obtain ⟨x, hx⟩ : ∃ x, ys'[i]? = some x := ⟨_, List.getElem?_eq_getElem hyl⟩
          obtain ⟨y, hy⟩ : ∃ y, xs[i]? = some y := ⟨_, List.getElem?_eq_getElem hxl⟩
          have hxo := hL.own.inner i x l hx hl'
          have hww : Own2 wq w2.heap.size (.slice W ref.length CW) xs ref := HD.out.2.2.on (Only.of_below hL.below _)
          have hyo := hww.inner i y l hy hl
          obtain ⟨X, CX, rfl⟩ := own_slice hxo
          obtain ⟨Z, CZ, rfl⟩ := own_slice hyo
          obtain ⟨GY, rfl⟩ : ∃ G, Y = some ⟨G, 0, none⟩ := by
            rcases hL.own.outer.2 with ⟨_, h0⟩ | ⟨g, cap, cur, hv, _⟩
            · have := hL.len; omega
            · injection hv with hv
              exact ⟨g, hv⟩
          obtain ⟨GW, rfl⟩ : ∃ G, W = some ⟨G, 0, none⟩ := by
            rcases hww.outer.2 with ⟨_, h0⟩ | ⟨g, cap, cur, hv, _⟩
            · omega
            · injection hv with hv
              exact ⟨g, hv⟩
          have eY := (own2_cell hL.own hx).1
          have eW := (own2_cell hww hy).1
          have i0 : (0 : Int) ≤ (i : Int) := by omega
          have i1 : (i : Int) < (ref.length : Int) := by omega
          have hll : l.length ≤ 512 := by
            have h0 := grpPre_len
            have := List.mem_of_getElem? hl
            rw [← HR.out] at this
            unfold refPre at this
            obtain ⟨a, _, ha⟩ := List.mem_map.1 this
            have := grpPre_len ls a ls.length
            rw [ha] at this
            omega
          have HL := Lib.hid (And.intro hL hww)
          have HX := Lib.hid (And.intro hx (And.intro hy (And.intro hl' hl)))
          clear hL hww hx hy hl' hl hxo hyo G
          go_wp2
          go_quiet (fail)
          go_wp2
          clear eY eW
          have hd0 := (Only.refl (fun _ => False) wq)
          go_loopw [68] (fun kv wz => ∃ (k : Nat), k ≤ l.length ∧ kv = .int .i64 k ∧ Hid (RowsLeft wc (.slice (some ⟨GY, 0, none⟩) ref.length CY) ref i ys' lss' wz ∧ Own2 wz w2.heap.size (.slice (some ⟨GW, 0, none⟩) ref.length CW) xs ref)) (fun kv _ => l.length - (intOf kv).toNat)
          case atStart => exact ⟨0, by omega, rfl, Lib.hid ⟨HL.out.1.on (hd0.drewN _), HL.out.2.on (hd0.drewN _)⟩⟩
          case round =>
            clear hd0
            obtain ⟨wz, hwz⟩ : ∃ wz : World, wz = wr := ⟨_, rfl⟩
            subst hwz
            obtain ⟨k, hk, rfl, K⟩ := hrel
            have eY := (own2_cell K.out.1.own HX.out.1).1
            have eW := (own2_cell K.out.2 HX.out.2.1).1
            have hxo := K.out.1.own.inner i _ l HX.out.1 HX.out.2.2.1
            have hyo := K.out.2.inner i _ l HX.out.2.1 HX.out.2.2.2
            by_cases hkl : k < l.length
            · obtain ⟨b1, o1, q1, rfl, _, _, p1⟩ := (own_rd hxo).one hkl
              obtain ⟨b2, o2, q2, rfl, _, _, p2⟩ := (own_rd hyo).one hkl
              have k0 : (0 : Int) ≤ (k : Int) := by omega
              have k1 : (k : Int) < (l.length : Int) := by omega
              generalize l[k] = z at p1 p2
              clear hxo hyo
              go_wp2
              go_quiet (fail)
              go_wp2
              go_roundw
              case rel => exact ⟨k + 1, by omega, by go_num, Lib.hid ⟨K.out.1.on ((Only.refl _ _).drewN _), K.out.2.on ((Only.refl _ _).drewN _)⟩⟩
              case measure => simp [intOf]; omega
            · clear hxo hyo eW
              have hset0 : lss'.set i l = lss' := by
                apply List.ext_getElem?
                intro q
                rw [List.getElem?_set]
                split
                · rename_i he
                  subst he
                  rw [HX.out.2.2.1]
                  simp
                  exact (List.getElem?_eq_some_iff.1 HX.out.2.2.1).1
                · rfl
              have HS0 := Lib.hid hset0
              clear hset0
              go_wp2
              clear eY
              go_loopw [92] (fun kv wv => ∃ (k : Nat), k ≤ l.length ∧ kv = .int .i64 k ∧ Hid (∃ l' : List Int, l'.length = l.length ∧ Own2 wv wc.heap.size (.slice (some ⟨GY, 0, none⟩) ref.length CY) ys' (lss'.set i l') ∧ Below wc.heap.size wc wv)) (fun kv _ => l.length - (intOf kv).toNat)
              case atStart => exact ⟨0, by omega, rfl, Lib.hid ⟨l, rfl, by rw [HS0.out]; exact K.out.1.own, K.out.1.below⟩⟩
              case round =>
                clear K
                obtain ⟨wv, hwv⟩ : ∃ wv : World, wv = wr := ⟨_, rfl⟩
                subst hwv
                rename_i wzz _ _ _ _ _
                obtain ⟨j, hj, rfl, M⟩ := hrel
                obtain ⟨l', hl2, hO, hbl⟩ := M.out
                have hiL : i < lss'.length := by rw [HL.out.1.len]; exact hil
                have eY := (own2_cell hO HX.out.1).1
                have fY := (own2_cell hO HX.out.1).2
                have hsi : (lss'.set i l')[i]? = some l' := List.getElem?_set_self hiL
                have hxo := hO.inner i _ l' HX.out.1 hsi
                rw [hl2] at hxo
                by_cases hjl : j < l.length
                · obtain ⟨g, rfl⟩ : ∃ g, X = some ⟨g, 0, none⟩ := by
                    rcases hxo.2 with ⟨_, h0⟩ | ⟨g, cap, cur, hv, _⟩
                    · omega
                    · injection hv with hv
                      exact ⟨g, hv⟩
                  obtain ⟨⟨u, p1⟩, p2⟩ := own_at hxo (i := j) (by omega)
                  have hg := (hxo.lt g rfl).1
                  have HN := Lib.hid (And.intro (hO.write (k := j) HX.out.1 hsi (-7)) (hbl.setCell (p := ⟨g, j, none⟩) hg (.int .i64 (-7))))
                  have j0 : (0 : Int) ≤ (j : Int) := by omega
                  have j1 : (j : Int) < (l.length : Int) := by omega
                  clear hxo hO hbl hsi M
                  go_wp2
                  go_roundw
                  case rel => exact ⟨j + 1, by omega, by go_num, Lib.hid ⟨l'.set j (-7), by simpa using hl2, by have := HN.out.1; rwa [List.set_set] at this, HN.out.2⟩⟩
                  case measure => simp [intOf]; omega
                · have hxb : ∀ q, (Value.slice X l.length CX).ownBlock = some q → wc.heap.size ≤ q := fun q hq => (hxo.lt q hq).1
                  have hinfo3 : (Try.prog.info? 3).map (fun i => (i.zero, i.size, i.bytes)) = some (some (.int .i64 0), 1, 8) := by kernel_rfl
                  obtain ⟨j0, hj', jz0, jz1, jz2⟩ := info_parts hinfo3
                  have HJ := Lib.hid (And.intro hj' (And.intro jz0 (And.intro jz1 jz2)))
                  have hO2 : Own2 (wv.alloc (.cells #[.int .i64 (-7), .int .i64 (-7), .int .i64 (-7)] 3)) wc.heap.size (.slice (some ⟨GY, 0, none⟩) ref.length CY) ys' (lss'.set i l') := hO.alloc _
                  have eYa := (own2_cell hO2 HX.out.1).1
                  have hsw := hbl.size
                  have hG := (hO.outer.lt GY rfl).1
                  have HXO := Lib.hid (And.intro hxo (And.intro hO (And.intro hbl (And.intro hxb hl2))))
                  clear hj' jz0 jz1 jz2 hinfo3 hxo hO hbl hxb hO2 hsi M
                  go_upto_region 29 with (fail)
                  go_wp2_with
                    (at_builtin; (refine wpList_append_lies _ (by rfl) _ _ 24 (by rfl) wc.heap.size 3 j0 (.int .i64 0) 1 8 Try.underlying24 HJ.out.1 HJ.out.2.1 HJ.out.2.2.1 HJ.out.2.2.2 rfl (by omega) (.slice X l.length CX) l.length (l'.map (Value.int .i64)) (by rfl) ?_ _ 3 3 [.int .i64 (-7), .int .i64 (-7), .int .i64 (-7)] (by rfl) (by rfl) ?_ (by simp [Value.oneCell']) (by omega) ?_ (by omega) ?_ _ rfl ?_; (refine own_stay HXO.out.1 ?_; (repeat (first | (with_reducible exact Only.refl _ _) | (with_reducible refine Only.drew ?_) | (with_reducible refine Only.alloc ?_ _)))); (refine World.news_of_block (cs := #[.int .i64 (-7), .int .i64 (-7), .int .i64 (-7)]) (t := 3) (fr := (0, 0)) ?_; refine (show Blk _ _ 3 _ from ?_); repeat (first | ((with_reducible refine blk_new_eq ?_); (first | (with_reducible rfl) | exact (by simp) | exact (by simp; omega))) | (with_reducible refine Blk.drew ?_) | (with_reducible refine Blk.alloc ?_ _))); (unfold maxLen; omega); (first | omega | (simp; omega)); intro gA capA wA hownA hgrowA hatA hltA; have ho : Only (fun q => (Value.slice X l.length CX).ownBlock = some q) wv wA := (by (repeat (first | (with_reducible exact Only.refl _ _) | (with_reducible refine Only.drew ?_) | (with_reducible refine Only.alloc ?_ _) | (with_reducible refine Only.grown ?_ hgrowA (fun g hg => .inl hg))))); have HN := Lib.hid (And.intro (HXO.out.2.1.put (l' := l' ++ [-7, -7, -7]) HX.out.1 ho (by simpa [HXO.out.2.2.2.2] using hownA) (by intro q hq; simp [Value.ownBlock] at hq; subst hq; rcases hatA with h | h; exact .inl h; right; simp at h; omega)) ((HXO.out.2.2.1.trans (ho.below hsw (fun g hg hh => absurd (HXO.out.2.2.2.1 g hh) (by omega)))).setCell (p := ⟨GY, i, none⟩) hG (.slice (some ⟨gA, 0, none⟩) (l.length + 3) capA))); have ea : wA.cell? ⟨GY, i, none⟩ = some (.slice X l.length CX) ∧ wA.frozen? ⟨GY, i, none⟩ = false := own2_put_cell HXO.out.2.1 HX.out.1 ho; obtain ⟨ea, eb⟩ := ea; clear ho hownA hgrowA hatA hltA))
                  go_roundw
                  case rel =>
                    refine ⟨i + 1, by omega, by go_num, Lib.hid ⟨_, _, HN.out.1, by simpa using HL.out.1.len, fun q hq => ?_, HN.out.2⟩⟩
                    rw [List.set_set, List.getElem?_set_ne (by omega)]
                    exact HL.out.1.rest q (by omega)
                  case measure => simp [intOf]; omega
        · go_wp2
          go_roundw
          case rel => 
            obtain ⟨ys', lss', hL⟩ := G.out
            exact ⟨r + 1, by omega, by go_num, Lib.hid (H.out.trans (hL.below.mono H.out.size))⟩
          case measure => simp [intOf]; omega
    · go_wp2_with fail
      refine (wakes_any wc).mono ?_
      rintro e w5 ⟨rfl, hb5⟩
      have HF := Lib.hid ((HC.out.2.1.trans (H.out.mono HC.out.2.1.size)).trans (hb5.mono (Nat.le_trans HC.out.2.1.size H.out.size)))
      go_wp2
      go_ret
      exact ⟨rfl, HF.out⟩
end Go.Proofs.Ytbjfbmienlojkaa
