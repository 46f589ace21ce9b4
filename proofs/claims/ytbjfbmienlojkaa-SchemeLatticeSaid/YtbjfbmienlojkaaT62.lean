/- Meet: the walk. -/
import Derived.Test.YtbjfbmienlojkaaT57
import Derived.Test.YtbjfbmienlojkaaT58
import Derived.Test.YtbjfbmienlojkaaT50
import Derived.BigRegion
namespace Go.Proofs.Ytbjfbmienlojkaa
open Go.RowKit Go.Maps

theorem lineC {ls : List (Int × Int)} (h : ∀ p ∈ ls, lineOk p = true) {i : Nat} (hi : i < ls.length) : -1 ≤ clsAt ls i ∧ clsAt ls i < 25 := by
  have := (lineOk_iff _).1 (h _ (List.getElem_mem hi))
  rw [clsAt_get hi]
  exact ⟨this.1, this.2.1⟩

set_option maxHeartbeats 4000000 in
set_option maxRecDepth 100000 in
theorem meet_ok (A1 A2 B1 B2 : Option Addr) (n c1 n2 c2 d1 m2 d2 L1 L2 L3 L4 : Nat) (l1 l2 : List (Int × Int)) (s1 s2 : List Int) (w : World)
    (h1 : Rd w L1 w.heap.size 2 A1 n (prs l1)) (h2 : Rd w L2 w.heap.size 1 A2 n2 (s1.map (Value.int .i64))) (h3 : Rd w L3 w.heap.size 2 B1 n (prs l2)) (h4 : Rd w L4 w.heap.size 1 B2 m2 (s2.map (Value.int .i64)))
    (hm : mayTwo l1 l2 s1 s2 = true) :
    Calls Try.prog 45 #[.agg #[.slice A1 n c1, .slice A2 n2 c2], .agg #[.slice B1 n d1, .slice B2 m2 d2]] w fun e w' => ∃ E1 e1 E2 e2, e = .returned (.tuple #[.agg #[.slice E1 (madeL l1 l2 (mtF l1 l2 n)).length e1, .slice E2 (madeS l1 l2 (mtF l1 l2 n) s1).length e2], .int .i64 (madeE l1 l2 (mtF l1 l2 n))]) ∧
      w'.ownsRow w.heap.size 66 2 (.slice E1 (madeL l1 l2 (mtF l1 l2 n)).length e1) (madeL l1 l2 (mtF l1 l2 n)).length (prs (madeL l1 l2 (mtF l1 l2 n))) ∧ w'.ownsRow w.heap.size 3 1 (.slice E2 (madeS l1 l2 (mtF l1 l2 n) s1).length e2) (madeS l1 l2 (mtF l1 l2 n) s1).length ((madeS l1 l2 (mtF l1 l2 n) s1).map (Value.int .i64)) ∧ Below w.heap.size w w' := by
  have hln : l1.length = n := by have := h1.1; rw [prs_len] at this; omega
  have hln2 : l2.length = n := by have := h3.1; rw [prs_len] at this; omega
  obtain ⟨hm1, hm2, _⟩ := mayTwo_parts hm
  have hn : n ≤ 512 := by rw [← hln]; exact mayLen hm1
  have e2 : n2 ≤ 512 := by have := mayStan hm1; have := h2.1; simp at this; omega
  have e4 : m2 ≤ 512 := by have := mayStan hm2; have := h4.1; simp at this; omega
  have H1 := Lib.hid h1
  have H2 := Lib.hid h2
  have H3 := Lib.hid h3
  have H4 := Lib.hid h4
  have HM := Lib.hid hm
  have HL := Lib.hid (And.intro hln hln2)
  have HK1 := Lib.hid (fun i (hi : i < n) => lineC (mayLine hm1) (i := i) (by omega))
  have HK2 := Lib.hid (fun i (hi : i < n) => lineC (mayLine hm2) (i := i) (by omega))
  have hmm := @run_makeMap Try.prog
  have hinfo : (Try.prog.info? 3).map (fun i => (i.zero, i.size, i.bytes)) = some (some (.int .i64 0), 1, 8) := by kernel_rfl
  obtain ⟨i0, hi, hz0, hz1, hz2⟩ := info_parts hinfo
  have HI := Lib.hid (And.intro hi (And.intro hz0 (And.intro hz1 hz2)))
  clear h1 h2 h3 h4 hm hln hln2 hm1 hm2 hi hz0 hz1 hz2 hinfo
  go_enter Try.func45, Try.ntmps45
  go_upto_region 1 with (fail)
  refine wp_abs (fun wx => TwoIn w (.slice A1 n c1) (.slice A2 n2 c2) (.slice B1 n d1) (.slice B2 m2 d2) wx ∧ Blk wx (w.heap.size + 2) 26 #[.slice none 0 0, .slice none 0 0] ∧ wx.heap.size = w.heap.size + 3) ⟨(TwoIn.init w _ _ _ _).on ((Below.refl _ _).alloc (Nat.le_refl _) _), blk_new_eq (by simp), by simp⟩ ?_
  rintro w1 ⟨hw, hq, hsz⟩
  have c0 : w1.cell? ⟨w.heap.size, 0, none⟩ = some (.slice A1 n c1) := hw.b0.cell 0
  have c1' : w1.cell? ⟨w.heap.size, 1, none⟩ = some (.slice A2 n2 c2) := hw.b0.cell 1
  have d0 : w1.cell? ⟨w.heap.size + 1, 0, none⟩ = some (.slice B1 n d1) := hw.b1.cell 0
  have d1' : w1.cell? ⟨w.heap.size + 1, 1, none⟩ = some (.slice B2 m2 d2) := hw.b1.cell 1
  have HW := Lib.hid (And.intro hw hq)
  clear hw hq
  go_wp2_with fail
  refine (mayTwo_any A1 A2 B1 B2 n c1 n2 c2 n d1 m2 d2 L1 L2 L3 L4 l1 l2 s1 s2 w1 (H1.out.up HW.out.1.below HW.out.1.below.size) (H2.out.up HW.out.1.below HW.out.1.below.size) (H3.out.up HW.out.1.below HW.out.1.below.size) (H4.out.up HW.out.1.below HW.out.1.below.size) (by unfold maxLen; omega) (by unfold maxLen; omega) (by unfold maxLen; omega) (by unfold maxLen; omega)).mono ?_
  rw [HM.out]
  rintro e w2 ⟨rfl, hb2⟩
  have HX := Lib.hid (And.intro (HW.out.1.on hb2) (HW.out.2.below hb2 HW.out.2.lt))
  have hsz2 : w.heap.size + 3 ≤ w2.heap.size := by have := hb2.size; omega
  clear c0 c1' d0 d1' hb2 HW hsz
  simp only [errOf]
  have c0 : w2.cell? ⟨w.heap.size, 0, none⟩ = some (.slice A1 n c1) := HX.out.1.b0.cell 0
  go_upto_region 6 with (fail)
  refine wp_abs (MtSt w (.slice A1 n c1) (.slice A2 n2 c2) (.slice B1 n d1) (.slice B2 m2 d2) w2.heap.size (.slice none 0 0) (pairs l1 l2 0) (mtF l1 l2 0)) ⟨HX.out.1.on ((Below.refl _ _).alloc (Nat.le_refl _) _), HX.out.2.alloc _, ⟨_, 0, MapIs.made Try.prog w2 67 3, Nat.zero_le _, fun s _ _ _ => rfl⟩, World.ownsRow_nil _ _ _ _, hsz2⟩ ?_
  intro w3 hS
  have c0 : w3.cell? ⟨w.heap.size, 0, none⟩ = some (.slice A1 n c1) := hS.two.b0.cell 0
  have HS := Lib.hid hS
  clear hS HX hmm
  go_wp2
  clear c0
  go_loopw [8, 24] (fun lv iv wr => ∃ i : Nat, i ≤ n ∧ iv = .int .i64 i ∧ Hid (MtSt w (.slice A1 n c1) (.slice A2 n2 c2) (.slice B1 n d1) (.slice B2 m2 d2) w2.heap.size lv (pairs l1 l2 i) (mtF l1 l2 i) wr)) (fun _ iv _ => n - (intOf iv).toNat)
  case atStart => exact ⟨0, by omega, rfl, HS⟩
  case round =>
    obtain ⟨i, hi, rfl, HR⟩ := hrel
    clear HS
    by_cases hlt : i < n
    · have hbw := HR.out.two.below
      obtain ⟨b, o, hl, rfl, hL, hB, p1, _⟩ := (H1.out.up hbw hbw.size).two hlt
      obtain ⟨b', o', hl', rfl, hL', hB', p3, _⟩ := (H3.out.up hbw hbw.size).two hlt
      have hk1 := HK1.out i hlt
      have hk2 := HK2.out i hlt
      have hps := pairs_succ l1 l2 i
      have hms := mtF_succ l1 l2 i
      have hpl := pairs_len l1 l2 i
      have hml := mtF_len l1 l2 i
      have hma : mtAt l1 l2 i = if clsAt l1 i < 0 ∨ clsAt l2 i < 0 then i else match posX (pairs l1 l2 i) (pairAt l1 l2 i) with | some p => p | none => i := rfl
      have hpa : pairAt l1 l2 i = (clsAt l1 i, clsAt l2 i) := rfl
      rw [hpa] at hma hps
      rw [← clsAt_get hl] at p1
      rw [← clsAt_get hl'] at p3
      generalize clsAt l1 i = ca at *
      generalize clsAt l2 i = cb at *
      generalize pairs l1 l2 i = ps at *
      generalize mtF l1 l2 i = mk at *
      generalize mtAt l1 l2 i = ma at *
      have hSt : MtSt w _ _ _ _ _ _ ps mk wr := HR.out
      obtain ⟨m, N, hmi, hN, hP⟩ := hSt.mp
      obtain ⟨XV, XC, rfl⟩ := own_slice hSt.own
      have hsm : smallP (ca, cb) := ⟨⟨by simp; omega, by simp; omega⟩, ⟨by simp; omega, by simp; omega⟩⟩
      have HX := Lib.hid (And.intro hSt (And.intro hmi hP))
      have HY := Lib.hid (And.intro hps (And.intro hms (And.intro hma hsm)))
      have HZ := Lib.hid (And.intro hpl hml)
      have c0 : wr.cell? ⟨w.heap.size, 0, none⟩ = some (.slice (some ⟨b, o, none⟩) n c1) := hSt.two.b0.cell 0
      have d0 : wr.cell? ⟨w.heap.size + 1, 0, none⟩ = some (.slice (some ⟨b', o', none⟩) n d1) := hSt.two.b1.cell 0
      clear hps hms hma hsm hSt hmi hP hpa hL hB hL' hB' HR hbw
      have hN2 : N ≤ i := by omega
      clear hN hpl hml
      go_upto_region 9 with (fail)
      have ALN : ∀ b o v, wr.cell? ⟨b, o, none⟩ = some v → (wr.alloc (.cells #[.int .i64 0, .int .i64 0] 67)).cell? ⟨b, o, none⟩ = some v := fun b o v h => by
        have hb : b < wr.heap.size := cell_lt (a := ⟨b, o, none⟩) h
        rw [((Below.refl wr.heap.size wr).alloc (Nat.le_refl _) (.cells #[.int .i64 0, .int .i64 0] 67)).cell (p := ⟨b, o, none⟩) hb]
        exact h
      have c0a := ALN _ _ _ c0
      have d0a := ALN _ _ _ d0
      have p1a := ALN _ _ _ p1
      have p3a := ALN _ _ _ p3
      clear ALN
      go_region
      clear c0a d0a p1a p3a
      go_upto_region 10 with (fail)
      refine wp_abs (fun wx => MtSt w (.slice (some ⟨b, o, none⟩) n c1) (.slice A2 n2 c2) (.slice (some ⟨b', o', none⟩) n d1) (.slice B2 m2 d2) w2.heap.size (.slice XV mk.length XC) ps mk wx ∧ Blk wx wr.heap.size 67 #[.int .i64 ca, .int .i64 cb]) ?_ ?_
      · exact ⟨HX.out.1.on (let hb := (Below.refl wr.heap.size wr).alloc (Nat.le_refl _) _; ⟨hb.os, hb.tape, hb.output, hb.size, hb.block⟩), show Blk (wr.alloc _) _ _ _ from Blk.new _ _ _⟩
      · clear HX c0 d0 p1 p3 hN2
        rintro wx ⟨hS, h9⟩
        obtain ⟨m, N, hmi, hN, hP⟩ := hS.mp
        have g0 : wx.cell? ⟨wr.heap.size, 0, none⟩ = some (.int .i64 ca) := h9.cell 0
        have g1 : wx.cell? ⟨wr.heap.size, 1, none⟩ = some (.int .i64 cb) := h9.cell 1
        have bw := hS.two.below.size
        have bw2 := hmi.lt
        have bs := hS.s1
        have HX := Lib.hid (And.intro hS (And.intro hmi hP))
        have HSM := Lib.hid HY.out.2.2.2
        have hN2 : N ≤ i := by have := HZ.out.1; omega
        have hml2 : mk.length ≤ 512 := by have := HZ.out.2; omega
        have hma := HY.out.2.2.1
        clear hS h9 hmi hN
        cases hlk : m (litP (ca, cb)) with
        | none =>
          have HLK := Lib.hid hlk
          have hneg : (ca < 0 ∨ cb < 0) ∨ posX ps (ca, cb) = none := by
            by_cases h : ca < 0 ∨ cb < 0
            · exact .inl h
            · right
              have := hP (ca, cb) HSM.out (by simp; omega) (by simp; omega)
              rw [hlk] at this
              cases hp : posX ps (ca, cb) with
              | none => rfl
              | some p => rw [hp] at this; cases this
          have HNEG := Lib.hid (show ((ca, cb).1 < 0 ∨ (ca, cb).2 < 0) ∨ posX ps (ca, cb) = none from hneg)
          have HMA := Lib.hid (show ma = i by rw [hma]; split; rfl; rcases hneg with h | h; contradiction; rw [h])
          clear hlk hneg hma hP
          go_wp2_with (first | (at_lookup; go_must (refine wpList_look_ok _ rfl _ _ 110 rfl 67 3 law67 Try.underlying110 Try.underlying3 (zero3 _) w2.heap.size _ m rfl HX.out.2.1 _ _ rfl (keyP HSM.out) ?_; rw [HLK.out])) | (at_mapUpdate; go_must (refine wpList_put _ rfl _ _ _ 110 rfl 67 3 law67 Try.underlying110 Try.underlying3 w2.heap.size _ m rfl HX.out.2.1 (by unfold maxLen; omega) _ _ rfl _ rfl (keyP HSM.out) (wf_nat _ (by omega)) ?_; rw [HLK.out]; intro wq hmq hgq; have HQ := Lib.hid (HX.out.1.put (ps' := ps ++ [(ca, cb)]) hmq (by rw [List.length_append, HZ.out.1]; simp; omega) (by have h5 := HX.out.2.2.put HSM.out HNEG.out; rw [HZ.out.1] at h5; exact h5) hgq); have bq := hgq.size; clear hmq hgq)) | (at_builtin; go_must (refine wpList_append_rd _ rfl _ _ 24 rfl (w2.heap.size + 1) 3 i0 (.int .i64 0) 1 8 Try.underlying24 HI.out.1 HI.out.2.1 HI.out.2.2.1 HI.out.2.2.2 rfl (by decide) _ _ _ rfl (HQ.out.own.alloc _) _ _ _ 1 1 _ rfl (rd_newS _ _ _) (by simp [Value.oneCell']) (by unfold maxLen; omega) (by omega) (by simp; omega) ?_; intro v4 w4 _ hown hgrow _; have HN := Lib.hid ((HQ.out.on ((Below.refl _ _).alloc (Nat.le_refl _) _)).app (mk' := mk ++ [(i : Int)]) hown hgrow (by rw [List.map_append]; rfl)); clear hown hgrow)))
          go_roundw
          case rel => exact ⟨i + 1, by omega, by go_num, Lib.hid (by rw [HY.out.1, HY.out.2.1, HMA.out]; exact HN.out)⟩
          case measure => simp [intOf]; omega
        | some v =>
          have HLK := Lib.hid hlk
          by_cases hng : ca < 0 ∨ cb < 0
          · have HNEG := Lib.hid (show ((ca, cb).1 < 0 ∨ (ca, cb).2 < 0) ∨ posX ps (ca, cb) = none from .inl hng)
            have HMA := Lib.hid (show ma = i by rw [hma, if_pos hng])
            clear hlk hma hP
            by_cases hca : ca < 0
            · clear hng
              go_wp2_with (first | (at_lookup; go_must (refine wpList_look_ok _ rfl _ _ 110 rfl 67 3 law67 Try.underlying110 Try.underlying3 (zero3 _) w2.heap.size _ m rfl HX.out.2.1 _ _ rfl (keyP HSM.out) ?_; rw [HLK.out])) | (at_mapUpdate; go_must (refine wpList_put _ rfl _ _ _ 110 rfl 67 3 law67 Try.underlying110 Try.underlying3 w2.heap.size _ m rfl HX.out.2.1 (by unfold maxLen; omega) _ _ rfl _ rfl (keyP HSM.out) (wf_nat _ (by omega)) ?_; rw [HLK.out]; intro wq hmq hgq; have HQ := Lib.hid (HX.out.1.put (ps' := ps ++ [(ca, cb)]) hmq (by rw [List.length_append, HZ.out.1]; simp; omega) (by have h5 := HX.out.2.2.put HSM.out HNEG.out; rw [HZ.out.1] at h5; exact h5) hgq); have bq := hgq.size; clear hmq hgq)) | (at_builtin; go_must (refine wpList_append_rd _ rfl _ _ 24 rfl (w2.heap.size + 1) 3 i0 (.int .i64 0) 1 8 Try.underlying24 HI.out.1 HI.out.2.1 HI.out.2.2.1 HI.out.2.2.2 rfl (by decide) _ _ _ rfl (HQ.out.own.alloc _) _ _ _ 1 1 _ rfl (rd_newS _ _ _) (by simp [Value.oneCell']) (by unfold maxLen; omega) (by omega) (by simp; omega) ?_; intro v4 w4 _ hown hgrow _; have HN := Lib.hid ((HQ.out.on ((Below.refl _ _).alloc (Nat.le_refl _) _)).app (mk' := mk ++ [(i : Int)]) hown hgrow (by rw [List.map_append]; rfl)); clear hown hgrow)))
              go_roundw
              case rel => exact ⟨i + 1, by omega, by go_num, Lib.hid (by rw [HY.out.1, HY.out.2.1, HMA.out]; exact HN.out)⟩
              case measure => simp [intOf]; omega
            · have hcb : cb < 0 := by omega
              clear hng
              go_wp2_with (first | (at_lookup; go_must (refine wpList_look_ok _ rfl _ _ 110 rfl 67 3 law67 Try.underlying110 Try.underlying3 (zero3 _) w2.heap.size _ m rfl HX.out.2.1 _ _ rfl (keyP HSM.out) ?_; rw [HLK.out])) | (at_mapUpdate; go_must (refine wpList_put _ rfl _ _ _ 110 rfl 67 3 law67 Try.underlying110 Try.underlying3 w2.heap.size _ m rfl HX.out.2.1 (by unfold maxLen; omega) _ _ rfl _ rfl (keyP HSM.out) (wf_nat _ (by omega)) ?_; rw [HLK.out]; intro wq hmq hgq; have HQ := Lib.hid (HX.out.1.put (ps' := ps ++ [(ca, cb)]) hmq (by rw [List.length_append, HZ.out.1]; simp; omega) (by have h5 := HX.out.2.2.put HSM.out HNEG.out; rw [HZ.out.1] at h5; exact h5) hgq); have bq := hgq.size; clear hmq hgq)) | (at_builtin; go_must (refine wpList_append_rd _ rfl _ _ 24 rfl (w2.heap.size + 1) 3 i0 (.int .i64 0) 1 8 Try.underlying24 HI.out.1 HI.out.2.1 HI.out.2.2.1 HI.out.2.2.2 rfl (by decide) _ _ _ rfl (HQ.out.own.alloc _) _ _ _ 1 1 _ rfl (rd_newS _ _ _) (by simp [Value.oneCell']) (by unfold maxLen; omega) (by omega) (by simp; omega) ?_; intro v4 w4 _ hown hgrow _; have HN := Lib.hid ((HQ.out.on ((Below.refl _ _).alloc (Nat.le_refl _) _)).app (mk' := mk ++ [(i : Int)]) hown hgrow (by rw [List.map_append]; rfl)); clear hown hgrow)))
              go_roundw
              case rel => exact ⟨i + 1, by omega, by go_num, Lib.hid (by rw [HY.out.1, HY.out.2.1, HMA.out]; exact HN.out)⟩
              case measure => simp [intOf]; omega
          · have hca : ¬ ca < 0 := by omega
            have hcb : ¬ cb < 0 := by omega
            have hpx := hP (ca, cb) HSM.out (by simp; omega) (by simp; omega)
            rw [hlk] at hpx
            cases hp : posX ps (ca, cb) with
            | none => rw [hp] at hpx; cases hpx
            | some p =>
              rw [hp] at hpx
              injection hpx with hpx
              have HMA := Lib.hid (show ma = p by rw [hma, if_neg hng, hp])
              have HK := Lib.hid (HX.out.1.with (ps' := ps ++ [(ca, cb)]) ⟨m, N, HX.out.2.1, by rw [List.length_append, HZ.out.1]; simp; omega, hP.keep hp⟩)
              subst hpx
              clear hlk hma hP hng hp
              go_wp2_with (first | (at_lookup; go_must (refine wpList_look_ok _ rfl _ _ 110 rfl 67 3 law67 Try.underlying110 Try.underlying3 (zero3 _) w2.heap.size _ m rfl HX.out.2.1 _ _ rfl (keyP HSM.out) ?_; rw [HLK.out])) | (at_builtin; go_must (refine wpList_append_rd _ rfl _ _ 24 rfl (w2.heap.size + 1) 3 i0 (.int .i64 0) 1 8 Try.underlying24 HI.out.1 HI.out.2.1 HI.out.2.2.1 HI.out.2.2.2 rfl (by decide) _ _ _ rfl (HK.out.own.alloc _) _ _ _ 1 1 _ rfl (rd_newS _ _ _) (by simp [Value.oneCell']) (by unfold maxLen; omega) (by omega) (by simp; omega) ?_; intro v4 w4 _ hown hgrow _; have HN := Lib.hid ((HK.out.on ((Below.refl _ _).alloc (Nat.le_refl _) _)).app (mk' := mk ++ [(p : Int)]) hown hgrow (by rw [List.map_append]; rfl)); clear hown hgrow)))
              go_roundw
              case rel => exact ⟨i + 1, by omega, by go_num, Lib.hid (by rw [HY.out.1, HY.out.2.1, HMA.out]; exact HN.out)⟩
              case measure => simp [intOf]; omega
    · have hin : i = n := by omega
      subst hin
      have hml := mtF_len l1 l2 i
      have hmb : ∀ x ∈ mtF l1 l2 i, 0 ≤ x ∧ x ≤ 1000 := by
        intro x hx
        obtain ⟨j, hj, rfl⟩ := List.mem_map.1 hx
        have := List.mem_range.1 hj
        have := mtAt_le l1 l2 j
        omega
      generalize hmk : mtF l1 l2 i = mk at *
      have HMK := Lib.hid hmk
      clear hmk
      have hSt : MtSt w _ _ _ _ _ _ _ mk wr := HR.out
      obtain ⟨XV, XC, rfl⟩ := own_slice hSt.own
      have HMB := Lib.hid hmb
      have HML := Lib.hid hml
      have c0 : wr.cell? ⟨w.heap.size, 0, none⟩ = some (.slice A1 i c1) := hSt.two.b0.cell 0
      have c1' : wr.cell? ⟨w.heap.size, 1, none⟩ = some (.slice A2 n2 c2) := hSt.two.b0.cell 1
      have d0 : wr.cell? ⟨w.heap.size + 1, 0, none⟩ = some (.slice B1 i d1) := hSt.two.b1.cell 0
      have d1' : wr.cell? ⟨w.heap.size + 1, 1, none⟩ = some (.slice B2 m2 d2) := hSt.two.b1.cell 1
      have HX := Lib.hid hSt
      clear hSt HR hml hmb HK1 HK2
      go_wp2_with fail
      have hrm : Rd wr 0 wr.heap.size 1 XV i (mk.map (Value.int .i64)) := by have h5 := (own_rd HX.out.own).more (Nat.zero_le _) (Nat.le_refl _); rw [HML.out] at h5; exact h5
      rw [HML.out]
      refine (made_any A1 A2 B1 B2 XV i c1 n2 c2 d1 m2 d2 XC L1 L2 L3 0 l1 l2 s1 mk wr (H1.out.up HX.out.two.below HX.out.two.below.size) (H2.out.up HX.out.two.below HX.out.two.below.size) (H3.out.up HX.out.two.below HX.out.two.below.size) hrm hn e2 HMB.out).mono ?_
      rintro e w5 ⟨E1, x1, E2, x2, rfl, o1, o2, hb5⟩
      have HY := Lib.hid (And.intro (HX.out.on hb5) (And.intro o1 o2))
      have bz := HX.out.two.below.size
      have hwr : w.heap.size + 2 < wr.heap.size := HX.out.b4.lt
      clear c0 c1' d0 d1' o1 o2 hb5 HX hrm
      have f0 : w5.frozen? ⟨w.heap.size + 2, 0, none⟩ = false := HY.out.1.b4.frozen 0
      have f1 : w5.frozen? ⟨w.heap.size + 2, 1, none⟩ = false := HY.out.1.b4.frozen 1
      have g0 : w5.cell? ⟨w.heap.size + 2, 0, none⟩ = some (.slice none 0 0) := HY.out.1.b4.cell 0
      have g1 : w5.cell? ⟨w.heap.size + 2, 1, none⟩ = some (.slice none 0 0) := HY.out.1.b4.cell 1
      have hs1 := HY.out.1.s1
      have hq1 := HY.out.1.two.below.size
      generalize hg1 : madeL l1 l2 mk = ml at *
      generalize hg2 : madeS l1 l2 mk s1 = ms at *
      generalize hg3 : madeE l1 l2 mk = me at *
      have HG := Lib.hid (And.intro hg1 (And.intro hg2 hg3))
      clear hg1 hg2 hg3
      go_wp2
      have HF := (HY.out.1.b4.set_ 0 (.slice E1 ml.length x1)).set_ 1 (.slice E2 ms.length x2)
      have t0 := HF.cell 0
      have t1 := HF.cell 1
      simp at t0 t1
      refine bodyPost_ret (v := .tuple #[.agg #[.slice E1 ml.length x1, .slice E2 ms.length x2], .int .i64 me]) (by simp [results, Try.results45, go_sem, t0, t1]) rfl ?_
      rw [HMK.out, HG.out.1, HG.out.2.1, HG.out.2.2]
      exact ⟨E1, x1, E2, x2, rfl, own_more (own_setCell (p := ⟨w.heap.size + 2, 1, none⟩) (own_setCell (p := ⟨w.heap.size + 2, 0, none⟩) HY.out.2.1 hwr _) hwr _) bz, own_more (own_setCell (p := ⟨w.heap.size + 2, 1, none⟩) (own_setCell (p := ⟨w.heap.size + 2, 0, none⟩) HY.out.2.2 hwr _) hwr _) bz, (HY.out.1.two.below.setCell (by simp; omega) _).setCell (by simp; omega) _⟩
end Go.Proofs.Ytbjfbmienlojkaa
