/- made: the walk. -/
import Derived.Test.YtbjfbmienlojkaaT57
import Derived.Deep.DeepMust
namespace Go.Proofs.Ytbjfbmienlojkaa
open Go.RowKit Go.Maps

theorem takeI_snoc (mk : List Int) {i : Nat} (h : i < mk.length) : mk.take (i + 1) = mk.take i ++ [mk[i]] := List.take_succ_eq_append_getElem h

set_option maxHeartbeats 4000000 in
set_option maxRecDepth 100000 in
theorem made_any (A1 A2 B1 B2 M : Option Addr) (n c1 n2 c2 d1 m2 d2 cm L1 L2 L3 L5 : Nat) (l1 l2 : List (Int × Int)) (st mk : List Int) (w : World)
    (h1 : Rd w L1 w.heap.size 2 A1 n (prs l1)) (h2 : Rd w L2 w.heap.size 1 A2 n2 (st.map (Value.int .i64))) (h3 : Rd w L3 w.heap.size 2 B1 n (prs l2)) (h5 : Rd w L5 w.heap.size 1 M n (mk.map (Value.int .i64)))
    (hn : n ≤ 512) (hn2 : n2 ≤ 512) (hmk : ∀ x ∈ mk, 0 ≤ x ∧ x ≤ 1000) :
    Calls Try.prog 72 #[.agg #[.slice A1 n c1, .slice A2 n2 c2], .agg #[.slice B1 n d1, .slice B2 m2 d2], .slice M n cm] w fun e w' => ∃ E1 e1 E2 e2, e = .returned (.tuple #[.agg #[.slice E1 (madeL l1 l2 mk).length e1, .slice E2 (madeS l1 l2 mk st).length e2], .int .i64 (madeE l1 l2 mk)]) ∧
      w'.ownsRow w.heap.size 66 2 (.slice E1 (madeL l1 l2 mk).length e1) (madeL l1 l2 mk).length (prs (madeL l1 l2 mk)) ∧ w'.ownsRow w.heap.size 3 1 (.slice E2 (madeS l1 l2 mk st).length e2) (madeS l1 l2 mk st).length ((madeS l1 l2 mk st).map (Value.int .i64)) ∧ Below w.heap.size w w' := by
  have hmn : mk.length = n := by have := h5.1; simpa using this
  have hsn : st.length = n2 := by have := h2.1; simpa using this
  have H1 := Lib.hid h1
  have H2 := Lib.hid h2
  have H3 := Lib.hid h3
  have H5 := Lib.hid h5
  have HMK := Lib.hid hmk
  have HMN := Lib.hid hmn
  have HSN := Lib.hid hsn
  have hmm := @run_makeMap Try.prog
  have hinfo : (Try.prog.info? 66).map (fun i => (i.zero, i.size, i.bytes)) = some (some (.agg #[.int .i64 0, .int .i64 0]), 2, 16) := by kernel_rfl
  obtain ⟨i0, hi, hz0, hz1, hz2⟩ := info_parts hinfo
  have HI := Lib.hid (And.intro hi (And.intro hz0 (And.intro hz1 hz2)))
  clear h1 h2 h3 h5 hmk hmn hsn hi hz0 hz1 hz2 hinfo
  go_enter Try.func72, Try.ntmps72
  go_upto_region 2 with (fail)
  refine wp_abs (McSt w (.slice A1 n c1) (.slice A2 n2 c2) (.slice B1 n d1) (.slice B2 m2 d2) (mk.take 0)) (mc_init w _ _ _ _) ?_
  intro w1 hS
  have HS := Lib.hid hS
  clear hS hmm
  go_wp2
  go_loopw [21] (fun iv wr => ∃ i : Nat, i ≤ n ∧ iv = .int .i64 i ∧ Hid (McSt w (.slice A1 n c1) (.slice A2 n2 c2) (.slice B1 n d1) (.slice B2 m2 d2) (mk.take i) wr)) (fun iv _ => n - (intOf iv).toNat)
  case atStart => exact ⟨0, by omega, rfl, HS⟩
  case round =>
    obtain ⟨i, hi, rfl, HR⟩ := hrel
    clear HS
    by_cases hlt : i < n
    · obtain ⟨b, o, hil, rfl, hL, hB, hc⟩ := (H5.out.below HR.out.below (Nat.le_refl _)).one hlt
      have hx := HMK.out _ (List.getElem_mem hil)
      have htk := takeI_snoc mk hil
      generalize mk[i] = x at hc hx htk
      obtain ⟨m, N, hm, hN, hcnt⟩ := HR.out.mp
      have hlk := hcnt.look x
      have hcl := cntI_le (mk.take i) x
      have htl : (mk.take i).length = i := by rw [List.length_take]; omega
      generalize hcx : cntI (mk.take i) x = cx at hlk hcl
      have HCX := Lib.hid hcx
      have HLK := Lib.hid hlk
      have HX := Lib.hid (And.intro HR.out (And.intro hm hcnt))
      have HTK := Lib.hid htk
      have HTL := Lib.hid htl
      have x1 := hx.1
      have x2 := hx.2
      have hN2 : N ≤ i := by omega
      have hc2' : cx ≤ 512 := by omega
      clear hx htk hm hcnt hlk htl hcx hN hcl HR hL hB
      go_wp2_with (first
        | (at_lookup; go_must (refine wpList_look _ rfl _ _ 115 rfl 3 3 lawI Try.underlying115 Try.underlying3 (zero3 _) (w.heap.size + 3) _ m rfl HX.out.2.1 _ _ rfl (keyI ⟨x1, x2⟩) ?_; rw [HLK.out]))
        | (at_mapUpdate; go_must (refine wpList_put _ rfl _ _ _ 115 rfl 3 3 lawI Try.underlying115 Try.underlying3 (w.heap.size + 3) _ m rfl HX.out.2.1 (by unfold maxLen; omega) _ _ rfl _ rfl (keyI ⟨x1, x2⟩) (wf_small (by omega)) ?_; intro wq hmq hgq; have HN := Lib.hid (HX.out.1.put (pre' := mk.take (i + 1)) hmq (by rw [HTK.out, List.length_append, HTL.out]; simp; split <;> omega) (by rw [HTK.out, ← HCX.out]; exact HX.out.2.2.put x) hgq); clear hmq hgq)))
      go_roundw
      case rel => exact ⟨i + 1, by omega, by go_num, HN⟩
      case measure => simp [intOf]; omega
    · have hin : i = n := by omega
      subst hin
      have htk : mk.take i = mk := List.take_of_length_le (by rw [HMN.out]; exact Nat.le_refl _)
      have HR2 := Lib.hid (htk ▸ HR.out)
      have c01 : wr.cell? ⟨w.heap.size, 1, none⟩ = some (.slice A2 n2 c2) := HR.out.b3.cell 1
      clear htk HR
      go_wp2_with fail
      refine (cloneI_any A2 n2 c2 L2 w.heap.size st wr (H2.out.below HR2.out.below (Nat.le_refl _)) (by omega)).mono ?_
      rintro e w2 ⟨S', sc, rfl, o2, hb2⟩
      clear c01
      have hsz : w.heap.size + 5 ≤ wr.heap.size := by have := HR2.out.mq.lt; omega
      have hos : w2.ownsRow (w.heap.size + 5) 3 1 (.slice S' st.length sc) st.length (st.map (Value.int .i64)) := own_more (by rw [HSN.out]; exact o2) hsz
      have hbs := hb2.size
      have hinit : MdSt w (.slice A1 i c1) (.slice A2 n2 c2) (.slice B1 i d1) (.slice B2 m2 d2) w2.heap.size (.slice none 0 0) (.slice S' st.length sc) mk [] [] st (w2.alloc (.cells #[.slice none 0 0, .slice S' st.length sc] 26)) := by
        have hB : Below wr.heap.size wr (w2.alloc (.cells #[.slice none 0 0, .slice S' st.length sc] 26)) := hb2.alloc hbs _
        obtain ⟨m, N, p1, _, p2⟩ := HR2.out.mp
        exact ⟨HR2.out.b3.below hB HR2.out.b3.lt, HR2.out.b4.below hB HR2.out.b4.lt, HR2.out.b6.below hB HR2.out.b6.lt, Blk.new _ _ _, ⟨m, N, p1.on hB, p2⟩, ⟨_, HR2.out.mq.on hB, fun s => rfl⟩, World.ownsRow_nil _ _ _ _, hos.alloc _,
          HR2.out.below.trans (hB.mono HR2.out.below.size), by omega, fun k hk => (hos.lt k hk).2⟩
      have HIN := Lib.hid hinit
      have HSN2 : st.length = n2 := HSN.out
      clear hinit hos o2 hb2
      subst HSN2
      go_upto_region 8 with (fail)
      refine wp_abs (MdSt w (.slice A1 i c1) (.slice A2 st.length c2) (.slice B1 i d1) (.slice B2 m2 d2) w2.heap.size (.slice none 0 0) (.slice S' st.length sc) mk (md l1 l2 mk 0).1 (md l1 l2 mk 0).2 st) HIN.out ?_
      intro w3 hS
      have HS := Lib.hid hS
      clear hS HIN HR2 hsz hbs
      go_wp2
      go_loopw [36] (fun iv wr => ∃ (j : Nat) (lv : Value), j ≤ i ∧ iv = .int .i64 j ∧ Hid (MdSt w (.slice A1 i c1) (.slice A2 st.length c2) (.slice B1 i d1) (.slice B2 m2 d2) w2.heap.size lv (.slice S' st.length sc) mk (md l1 l2 mk j).1 (md l1 l2 mk j).2 st wr)) (fun iv _ => i - (intOf iv).toNat)
      case atStart => exact ⟨0, _, by omega, rfl, HS⟩
      case round =>
        obtain ⟨j, lv, hj, rfl, HR⟩ := hrel
        clear HS
        obtain ⟨fl1, fl2⟩ := md_len l1 l2 mk j
        by_cases hlt : j < i
        · obtain ⟨b, o, hil, rfl, hL, hB, hc⟩ := (H5.out.below HR.out.below (Nat.le_refl _)).one hlt
          obtain ⟨b1, o1, hl1, rfl, _, _, p1, _⟩ := (H1.out.below HR.out.below (Nat.le_refl _)).two hlt
          obtain ⟨b2, o2, hl2, rfl, _, _, p2, _⟩ := (H3.out.below HR.out.below (Nat.le_refl _)).two hlt
          have hce : clsAt l1 j = l1[j].1 := clsAt_get hl1
          have hde : clsAt l2 j = l2[j].1 := clsAt_get hl2
          have hx := HMK.out _ (List.getElem_mem hil)
          have hgd : mk.getD j 0 = mk[j] := by rw [List.getD_eq_getElem?_getD, List.getElem?_eq_getElem hil]; rfl
          have hsu : md l1 l2 mk (j + 1) = mdStep (loneAt l1 l2 mk j mk[j]) mk[j] (md l1 l2 mk j) := by rw [← hgd]; rfl
          have hlone : loneAt l1 l2 mk j mk[j] = (decide (cntI mk mk[j] = 1) && (decide (l1[j].1 < 0) && decide (l2[j].1 < 0))) := by unfold loneAt; rw [hce, hde]
          rw [hlone] at hsu
          generalize l1[j].1 = ca at *
          generalize l2[j].1 = cb at *
          generalize mk[j] = x at *
          generalize hst : md l1 l2 mk j = st0 at *
          obtain ⟨ds, out⟩ := st0
          simp only at fl1 fl2
          have hSt : MdSt w _ _ _ _ _ lv _ mk ds out st wr := HR.out
          obtain ⟨mc, N, hmc, hcnt⟩ := hSt.mp
          obtain ⟨mq, hmq, hpq⟩ := hSt.mq
          have hlk := hcnt.look x
          have hml := hpq x
          have hcl := cntI_le mk x
          obtain ⟨XV, XC, rfl⟩ := own_slice hSt.own
          generalize hcx : cntI mk x = cx at *
          have HX := Lib.hid (And.intro hSt (And.intro hmc (And.intro hmq hpq)))
          have HSU := Lib.hid hsu
          have HLK := Lib.hid hlk
          have x1 := hx.1
          have x2 := hx.2
          have c30 : wr.cell? ⟨w.heap.size, 0, none⟩ = some (.slice (some ⟨b1, o1, none⟩) i c1) := hSt.b3.cell 0
          have c40 : wr.cell? ⟨w.heap.size + 1, 0, none⟩ = some (.slice (some ⟨b2, o2, none⟩) i d1) := hSt.b4.cell 0
          have c120 : wr.cell? ⟨w2.heap.size, 0, none⟩ = some (.slice XV out.length XC) := hSt.b12.cell 0
          have bw := hSt.below.size
          have bw2 := hSt.b12.lt
          have bs1 := hSt.s1
          have fl3 : out.length ≤ 512 := by omega
          have fl4 : ds.length ≤ 512 := by omega
          have hcx2 : cx ≤ 512 := by have := HMN.out; omega
          have hms : mk.length ≤ 512 := by have := HMN.out; omega
          clear hsu hlone hgd hce hde hst hSt hmc hcnt hmq hpq hcx hL hB HR hx hlk fl1 hcl
          by_cases hlo : cx = 1 ∧ ca < 0 ∧ cb < 0
          · obtain ⟨rfl, hca, hcb⟩ := hlo
            have hb1 : (((1 : Nat) : Int) == (1 : Int)) = true := rfl
            have hm2 : mdStep (decide (1 = 1) && (decide (ca < 0) && decide (cb < 0))) x (ds, out) = (ds, out ++ [(-1, 0)]) := by unfold mdStep; simp [hca, hcb]
            have HM2 := Lib.hid hm2
            clear hm2
            go_wp2_with (first
              | (at_lookup; refine wpList_look _ rfl _ _ 115 rfl 3 3 lawI Try.underlying115 Try.underlying3 (zero3 _) (w.heap.size + 3) _ mc rfl HX.out.2.1 _ _ rfl (keyI ⟨x1, x2⟩) ?_; rw [HLK.out])
              | (at_builtin; go_must (refine wpList_append_rd _ rfl _ _ 23 rfl (w2.heap.size + 1) 66 i0 (.agg #[.int .i64 0, .int .i64 0]) 2 16 Try.underlying23 HI.out.1 HI.out.2.1 HI.out.2.2.1 HI.out.2.2.2 rfl (by decide) _ _ _ rfl (HX.out.1.own.alloc _) _ _ _ 1 1 _ rfl (rd_newP _ _ _ _) (by simp [Value.oneCell']) (by unfold maxLen; omega) (by omega) (by simp; omega) ?_; intro v4 w4 _ hown hgrow _; obtain ⟨X4, C4, rfl⟩ := own_slice hown; have HN := Lib.hid ((HX.out.1.on ((Below.refl _ _).alloc (Nat.le_refl _) _)).app (out' := out ++ [(-1, 0)]) hown hgrow (by rw [prs_append]; rfl)); have d0 : w4.cell? ⟨w2.heap.size, 0, none⟩ = some (.slice XV out.length XC) := HN.out.2.cell 0; have d1 : w4.frozen? ⟨w2.heap.size, 0, none⟩ = false := HN.out.2.frozen 0; clear hown hgrow)))
            go_roundw
            case rel => exact ⟨j + 1, _, by omega, by go_num, Lib.hid (by rw [HSU.out, HM2.out]; exact HN.out.1)⟩
            case measure => simp [intOf]; omega
          · have hlf : (decide (cx = 1) && (decide (ca < 0) && decide (cb < 0))) = false := by
              simp only [Bool.and_eq_false_iff, decide_eq_false_iff_not]
              omega
            have HLF := Lib.hid hlf
            clear hlf
            have hcases : (((cx : Int) == 1) = false) ∨ (((cx : Int) == 1) = true ∧ ¬ ca < 0) ∨ (((cx : Int) == 1) = true ∧ ca < 0 ∧ ¬ cb < 0) := by
              simp only [beq_iff_eq, beq_eq_false_iff_ne, ne_eq]
              omega
            clear hlo
            cases hpos : posI ds x with
            | some p =>
              have hpl := posI_lt hpos
              have hml2 : mq (litI x) = some (p : Int) := by rw [hml, hpos]; rfl
              have HM := Lib.hid hml2
              have hm2 : mdStep false x (ds, out) = (ds, out ++ [((p : Int), 0)]) := by unfold mdStep; simp [hpos]
              have HM2 := Lib.hid hm2
              clear hml hml2 hpos hm2
              rcases hcases with hb1 | ⟨hb1, hb2⟩ | ⟨hb1, hb2, hb3⟩
              all_goals go_wp2_with (first
                | (at_lookup; refine wpList_look _ rfl _ _ 115 rfl 3 3 lawI Try.underlying115 Try.underlying3 (zero3 _) (w.heap.size + 3) _ mc rfl HX.out.2.1 _ _ rfl (keyI ⟨x1, x2⟩) ?_; rw [HLK.out])
                | (at_lookup; go_must (refine wpList_look_ok _ rfl _ _ 115 rfl 3 3 lawI Try.underlying115 Try.underlying3 (zero3 _) (w.heap.size + 4) _ mq rfl HX.out.2.2.1 _ _ rfl (keyI ⟨x1, x2⟩) ?_; rw [HM.out]))
                | (at_builtin; go_must (refine wpList_append_rd _ rfl _ _ 23 rfl (w2.heap.size + 1) 66 i0 (.agg #[.int .i64 0, .int .i64 0]) 2 16 Try.underlying23 HI.out.1 HI.out.2.1 HI.out.2.2.1 HI.out.2.2.2 rfl (by decide) _ _ _ rfl (HX.out.1.own.alloc _) _ _ _ 1 1 _ rfl (rd_newP _ _ _ _) (by simp [Value.oneCell']) (by unfold maxLen; omega) (by omega) (by simp; omega) ?_; intro v4 w4 _ hown hgrow _; obtain ⟨X4, C4, rfl⟩ := own_slice hown; have HN := Lib.hid ((HX.out.1.on ((Below.refl _ _).alloc (Nat.le_refl _) _)).app (out' := out ++ [((p : Int), 0)]) hown hgrow (by rw [prs_append]; rfl)); have d0 : w4.cell? ⟨w2.heap.size, 0, none⟩ = some (.slice XV out.length XC) := HN.out.2.cell 0; have d1 : w4.frozen? ⟨w2.heap.size, 0, none⟩ = false := HN.out.2.frozen 0; clear hown hgrow)))
              all_goals go_roundw
              case rel => exact ⟨j + 1, _, by omega, by go_num, Lib.hid (by rw [HSU.out, HLF.out, HM2.out]; exact HN.out.1)⟩
              case measure => simp [intOf]; omega
              case rel => exact ⟨j + 1, _, by omega, by go_num, Lib.hid (by rw [HSU.out, HLF.out, HM2.out]; exact HN.out.1)⟩
              case measure => simp [intOf]; omega
              case rel => exact ⟨j + 1, _, by omega, by go_num, Lib.hid (by rw [HSU.out, HLF.out, HM2.out]; exact HN.out.1)⟩
              case measure => simp [intOf]; omega
            | none =>
              have hml2 : mq (litI x) = none := by rw [hml, hpos]; rfl
              have HM := Lib.hid hml2
              have HP := Lib.hid hpos
              have hm2 : mdStep false x (ds, out) = (ds ++ [x], out ++ [((ds.length : Int), 0)]) := by unfold mdStep; simp [hpos]
              have HM2 := Lib.hid hm2
              clear hml hml2 hpos hm2
              rcases hcases with hb1 | ⟨hb1, hb2⟩ | ⟨hb1, hb2, hb3⟩
              all_goals go_wp2_with (first
                | (at_lookup; refine wpList_look _ rfl _ _ 115 rfl 3 3 lawI Try.underlying115 Try.underlying3 (zero3 _) (w.heap.size + 3) _ mc rfl HX.out.2.1 _ _ rfl (keyI ⟨x1, x2⟩) ?_; rw [HLK.out])
                | (at_lookup; go_must (refine wpList_look_ok _ rfl _ _ 115 rfl 3 3 lawI Try.underlying115 Try.underlying3 (zero3 _) (w.heap.size + 4) _ mq rfl HX.out.2.2.1 _ _ rfl (keyI ⟨x1, x2⟩) ?_; rw [HM.out]))
                | (at_len; refine wpList_lenM _ rfl _ 115 rfl 3 3 Try.underlying115 (w.heap.size + 4) _ mq rfl HX.out.2.2.1 ?_)
                | (at_mapUpdate; go_must (refine wpList_put _ rfl _ _ _ 115 rfl 3 3 lawI Try.underlying115 Try.underlying3 (w.heap.size + 4) _ mq rfl HX.out.2.2.1 (by unfold maxLen; omega) _ _ rfl _ rfl (keyI ⟨x1, x2⟩) (wf_nat _ (by omega)) ?_; rw [HM.out]; intro wq hmq hgq; have HQ := Lib.hid (HX.out.1.put (ds' := ds ++ [x]) (by rw [List.length_append]; exact hmq) (HX.out.2.2.2.put HP.out) hgq); have bq := hgq.size; have c121 : wq.cell? ⟨w2.heap.size, 0, none⟩ = some (.slice XV out.length XC) := HQ.out.b12.cell 0; clear hmq hgq))
                | (at_builtin; go_must (refine wpList_append_rd _ rfl _ _ 23 rfl (w2.heap.size + 1) 66 i0 (.agg #[.int .i64 0, .int .i64 0]) 2 16 Try.underlying23 HI.out.1 HI.out.2.1 HI.out.2.2.1 HI.out.2.2.2 rfl (by decide) _ _ _ rfl (HQ.out.own.alloc _) _ _ _ 1 1 _ rfl (rd_newP _ _ _ _) (by simp [Value.oneCell']) (by unfold maxLen; omega) (by omega) (by simp; omega) ?_; intro v4 w4 _ hown hgrow _; obtain ⟨X4, C4, rfl⟩ := own_slice hown; have HN := Lib.hid ((HQ.out.on ((Below.refl _ _).alloc (Nat.le_refl _) _)).app (out' := out ++ [((ds.length : Int), 0)]) hown hgrow (by rw [prs_append]; rfl)); have d0 : w4.cell? ⟨w2.heap.size, 0, none⟩ = some (.slice XV out.length XC) := HN.out.2.cell 0; have d1 : w4.frozen? ⟨w2.heap.size, 0, none⟩ = false := HN.out.2.frozen 0; clear hown hgrow)))
              all_goals go_roundw
              case rel => exact ⟨j + 1, _, by omega, by go_num, Lib.hid (by rw [HSU.out, HLF.out, HM2.out]; exact HN.out.1)⟩
              case measure => simp [intOf]; omega
              case rel => exact ⟨j + 1, _, by omega, by go_num, Lib.hid (by rw [HSU.out, HLF.out, HM2.out]; exact HN.out.1)⟩
              case measure => simp [intOf]; omega
              case rel => exact ⟨j + 1, _, by omega, by go_num, Lib.hid (by rw [HSU.out, HLF.out, HM2.out]; exact HN.out.1)⟩
              case measure => simp [intOf]; omega
        · have hji : j = mk.length := by have := HMN.out; omega
          have hin : i = mk.length := HMN.out.symm
          subst hin
          subst hji
          have hE : madeE l1 l2 mk = if 25 < (md l1 l2 mk mk.length).1.length then 5 else 0 := rfl
          have hLL : madeL l1 l2 mk = if madeE l1 l2 mk = 0 then (md l1 l2 mk mk.length).2 else [] := rfl
          have hSS : madeS l1 l2 mk st = if madeE l1 l2 mk = 0 then st else [] := rfl
          generalize hst : md l1 l2 mk mk.length = st0 at *
          obtain ⟨ds, out⟩ := st0
          simp only at fl1 fl2 hE hLL
          have hSt : MdSt w _ _ _ _ _ lv _ mk ds out st wr := HR.out
          obtain ⟨mq, hmq, hpq⟩ := hSt.mq
          obtain ⟨XV, XC, rfl⟩ := own_slice hSt.own
          have HX := Lib.hid (And.intro hSt hmq)
          have f0 : wr.frozen? ⟨w.heap.size + 2, 0, none⟩ = false := hSt.b6.frozen 0
          have f1 : wr.frozen? ⟨w.heap.size + 2, 1, none⟩ = false := hSt.b6.frozen 1
          have e0 : wr.cell? ⟨w.heap.size + 2, 0, none⟩ = some (.slice none 0 0) := hSt.b6.cell 0
          have e1 : wr.cell? ⟨w.heap.size + 2, 1, none⟩ = some (.slice none 0 0) := hSt.b6.cell 1
          have d0 : wr.cell? ⟨w2.heap.size, 0, none⟩ = some (.slice XV out.length XC) := hSt.b12.cell 0
          have d1 : wr.cell? ⟨w2.heap.size, 1, none⟩ = some (.slice S' st.length sc) := hSt.b12.cell 1
          have bw2 := hSt.b12.lt
          have bs1 := hSt.s1
          have bs2 := hSt.s2
          have BS := Lib.hid bs2
          clear hmq hpq hSt HR hst bs2 fl2 fl1
          by_cases h25 : 25 < ds.length
          · rw [if_pos h25] at hE
            rw [hE, if_neg (by decide)] at hLL hSS
            have HE := Lib.hid (And.intro hE (And.intro hLL hSS))
            have hd : decide ((25 : Int) < (ds.length : Int)) = true := by simp; omega
            have hd2 : decide (25 < ds.length) = true := by simpa using h25
            clear hE hLL hSS
            go_wp2_with (at_len; refine wpList_lenM _ rfl _ 115 rfl 3 3 Try.underlying115 (w.heap.size + 4) _ mq rfl HX.out.2 ?_)
            have HF2 := (HX.out.1.b6.set_ 0 (.slice none 0 0)).set_ 1 (.slice none 0 0)
            have g0 := HF2.cell 0
            have g1 := HF2.cell 1
            simp at g0 g1
            refine bodyPost_ret (v := .tuple #[.agg #[.slice none 0 0, .slice none 0 0], .int .i64 5]) (by simp [results, Try.results72, go_sem, g0, g1]) rfl ?_
            rw [HE.out.1, HE.out.2.1, HE.out.2.2]
            exact ⟨none, 0, none, 0, rfl, World.ownsRow_nil _ _ _ _, World.ownsRow_nil _ _ _ _, (HX.out.1.below.setCell (by simp; omega) _).setCell (by simp; omega) _⟩
          · rw [if_neg h25] at hE
            rw [hE, if_pos rfl] at hLL hSS
            have HE := Lib.hid (And.intro hE (And.intro hLL hSS))
            have hd : decide ((25 : Int) < (ds.length : Int)) = false := by simp; omega
            have hd2 : decide (25 < ds.length) = false := by simpa using h25
            clear hE hLL hSS
            go_wp2_with (first
              | (at_len; refine wpList_lenM _ rfl _ 115 rfl 3 3 Try.underlying115 (w.heap.size + 4) _ mq rfl HX.out.2 ?_)
              | fail)
            have HF2 := (HX.out.1.b6.set_ 0 (.slice XV out.length XC)).set_ 1 (.slice S' st.length sc)
            have g0 := HF2.cell 0
            have g1 := HF2.cell 1
            simp at g0 g1
            refine bodyPost_ret (v := .tuple #[.agg #[.slice XV out.length XC, .slice S' st.length sc], .int .i64 0]) (by simp [results, Try.results72, go_sem, g0, g1]) rfl ?_
            rw [HE.out.1, HE.out.2.1, HE.out.2.2]
            exact ⟨XV, XC, S', sc, rfl, own_more (own_setCell (own_setCell HX.out.1.own (by simp; omega) _) (by simp; omega) _) (by omega), own_more (own_setCell (own_setCell HX.out.1.os (by simp) _) (by simp) _) (by omega), (HX.out.1.below.setCell (by simp; omega) _).setCell (by simp; omega) _⟩
end Go.Proofs.Ytbjfbmienlojkaa
