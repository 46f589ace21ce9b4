import Derived.Test.YtbjfbmienlojkaaT2
namespace Go.Proofs.Ytbjfbmienlojkaa
open Go.RowKit

noncomputable def scope15 : Code := match Try.f15.body with | some (.seq _ (.scope c)) => c | _ => .skip

theorem extract_size (s : ByteArray) (pos : Nat) : (s.extract pos s.size).size = s.size - pos := by simp

set_option maxHeartbeats 1000000 in
set_option maxRecDepth 100000 in
theorem line_wp (w0 : World) (s : ByteArray) (hs : s.size ≤ 65536) (top : Res) (Q : Exit → Act → World → Prop) (m : Nat) (a : Act) (w : World) (h : J1 w0 s top m a w) :
    ∃ b, findLabel scope15 1 = some (.seq .skip b) ∧ b.wp Try.prog (Exit.jumps (fun l' a' w' => ∃ m', m' < m ∧ JJ w0 s top l' m' a' w') Q) a w := by
  refine ⟨_, rfl, ?_⟩
  obtain ⟨pos, n, ls, st, v1, v2, r, cls, e, spot, hst, ⟨he, hm, ht⟩, hls, hstl, hn, hpos, f, rfl⟩ := h
  subst he
  have HM := Lib.hid hm
  have HT := Lib.hid ht
  clear hm ht
  have H := Lib.hid hst
  have c0 : w.cell? ⟨w0.heap.size, 0, none⟩ = some (.string s) := hst.b0.cell 0
  have c4 : w.cell? ⟨w0.heap.size + 1 + 1 + 1 + 1, 0, none⟩ = some (.string (s.extract pos s.size)) := hst.b4.cell 0
  obtain ⟨A1, C1, rfl⟩ := own_slice hst.o1
  obtain ⟨A2, C2, rfl⟩ := own_slice hst.o2
  clear hst
  have hes := extract_size s pos
  have HES := Lib.hid hes
  clear hes
  have hpz : (s.size : Int) - ((s.extract pos s.size).size : Int) = pos := by rw [HES.out]; omega
  have HPZ := Lib.hid hpz
  clear hpz
  rcases Nat.lt_or_ge pos s.size with hlt | hge
  · go_wp2_with fail
    refine (at_any _ _ s (s.extract pos s.size) w c0 c4 (by rw [HES.out]; omega) hs).mono ?_
    rintro e1 w1 ⟨rfl, rfl⟩
    rw [HPZ.out]
    have htk := took_at s pos hlt
    generalize hR : tookR (s.extract pos s.size) = R at htk
    generalize hS : tookS (s.extract pos s.size) = S' at htk
    have HTK := Lib.hid htk
    have HR := Lib.hid hR
    have HS' := Lib.hid hS
    clear htk hR hS
    go_wp2_with fail
    refine (take_any _ _ _ _ _ H.out.b4 H.out.b5 (by omega) (by rw [HES.out]; omega)).mono ?_
    rw [HR.out, HS'.out]
    rintro e2 w2 ⟨rfl, hp2, hq2, ho2⟩
    have H2 := Lib.hid (H.out.took hp2 hq2 ho2)
    clear hp2 hq2 ho2 c0 c4
    have c5 : w2.cell? ⟨w0.heap.size + 1 + 1 + 1 + 1 + 1, 0, none⟩ = some (.int .i32 R) := H2.out.b5.cell 0
    go_wp2_with fail
    refine (place_any lettersB R w2 (fun i hi => lettersB_ascii _ (by simp [ByteArray.getElem_eq_getElem_data])) (by decide)).mono ?_
    rintro e3 w3 ⟨rfl, hb3⟩
    have H3 := Lib.hid (H2.out.on hb3)
    clear hb3 c5
    rw [show placeF lettersB.data.toList R 0 = smallOf R from rfl]
    generalize hsm : smallOf R = sm
    have HSM := Lib.hid hsm
    clear hsm
    have c5 : w3.cell? ⟨w0.heap.size + 1 + 1 + 1 + 1 + 1, 0, none⟩ = some (.int .i32 R) := H3.out.b5.cell 0
    have d0 : w3.cell? ⟨w0.heap.size + 1 + 1 + 1, 0, none⟩ = some (.slice A1 ls.length C1) := H3.out.b3.cell 0
    have d1 : w3.cell? ⟨w0.heap.size + 1 + 1 + 1, 1, none⟩ = some (.slice A2 st.length C2) := H3.out.b3.cell 1
    obtain ⟨c, hc⟩ : ∃ c, c = s[pos] := ⟨_, rfl⟩
    have htop : top = rdF (c :: s.data.toList.drop (pos + 1)) pos n ls st := by
      rw [HT.out, drop_at s.data.toList pos (by simpa using hlt), hc]; rfl
    have HTOP := Lib.hid htop
    have HC := Lib.hid hc
    have htk := HTK.out
    rw [← HC.out] at htk
    have hsm : smallOf R = sm := HSM.out
    clear HT htop hc
    by_cases hA : R = 32 ∧ 0 < n
    · obtain ⟨rfl, hn0⟩ := hA
      obtain ⟨hRc, hS2⟩ := htk.resolve_right (by omega)
      have htop2 : top = rdF (s.data.toList.drop (pos + 1)) (pos + 1) 0 ls (st ++ [(n : Int)]) := by
        rw [HTOP.out, rdF_cons, if_pos ⟨by omega, hn0⟩]
      have HT2 := Lib.hid htop2
      clear htop2
      subst hS2
      clear hRc hsm
      have hinfo : (Try.prog.info? 3).map (fun i => (i.zero, i.size, i.bytes)) = some (some (.int .i64 0), 1, 8) := by kernel_rfl
      obtain ⟨i0, hi, hz0, hz1, hz2⟩ := info_parts hinfo
      clear hinfo
      go_wp2_with (at_builtin; refine wpList_append_own _ rfl _ _ 24 rfl (w0.heap.size + 6) 3 i0 (.int .i64 0) 1 8 Try.underlying24 hi hz0 hz1 hz2 rfl (by decide) _ _ _ rfl (H3.out.o2.alloc _) ⟨w3.heap.size, 0, none⟩ 1 1 [.int .i64 n] rfl rfl ?c1 ?c2 ?c3 ?c4 ?c5 ?_)
      case c1 =>
        intro j u hj
        match j, hj with
        | 0, hj => simp at hj; subst hj; simp [Addr.add]
      case c2 => intro u hu; simp at hu; subst hu; rfl
      case c3 => unfold maxLen; omega
      case c4 => omega
      case c5 => have := H3.out.b5.lt; simp; omega
      · intro v' w4 hown' hgrow _
        have hrow : ∀ k, (Value.slice A2 st.length C2).ownBlock = some k → w0.heap.size + 6 ≤ k := fun k hk => (H3.out.o2.lt k hk).1
        have hmid := H3.out.mid _ hrow _ hgrow
        have g1 : w4.cell? ⟨w0.heap.size + 1 + 1 + 1, 1, none⟩ = some (.slice A2 st.length C2) := hmid.cell 1
        have g2 : w4.frozen? ⟨w0.heap.size + 1 + 1 + 1, 1, none⟩ = false := hmid.frozen 1
        have H4 := Lib.hid (H3.out.put (ls' := ls) (st' := st ++ [(n : Int)]) _ hrow _ hgrow 1 v' rfl ((H3.out.o1.alloc _).kept hgrow (own_ne H3.out.o1 H3.out.o2 (by decide))) (by simpa using hown'))
        obtain ⟨A3, C3, rfl⟩ := own_slice hown'
        clear hown' hgrow hmid hrow hi hz0 hz1 hz2
        go_wp2
        go_step3
        exact ⟨_, by rw [HM.out]; omega, pos + 1, n, ls, st ++ [(n : Int)], _, _, _, _, 160, _, H4.out, ⟨rfl, rfl, HT2.out⟩, hls, by simp; omega, by omega, by omega, ex_frame rfl⟩
    · by_cases h32 : R = 32
      · subst h32
        have hn0 : n = 0 := by omega
        subst hn0
        obtain ⟨hRc, hS2⟩ := htk.resolve_right (by omega)
        have hsm1 : sm = -1 := by rw [← hsm]; rfl
        subst hsm1
        have hgr : placeF greatsB.data.toList 32 0 = -1 := rfl
        have HGR := Lib.hid hgr
        have htd : top = .bad 160 pos := by
          have hc32 : c.toNat = 32 := by omega
          rw [HTOP.out, rdF_cons, hc32]
          rfl
        have HTD := Lib.hid htd
        clear hRc hS2 hsm hgr htd hA htk
        have htop2 : top = .bad 160 pos := HTD.out
        go_wp2_with fail
        refine (place_any greatsB _ w3 (fun i hi => greatsB_ascii _ (by simp [ByteArray.getElem_eq_getElem_data])) (by decide)).mono ?_
        rintro e4 w4 ⟨rfl, hb4⟩
        have H4 := Lib.hid (H3.out.on hb4)
        clear hb4
        have HT2 := Lib.hid htop2
        clear htop2
        rw [HGR.out]
        go_wp2
        go_step3
        exact ⟨0, by rw [HM.out]; omega, pos, 0, ls, st, _, _, _, _, 160, _, H4.out.anyrest, ⟨_, rfl, rfl, HT2.out⟩, hls, by omega, by omega, by omega, ex_frame rfl⟩
      · by_cases h120 : R = 120
        · subst h120
          obtain ⟨hRc, hS2⟩ := htk.resolve_right (by omega)
          have htb : top = if ls.length = 512 then .bad 3 pos else rdF (s.data.toList.drop (pos + 1)) (pos + 1) (n + 1) (ls ++ [(sm, 0)]) st := by
            rw [HTOP.out, rdF_cons, if_neg (by omega), if_pos (by omega), ← hRc, hsm]
          have HTB := Lib.hid htb
          subst hS2
          clear hRc hsm htb hA htk h32
          by_cases h512 : ls.length = 512
          · have htop2 : top = .bad 3 pos := by rw [HTB.out, if_pos h512]
            have HT2 := Lib.hid htop2
            clear htop2
            go_wp2
            go_step3
            exact ⟨0, by rw [HM.out]; omega, pos, n, ls, st, _, _, _, _, 3, _, H3.out.anyrest, ⟨_, rfl, rfl, HT2.out⟩, hls, by omega, by omega, by omega, ex_frame rfl⟩
          · have htop2 : top = rdF (s.data.toList.drop (pos + 1)) (pos + 1) (n + 1) (ls ++ [(sm, 0)]) st := by rw [HTB.out, if_neg h512]
            have HT2 := Lib.hid htop2
            clear htop2
            have hinfo : (Try.prog.info? 66).map (fun i => (i.zero, i.size, i.bytes)) = some (some (.agg #[.int .i64 0, .int .i64 0]), 2, 16) := by kernel_rfl
            obtain ⟨i0, hi, hz0, hz1, hz2⟩ := info_parts hinfo
            clear hinfo
            go_wp2_with (at_builtin; refine wpList_append_own _ rfl _ _ 23 rfl (w0.heap.size + 6) 66 i0 (.agg #[.int .i64 0, .int .i64 0]) 2 16 Try.underlying23 hi hz0 hz1 hz2 rfl (by decide) _ _ _ rfl (H3.out.o1.alloc _) ⟨w3.heap.size, 0, none⟩ 1 1 [.int .i64 sm, .int .i64 0] rfl rfl ?_ ?_ ?_ ?_ ?_ ?_)
            · intro j u hj
              match j, hj with
              | 0, hj => simp at hj; subst hj; simp [Addr.add]
              | 1, hj => simp at hj; subst hj; simp [Addr.add]
            · intro u hu; simp at hu; rcases hu with rfl | rfl <;> rfl
            · unfold maxLen; omega
            · omega
            · have := H3.out.b5.lt; simp; omega
            · intro v' w4 hown' hgrow _
              have hrow : ∀ k, (Value.slice A1 ls.length C1).ownBlock = some k → w0.heap.size + 6 ≤ k := fun k hk => (H3.out.o1.lt k hk).1
              have hmid := H3.out.mid _ hrow _ hgrow
              have g1 : w4.cell? ⟨w0.heap.size + 1 + 1 + 1, 0, none⟩ = some (.slice A1 ls.length C1) := hmid.cell 0
              have g2 : w4.frozen? ⟨w0.heap.size + 1 + 1 + 1, 0, none⟩ = false := hmid.frozen 0
              have H4 := Lib.hid (H3.out.put (ls' := ls ++ [(sm, 0)]) (st' := st) _ hrow _ hgrow 0 v' rfl (by simpa [prs] using hown') ((H3.out.o2.alloc _).kept hgrow (own_ne H3.out.o2 H3.out.o1 (by decide))))
              obtain ⟨A3, C3, rfl⟩ := own_slice hown'
              clear hown' hgrow hmid hrow hi hz0 hz1 hz2
              go_wp2
              go_step3
              exact ⟨_, by rw [HM.out]; omega, pos + 1, n + 1, ls ++ [(sm, 0)], st, _, _, _, _, 160, _, H4.out, ⟨rfl, rfl, HT2.out⟩, by simp; omega, by omega, by omega, by omega, ex_frame rfl⟩
        · by_cases hs0 : 0 ≤ sm
          · obtain ⟨hRc, hS2⟩ := htk.resolve_right (fun hh => by have := smallOf_high R hh.1; omega)
            have htb : top = if ls.length = 512 then .bad 3 pos else rdF (s.data.toList.drop (pos + 1)) (pos + 1) (n + 1) (ls ++ [(sm, 0)]) st := by
              rw [HTOP.out, rdF_cons, if_neg (by omega), if_pos (by rw [← hRc, hsm]; omega), ← hRc, hsm]
            have HTB := Lib.hid htb
            subst hS2
            have hb1 : (R == 32) = false := beq_eq_false_iff_ne.2 h32
            have hb2 : (R == 120) = false := beq_eq_false_iff_ne.2 h120
            clear hRc hsm htb hA htk h32 h120
            by_cases h512 : ls.length = 512
            · have htop2 : top = .bad 3 pos := by rw [HTB.out, if_pos h512]
              have HT2 := Lib.hid htop2
              clear htop2
              go_wp2
              go_step3
              exact ⟨0, by rw [HM.out]; omega, pos, n, ls, st, _, _, _, _, 3, _, H3.out.anyrest, ⟨_, rfl, rfl, HT2.out⟩, hls, by omega, by omega, by omega, ex_frame rfl⟩
            · have htop2 : top = rdF (s.data.toList.drop (pos + 1)) (pos + 1) (n + 1) (ls ++ [(sm, 0)]) st := by rw [HTB.out, if_neg h512]
              have HT2 := Lib.hid htop2
              clear htop2
              have hinfo : (Try.prog.info? 66).map (fun i => (i.zero, i.size, i.bytes)) = some (some (.agg #[.int .i64 0, .int .i64 0]), 2, 16) := by kernel_rfl
              obtain ⟨i0, hi, hz0, hz1, hz2⟩ := info_parts hinfo
              clear hinfo
              go_wp2_with (at_builtin; refine wpList_append_own _ rfl _ _ 23 rfl (w0.heap.size + 6) 66 i0 (.agg #[.int .i64 0, .int .i64 0]) 2 16 Try.underlying23 hi hz0 hz1 hz2 rfl (by decide) _ _ _ rfl (H3.out.o1.alloc _) ⟨w3.heap.size, 0, none⟩ 1 1 [.int .i64 sm, .int .i64 0] rfl rfl ?_ ?_ ?_ ?_ ?_ ?_)
              · intro j u hj
                match j, hj with
                | 0, hj => simp at hj; subst hj; simp [Addr.add]
                | 1, hj => simp at hj; subst hj; simp [Addr.add]
              · intro u hu; simp at hu; rcases hu with rfl | rfl <;> rfl
              · unfold maxLen; omega
              · omega
              · have := H3.out.b5.lt; simp; omega
              · intro v' w4 hown' hgrow _
                have hrow : ∀ k, (Value.slice A1 ls.length C1).ownBlock = some k → w0.heap.size + 6 ≤ k := fun k hk => (H3.out.o1.lt k hk).1
                have hmid := H3.out.mid _ hrow _ hgrow
                have g1 : w4.cell? ⟨w0.heap.size + 1 + 1 + 1, 0, none⟩ = some (.slice A1 ls.length C1) := hmid.cell 0
                have g2 : w4.frozen? ⟨w0.heap.size + 1 + 1 + 1, 0, none⟩ = false := hmid.frozen 0
                have H4 := Lib.hid (H3.out.put (ls' := ls ++ [(sm, 0)]) (st' := st) _ hrow _ hgrow 0 v' rfl (by simpa [prs] using hown') ((H3.out.o2.alloc _).kept hgrow (own_ne H3.out.o2 H3.out.o1 (by decide))))
                obtain ⟨A3, C3, rfl⟩ := own_slice hown'
                clear hown' hgrow hmid hrow hi hz0 hz1 hz2
                go_wp2
                go_step3
                exact ⟨_, by rw [HM.out]; omega, pos + 1, n + 1, ls ++ [(sm, 0)], st, _, _, _, _, 160, _, H4.out, ⟨rfl, rfl, HT2.out⟩, by simp; omega, by omega, by omega, by omega, ex_frame rfl⟩
          · have hb1 : (R == 32) = false := beq_eq_false_iff_ne.2 h32
            have hb2 : (R == 120) = false := beq_eq_false_iff_ne.2 h120
            obtain ⟨g, hgr⟩ : ∃ g, placeF greatsB.data.toList R 0 = g := ⟨_, rfl⟩
            have HGR := Lib.hid hgr
            by_cases hg0 : 0 ≤ g
            · obtain ⟨hRc, hS2⟩ := htk.resolve_right (fun hh => by have h1 := greatOf_high R hh.1; unfold greatOf at h1; omega)
              have htb : top = grF c.toNat (s.data.toList.drop (pos + 1)) pos n ls st := by
                rw [HTOP.out, rdF_cons, if_neg (by omega), if_neg (by rw [← hRc, hsm]; omega), if_pos (by rw [← hRc]; unfold greatOf; omega)]
              rw [← hRc] at htb
              have HTB := Lib.hid htb
              have hgg : 0 ≤ greatOf R := by unfold greatOf; omega
              subst hS2
              clear hRc hsm htb hA htk h32 h120 hgr
              go_wp2_with fail
              refine (place_any greatsB _ w3 (fun i hi => greatsB_ascii _ (by simp [ByteArray.getElem_eq_getElem_data])) (by decide)).mono ?_
              rintro e4 w4 ⟨rfl, hb4⟩
              have H4 := Lib.hid (H3.out.on hb4)
              clear hb4
              rw [HGR.out]
              go_wp2
              go_step3
              exact ⟨_, by rw [HM.out]; omega, pos + 1, n, ls, st, _, _, _, _, 160, _, H4.out, ⟨rfl, rfl, pos, rfl, hn, hstl, rfl, hgg, HTB.out⟩, hls, by omega, by omega, by omega, ex_frame rfl⟩
            · have htd : top = .bad 160 pos := by
                rcases htk with ⟨hRc, hS2⟩ | hh
                · rw [HTOP.out, rdF_cons, if_neg (by omega), if_neg (by rw [← hRc, hsm]; omega), if_neg (by rw [← hRc]; unfold greatOf; omega)]
                · rw [HTOP.out, rdF_cons, if_neg (by omega), if_neg (by rw [smallOf_high _ (by omega)]; omega), if_neg (by rw [greatOf_high _ (by omega)]; omega)]
              have HTD := Lib.hid htd
              clear hsm htd hA htk h32 h120 hgr
              have htop2 : top = .bad 160 pos := HTD.out
              go_wp2_with fail
              refine (place_any greatsB _ w3 (fun i hi => greatsB_ascii _ (by simp [ByteArray.getElem_eq_getElem_data])) (by decide)).mono ?_
              rintro e4 w4 ⟨rfl, hb4⟩
              have H4 := Lib.hid (H3.out.on hb4)
              clear hb4
              have HT2 := Lib.hid htop2
              clear htop2
              rw [HGR.out]
              go_wp2
              go_step3
              exact ⟨0, by rw [HM.out]; omega, pos, n, ls, st, _, _, _, _, 160, _, H4.out.anyrest, ⟨_, rfl, rfl, HT2.out⟩, hls, by omega, by omega, by omega, ex_frame rfl⟩
  · have hpe : pos = s.size := by omega
    have htop2 : top = rdF [] pos n ls st := by rw [HT.out, List.drop_of_length_le (by simp; omega)]
    have HT2 := Lib.hid htop2
    have HPE := Lib.hid hpe
    have hz0 : s.size - pos = 0 := by omega
    clear htop2 hpe
    go_wp2_with fail
    refine (at_any _ _ s (s.extract pos s.size) w c0 c4 (by rw [HES.out]; omega) hs).mono ?_
    rintro e1 w1 ⟨rfl, rfl⟩
    rw [HPZ.out]
    go_wp2
    go_step3
    exact ⟨0, by rw [HM.out]; omega, pos, n, ls, st, _, _, _, _, 160, _, H.out, ⟨rfl, HPE.out, rfl, rfl, HT2.out⟩, hls, by omega, by omega, by omega, ex_frame rfl⟩
end Go.Proofs.Ytbjfbmienlojkaa
