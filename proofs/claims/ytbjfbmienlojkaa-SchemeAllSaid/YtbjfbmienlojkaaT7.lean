import Derived.Test.YtbjfbmienlojkaaT6
namespace Go.Proofs.Ytbjfbmienlojkaa
open Go.RowKit

set_option maxHeartbeats 1000000 in
set_option maxRecDepth 100000 in
theorem great_wp (w0 : World) (s : ByteArray) (hs : s.size ≤ 65536) (top : Res) (Q : Exit → Act → World → Prop) (m : Nat) (a : Act) (w : World) (h : J3 w0 s top m a w) :
    ∃ rest, findLabel scope15 3 = some rest ∧ rest.wp Try.prog (Exit.jumps (fun l' a' w' => ∃ m', m' < m ∧ JJ w0 s top l' m' a' w') Q) a w := by
  refine ⟨_, rfl, ?_⟩
  obtain ⟨pos, n, ls, st, v1, v2, r, cls, e, spot, hst, ⟨he, hm, p0, hp0, hnp, hstp, hsp, hgr, ht⟩, hls, hstl, hn, hpos, f, rfl⟩ := h
  subst he hsp hp0
  have HM := Lib.hid hm
  have HT := Lib.hid ht
  clear hm ht
  have H := Lib.hid hst
  obtain ⟨A1, C1, rfl⟩ := own_slice hst.o1
  obtain ⟨A2, C2, rfl⟩ := own_slice hst.o2
  have d0 : w.cell? ⟨w0.heap.size + 1 + 1 + 1, 0, none⟩ = some (.slice A1 ls.length C1) := hst.b3.cell 0
  have d5 : w.cell? ⟨w0.heap.size + 1 + 1 + 1 + 1 + 1, 0, none⟩ = some (.int .i32 r) := hst.b5.cell 0
  clear hst
  by_cases h512 : ls.length = 512
  · have htop2 : top = .bad 3 p0 := by rw [HT.out]; unfold grF; rw [if_pos h512]
    have HT2 := Lib.hid htop2
    clear htop2
    go_wp2
    go_step3
    exact ⟨0, by rw [HM.out]; omega, p0 + 1, n, ls, st, _, _, _, _, 3, _, H.out.anyrest, ⟨_, rfl, rfl, HT2.out⟩, hls, by omega, by omega, by omega, ex_frame rfl⟩
  · have HTg : Hid (top = match s.data.toList.drop (p0 + 1) with
        | [] => .bad 160 (p0 + 1 : Nat)
        | d :: t' => if d.toNat < 49 ∨ 57 < d.toNat then .bad 160 (p0 + 1 : Nat) else rdF t' (p0 + 2) (n + 1) (ls ++ [(greatOf r, (d.toNat : Int) - 48)]) st) := by
      have := HT.out; unfold grF at this; rw [if_neg h512] at this; exact this
    have hes := extract_size s (p0 + 1)
    have HES := Lib.hid hes
    clear hes HT
    go_wp2_with fail
    refine (place_any greatsB _ w (fun i hi => greatsB_ascii _ (by simp [ByteArray.getElem_eq_getElem_data])) (by decide)).mono ?_
    rintro e4 w2 ⟨rfl, hb4⟩
    have H2 := Lib.hid (H.out.on hb4)
    clear hb4 d0 d5
    rw [show placeF greatsB.data.toList r 0 = greatOf r from rfl]
    generalize greatOf r = g at *
    have c0 : w2.cell? ⟨w0.heap.size, 0, none⟩ = some (.string s) := H2.out.b0.cell 0
    have c4 : w2.cell? ⟨w0.heap.size + 1 + 1 + 1 + 1, 0, none⟩ = some (.string (s.extract (p0 + 1) s.size)) := H2.out.b4.cell 0
    go_wp2_with fail
    refine (at_any _ _ s (s.extract (p0 + 1) s.size) w2 c0 c4 (by rw [HES.out]; omega) hs).mono ?_
    rintro e1 w1 ⟨rfl, rfl⟩
    rw [show (s.size : Int) - ((s.extract (p0 + 1) s.size).size : Int) = ((p0 + 1 : Nat) : Int) from by rw [HES.out]; omega]
    rcases Nat.lt_or_ge (p0 + 1) s.size with hlt | hge
    · have hl1 := (str_ne (s.extract (p0 + 1) s.size) (by rw [HES.out]; omega)).1
      have hl2 := (str_ne (s.extract (p0 + 1) s.size) (by rw [HES.out]; omega)).2
      have htk := took_at s (p0 + 1) hlt
      generalize hR : tookR (s.extract (p0 + 1) s.size) = R at htk
      generalize hS : tookS (s.extract (p0 + 1) s.size) = S' at htk
      obtain ⟨c, hc⟩ : ∃ c, c = s[p0 + 1] := ⟨_, rfl⟩
      have htop : top = if c.toNat < 49 ∨ 57 < c.toNat then .bad 160 (p0 + 1 : Nat) else rdF (s.data.toList.drop (p0 + 2)) (p0 + 2) (n + 1) (ls ++ [(g, (c.toNat : Int) - 48)]) st := by
        rw [HTg.out, drop_at s.data.toList (p0 + 1) (by simpa using hlt), hc]; rfl
      rw [← hc] at htk
      have HTOP := Lib.hid htop
      have HTK := Lib.hid htk
      have HR := Lib.hid hR
      have HS' := Lib.hid hS
      clear htk hR hS htop hc HTg
      go_wp2_with fail
      refine (take_any _ _ _ _ _ H2.out.b4 H2.out.b5 (by omega) (by rw [HES.out]; omega)).mono ?_
      rw [HR.out, HS'.out]
      rintro e2 w3 ⟨rfl, hp2, hq2, ho2⟩
      have H3 := Lib.hid (H2.out.took hp2 hq2 ho2)
      clear hp2 hq2 ho2 c0 c4 hl1 hl2
      have c5 : w3.cell? ⟨w0.heap.size + 1 + 1 + 1 + 1 + 1, 0, none⟩ = some (.int .i32 R) := H3.out.b5.cell 0
      by_cases hd : 49 ≤ R ∧ R ≤ 57
      · obtain ⟨hd1, hd2⟩ := hd
        obtain ⟨hRc, hS2⟩ := HTK.out.resolve_right (by omega)
        subst hS2
        have htop2 : top = rdF (s.data.toList.drop (p0 + 2)) (p0 + 2) (n + 1) (ls ++ [(g, R - 48)]) st := by
          rw [HTOP.out, if_neg (by omega), hRc]
        have HT2 := Lib.hid htop2
        clear htop2 hRc
        have d0 : w3.cell? ⟨w0.heap.size + 1 + 1 + 1, 0, none⟩ = some (.slice A1 ls.length C1) := H3.out.b3.cell 0
        have hinfo : (Try.prog.info? 66).map (fun i => (i.zero, i.size, i.bytes)) = some (some (.agg #[.int .i64 0, .int .i64 0]), 2, 16) := by kernel_rfl
        obtain ⟨i0, hi, hz0, hz1, hz2⟩ := info_parts hinfo
        clear hinfo
        go_wp2_with (at_builtin; refine wpList_append_own _ rfl _ _ 23 rfl (w0.heap.size + 6) 66 i0 (.agg #[.int .i64 0, .int .i64 0]) 2 16 Try.underlying23 hi hz0 hz1 hz2 rfl (by decide) _ _ _ rfl (H3.out.o1.alloc _) ⟨w3.heap.size, 0, none⟩ 1 1 [.int .i64 g, .int .i64 (R - 48)] rfl rfl ?_ ?_ ?_ ?_ ?_ ?_)
        · intro j u hj
          match j, hj with
          | 0, hj => simp at hj; subst hj; simp [Addr.add]
          | 1, hj => simp at hj; subst hj; simp [Addr.add]
        · intro u hu; simp at hu; rcases hu with rfl | rfl <;> rfl
        · unfold maxLen; omega
        · omega
        · have := H3.out.b5.lt; simp; omega
        · intro v' w4 hown' hgrow _
          have hrow : ∀ k, (Value.slice A1 ls.length C1).ownBlock = some k → w0.heap.size + 6 ≤ k := fun k hk => (H3.out.o1.lt k hk).1
          have hmid := H3.out.mid _ hrow _ hgrow
          have g1 : w4.cell? ⟨w0.heap.size + 1 + 1 + 1, 0, none⟩ = some (.slice A1 ls.length C1) := hmid.cell 0
          have g2 : w4.frozen? ⟨w0.heap.size + 1 + 1 + 1, 0, none⟩ = false := hmid.frozen 0
          have H4 := Lib.hid (H3.out.put (ls' := ls ++ [(g, R - 48)]) (st' := st) _ hrow _ hgrow 0 v' rfl (by simpa [prs] using hown') ((H3.out.o2.alloc _).kept hgrow (own_ne H3.out.o2 H3.out.o1 (by decide))))
          obtain ⟨A3, C3, rfl⟩ := own_slice hown'
          clear hown' hgrow hmid hrow hi hz0 hz1 hz2
          go_wp2
          go_step3
          exact ⟨_, by rw [HM.out]; omega, p0 + 2, n + 1, ls ++ [(g, R - 48)], st, _, _, _, _, 160, _, H4.out, ⟨rfl, rfl, HT2.out⟩, by simp; omega, by omega, by omega, by omega, ex_frame rfl⟩
      · have htop2 : top = .bad 160 (p0 + 1 : Nat) := by
          rcases HTK.out with ⟨hRc, hS2⟩ | hh
          · rw [HTOP.out, if_pos (by omega)]
          · rw [HTOP.out, if_pos (by omega)]
        have HT2 := Lib.hid htop2
        clear htop2
        by_cases hd1 : R < 49
        all_goals
          go_wp2
          go_step3
          exact ⟨0, by rw [HM.out]; omega, p0 + 1, n, ls, st, _, _, _, _, 160, _, H3.out.anyrest, ⟨_, rfl, rfl, HT2.out⟩, hls, by omega, by omega, by omega, ex_frame rfl⟩
    · have hpe : s.data.toList.drop (p0 + 1) = [] := List.drop_of_length_le (by simp; omega)
      have htop2 : top = .bad 160 (p0 + 1 : Nat) := by rw [HTg.out, hpe]
      have HT2 := Lib.hid htop2
      have hl1 := str_eq (s.extract (p0 + 1) s.size) (by rw [HES.out]; omega)
      clear htop2 hpe HTg
      go_wp2
      go_step3
      exact ⟨0, by rw [HM.out]; omega, p0 + 1, n, ls, st, _, _, _, _, 160, _, H2.out.anyrest, ⟨_, rfl, rfl, HT2.out⟩, hls, by omega, by omega, by omega, ex_frame rfl⟩
end Go.Proofs.Ytbjfbmienlojkaa
