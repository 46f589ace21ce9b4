/- The reference's Each and Read: the phones of a text, where each begins. -/
import Derived.Test.YtogofchpocoebaaS9
import Derived.Test.YtogofchpocoebaaQ11
namespace Go.Proofs.Ytogofchpocoebaa
open Go.RowKit Go.Maps

def fsts (l : List (Ph × Nat)) : List Ph := l.map (·.1)
def snds (l : List (Ph × Nat)) : List Value := l.map fun x => .int .i64 (x.2 : Nat)
theorem fsts_len (l : List (Ph × Nat)) : (fsts l).length = l.length := by simp [fsts]
theorem snds_len (l : List (Ph × Nat)) : (snds l).length = l.length := by simp [snds]

/-- memory while Each runs: what was read so far, and where -/
structure EaSt (w0 : World) (v5 v6 : Value) (out : List (Ph × Nat)) (W : World) : Prop where
  o5 : W.ownsRow w0.heap.size 43 3 v5 out.length (phs (fsts out))
  o6 : W.ownsRow w0.heap.size 3 1 v6 out.length (snds out)
  below : Below w0.heap.size w0 W
theorem EaSt.on {w0 : World} {v5 v6 : Value} {out : List (Ph × Nat)} {W W' : World} (h : EaSt w0 v5 v6 out W) (hb : Below W.heap.size W W') : EaSt w0 v5 v6 out W' :=
  ⟨own_stay h.o5 (Only.of_below hb _), own_stay h.o6 (Only.of_below hb _), h.below.trans (hb.mono h.below.size)⟩
/-- one phone more -/
theorem EaSt.app {w0 : World} {v5 v6 v5' v6' : Value} {out : List (Ph × Nat)} {W W1 W2 W3 : World} (h : EaSt w0 v5 v6 out W) (p : Ph) (n : Nat) (h1 : W1.ownsRow w0.heap.size 43 3 v5' (out.length + 1) (phs (fsts out) ++ phC p)) (g1 : W.grownBy W1 v5.ownBlock)
    (hb : Below W1.heap.size W1 W2) (h2 : W3.ownsRow w0.heap.size 3 1 v6' (out.length + 1) (snds out ++ [.int .i64 (n : Nat)])) (g2 : W2.grownBy W3 v6.ownBlock) : EaSt w0 v5' v6' (out ++ [(p, n)]) W3 := by
  have b1 : Only (fun k => v5.ownBlock = some k) W W1 := (Only.refl _ _).grown g1 (fun _ hg => .inl hg)
  have b2 : Only (fun k => v6.ownBlock = some k) W2 W3 := (Only.refl _ _).grown g2 (fun _ hg => .inl hg)
  have o6 : W1.ownsRow w0.heap.size 3 1 v6 out.length (snds out) := own_keep h.o6 (own_ne h.o6 h.o5 (by decide)) b1
  have o6' : W2.ownsRow w0.heap.size 3 1 v6 out.length (snds out) := own_stay o6 (Only.of_below hb _)
  have o5' := own_stay h1 (Only.of_below hb _)
  have o5'' := own_keep o5' (own_ne o5' o6' (by decide)) b2
  have l0 := h.below.size
  refine ⟨?_, ?_, ?_⟩
  · rw [List.length_append]
    simpa [phs, fsts] using o5''
  · rw [List.length_append]
    simpa [snds] using h2
  · refine h.below.trans ((b1.below l0 (fun k hk hh => ?_)).trans (((hb.mono (Nat.le_trans l0 b1.size))).trans (b2.below (Nat.le_trans l0 (Nat.le_trans b1.size hb.size)) (fun k hk hh => ?_))))
    · have := (h.o5.lt _ hh).1; omega
    · have := (o6'.lt _ hh).1; omega

set_option maxHeartbeats 4000000 in
set_option maxRecDepth 100000 in
theorem refEach_any (s : ByteArray) (w : World) (hz : s.size ≤ 1000000000) : Calls Try.prog 59 #[.string s] w fun e w' => ∃ v5 v6, e = .returned (.tuple #[v5, v6, .int .i64 ((evL s.data.toList).2 : Nat)]) ∧ EaSt w v5 v6 (evL s.data.toList).1 w' := by
  obtain ⟨i0, hi, hz0, hz1, hz2⟩ := info_parts info43
  obtain ⟨j0, hj, jz0, jz1, jz2⟩ := info_parts info3
  have HI := Lib.hid (And.intro hi (And.intro hz0 (And.intro hz1 hz2)))
  have HJ := Lib.hid (And.intro hj (And.intro jz0 (And.intro jz1 jz2)))
  clear hi hz0 hz1 hz2 hj jz0 jz1 jz2
  have HL := Lib.hid (show s.size = s.data.toList.length from rfl)
  have HM := Lib.hid (show s.size ≤ maxLen by unfold maxLen; omega)
  have hev : evL s.data.toList = evGo s.data.toList (s.data.toList.length + 1) 0 := rfl
  have HE := Lib.hid hev
  clear hev
  go_enter Try.func59, Try.ntmps59
  go_wp2
  go_loopw [5, 6, 7, 8, 9] (fun v5 v6 v7 _ _ wr => ∃ (out : List (Ph × Nat)) (pos f : Nat), v7 = .int .i64 pos ∧ pos ≤ s.size ∧ out.length ≤ pos ∧ Hid (EaSt w v5 v6 out wr ∧ evL s.data.toList = (out ++ (evGo s.data.toList f pos).1, (evGo s.data.toList f pos).2) ∧ s.size - pos < f)) (fun _ _ v7 _ _ _ => s.size - (intOf v7).toNat)
  case atStart => exact ⟨[], 0, s.data.toList.length + 1, rfl, by omega, by simp, Lib.hid ⟨⟨World.ownsRow_nil _ _ _ _, World.ownsRow_nil _ _ _ _, Below.refl _ _⟩, by rw [HE.out]; rfl, by have := HL.out; omega⟩⟩
  case round =>
    obtain ⟨out, pos, f, rfl, hpos, hol, HR⟩ := hrel
    by_cases hp : pos < s.size
    · go_wp2_with fail
      refine (refNext_any s pos wr HM.out hpos).mono ?_
      rintro e wa ⟨rfl, hb⟩
      have hle := next_fit (l := s.data.toList) (at_ := pos) (by have := HL.out; omega)
      rw [← HL.out] at hle
      have HA := Lib.hid (HR.out.1.on hb)
      clear hb
      generalize hN : nextL (s.data.toList.drop pos) = N at *
      obtain ⟨⟨pr, plg, pg⟩, nw⟩ := N
      dsimp only at hle ⊢
      have HN := Lib.hid hN
      clear hN
      go_upto_region 6 with (fail)
      refine wp_abs (fun wx => EaSt w u5 u6 out wx ∧ Blk wx wa.heap.size 43 #[.int .i32 pr, .bool plg, .int .i32 pg]) ⟨HA.out.on ((Below.refl _ _).alloc (Nat.le_refl _) _), Blk.new _ _ _⟩ ?_
      generalize wa.heap.size = xb at *
      rintro wx ⟨hS, hX⟩
      have b0 : wx.cell? ⟨xb, 0, none⟩ = some (.int .i32 pr) := hX.cell 0
      have b1 : wx.cell? ⟨xb, 1, none⟩ = some (.bool plg) := hX.cell 1
      have b2 : wx.cell? ⟨xb, 2, none⟩ = some (.int .i32 pg) := hX.cell 2
      have HX := Lib.hid (And.intro hS hX)
      clear hS hX HA
      by_cases hnw : nw = 0
      · have hnb : ((nw : Int) == 0) = true := by rw [hnw]; rfl
        have HV := Lib.hid (show evL s.data.toList = (out, pos) by rw [HR.out.2.1, evGo_end _ _ _ (.inr (by rw [HN.out]; exact hnw)), List.append_nil])
        clear hnw b0 b1 b2
        go_wp2
        refine bodyPost_ret (v := .tuple #[u5, u6, .int .i64 (pos : Int)]) (by simp [results, Try.results59, go_sem]) rfl ?_
        exact ⟨_, _, by rw [HV.out], by rw [HV.out]; exact HX.out.1⟩
      · have hnb : ((nw : Int) == 0) = false := by simp; omega
        obtain ⟨f', hf1, hf2⟩ := evGo_step (f := f) HN.out (by have := HL.out; omega) (by have := HL.out; have := HR.out.2.2; omega) hnw
        dsimp only at hf1 hf2
        have HF := Lib.hid (And.intro hf1 hf2)
        clear hf1 hf2
        obtain ⟨A5, c5, e5⟩ := own_slice HX.out.1.o5
        obtain ⟨A6, c6, e6⟩ := own_slice HX.out.1.o6
        subst e5 e6
        go_upto_region 9 with (at_builtin; go_must (refine wpList_append_rd _ rfl _ _ 22 rfl w.heap.size 43 i0 (.agg #[.int .i32 0, .bool false, .int .i32 0]) 3 12 Try.underlying22 HI.out.1 HI.out.2.1 HI.out.2.2.1 HI.out.2.2.2 rfl (by decide) _ _ _ rfl (HX.out.1.o5.alloc _) _ _ _ 1 1 _ rfl (rd_new _ _ _ _ rfl) (by simp [Value.oneCell']) (by unfold maxLen; omega) (by omega) (by have := HX.out.1.below.size; simp; omega) ?_; intro v4 w4 _ hown hgrow _; have H4 := Lib.hid (And.intro hown (And.intro hgrow (And.intro (HX.out.1.o6.alloc (.cells #[.int .i32 pr, .bool plg, .int .i32 pg] 43)) (HX.out.1.on ((Below.refl _ _).alloc (Nat.le_refl _) (.cells #[.int .i32 pr, .bool plg, .int .i32 pg] 43)))))); clear hown hgrow))
        have l4 := H4.out.2.1.size
        have l3 := HX.out.1.below.size
        have ho6 : w4.ownsRow w.heap.size 3 1 (.slice A6 out.length c6) out.length (snds out) := own_keep H4.out.2.2.1 (own_ne H4.out.2.2.1 (HX.out.1.o5.alloc _) (by decide)) ((Only.refl _ _).grown H4.out.2.1 (fun _ hg => .inl hg))
        have H6 := Lib.hid ho6
        clear ho6
        go_wp2_with (at_builtin; go_must (refine wpList_append_rd _ rfl _ _ 71 rfl w.heap.size 3 j0 (.int .i64 0) 1 8 Try.underlying71 HJ.out.1 HJ.out.2.1 HJ.out.2.2.1 HJ.out.2.2.2 rfl (by decide) _ _ _ rfl (H6.out.alloc _) _ _ _ 1 1 _ rfl (rd_new _ _ _ _ rfl) (by simp [Value.oneCell']) (by unfold maxLen; omega) (by omega) (by simp at l4; simp; omega) ?_; intro v6 w6 _ hown hgrow _; have H7 := Lib.hid (H4.out.2.2.2.app (pr, plg, pg) pos H4.out.1 H4.out.2.1 ((Below.refl _ _).alloc (Nat.le_refl _) _) hown hgrow); clear hown hgrow))
        go_roundw
        case rel => exact ⟨out ++ [((pr, plg, pg), pos)], pos + nw, f', by go_num, by omega, by simp; omega, Lib.hid ⟨H7.out, by rw [HR.out.2.1, HF.out.2]; simp, HF.out.1⟩⟩
        case measure => simp [intOf]; omega
    · have hpe : pos = s.size := by omega
      have HV := Lib.hid (show evL s.data.toList = (out, pos) by rw [HR.out.2.1, evGo_end _ _ _ (.inl (by have := HL.out; omega)), List.append_nil])
      go_wp2
      refine bodyPost_ret (v := .tuple #[u5, u6, .int .i64 (pos : Int)]) (by simp [results, Try.results59, go_sem]) rfl ?_
      exact ⟨_, _, by rw [HV.out], by rw [HV.out]; exact HR.out.1⟩

set_option maxHeartbeats 4000000 in
set_option maxRecDepth 100000 in
theorem refRead_any (s : ByteArray) (w : World) (hz : s.size ≤ 1000000000) : Calls Try.prog 58 #[.string s] w fun e w' => ∃ v, e = .returned (.tuple #[v, .agg #[.int .i64 (readL s.data.toList).2.1, .int .i64 (readL s.data.toList).2.2]]) ∧
    w'.ownsRow w.heap.size 43 3 v (readL s.data.toList).1.length (phs (readL s.data.toList).1) ∧ Below w.heap.size w w' := by
  have HL := Lib.hid (show s.size = s.data.toList.length from rfl)
  have HE := Lib.hid (read_ev s.data.toList)
  have hle := ev_end_le s.data.toList
  go_enter Try.func58, Try.ntmps58
  go_upto_region 1 with (fail)
  refine wp_abs (fun wx => Blk wx w.heap.size 68 #[.int .i64 0, .int .i64 0] ∧ Below w.heap.size w wx) ⟨Blk.new _ _ _, (Below.refl _ _).alloc (Nat.le_refl _) _⟩ ?_
  rintro w1 ⟨hB, hb⟩
  have H1 := Lib.hid (And.intro hB hb)
  clear hB hb
  go_wp2_with fail
  refine (refEach_any s w1 hz).mono ?_
  rintro e w2 ⟨v5, v6, rfl, hE⟩
  have H2 := Lib.hid (And.intro (H1.out.1.below hE.below H1.out.1.lt) (And.intro (H1.out.2.trans (hE.below.mono H1.out.2.size)) (And.intro hE H1.out.2.size)))
  obtain ⟨A5, c5, rfl⟩ := own_slice hE.o5
  obtain ⟨A6, c6, rfl⟩ := own_slice hE.o6
  have h6 := own_rd hE.o6
  have HH6 := Lib.hid h6
  clear hE h6
  generalize hev : evL s.data.toList = ev at *
  have e0 : w2.cell? ⟨w.heap.size, 0, none⟩ = some (.int .i64 0) := H2.out.1.cell 0
  have e1 : w2.cell? ⟨w.heap.size, 1, none⟩ = some (.int .i64 0) := H2.out.1.cell 1
  have f0 := H2.out.1.frozen
  have lz := H2.out.1.lt
  have lz1 := H1.out.1.lt
  clear H1
  by_cases hlong : 128 < ev.1.length
  · have hd : decide ((128 : Int) < (ev.1.length : Int)) = true := by simp; omega
    obtain ⟨b, o, eA, hL, hB, hc⟩ := HH6.out.2 (by omega)
    subst eA
    have hx : (snds ev.1)[128]? = some (.int .i64 ((ev.1[128].2 : Nat) : Int)) := by
      unfold snds
      rw [List.getElem?_map, List.getElem?_eq_getElem hlong]; rfl
    have c6' : w2.cell? ⟨b, o + 128, none⟩ = some (.int .i64 ((ev.1[128].2 : Nat) : Int)) := hc _ _ hx
    have HV := Lib.hid (show readL s.data.toList = (([], 3, ((ev.1[128].2 : Nat) : Int)) : List Ph × Int × Int) by
      rw [HE.out]; unfold rdAll
      rw [if_pos (by simpa using hlong)]
      simp [List.getElem?_eq_getElem hlong])
    generalize ev.1[128].2 = m at *
    clear hx hc hL hB
    have i2 : (128 : Int) < (ev.1.length : Int) := by omega
    go_upto_region 3 with (fail)
    go_region
    go_wp2
    have HF := ((H2.out.1.set_ 0 (.int .i64 3)).set_ 1 (.int .i64 m))
    have z0 := HF.cell 0
    have z1 := HF.cell 1
    simp at z0 z1
    refine bodyPost_ret (v := .tuple #[.slice none 0 0, .agg #[.int .i64 3, .int .i64 m]]) (by simp [results, Try.results58, go_sem, z0, z1]) rfl ?_
    refine ⟨.slice none 0 0, by rw [HV.out], ?_, (((bdrawn H2.out.2.1 _).setCell (by simp) _).setCell (by simp) _)⟩
    rw [HV.out]
    exact World.ownsRow_nil _ _ _ _
  · have hd : decide ((128 : Int) < (ev.1.length : Int)) = false := by simp; omega
    by_cases hend : ev.2 < s.size
    · have hd2 : decide ((ev.2 : Int) < (s.size : Int)) = true := by simp; omega
      have HV := Lib.hid (show readL s.data.toList = ([], 80, ((ev.2 : Nat) : Int)) by
        rw [HE.out]; unfold rdAll
        rw [if_neg (by simpa using hlong), if_pos (by rw [← HL.out]; exact hend)])
      go_wp2
      have HF := ((H2.out.1.set_ 0 (.int .i64 80)).set_ 1 (.int .i64 ev.2))
      have z0 := HF.cell 0
      have z1 := HF.cell 1
      simp at z0 z1
      refine bodyPost_ret (v := .tuple #[.slice none 0 0, .agg #[.int .i64 80, .int .i64 (ev.2 : Nat)]]) (by simp [results, Try.results58, go_sem, z0, z1]) rfl ?_
      refine ⟨.slice none 0 0, by rw [HV.out], ?_, (H2.out.2.1.setCell (by simp) _).setCell (by simp) _⟩
      rw [HV.out]
      exact World.ownsRow_nil _ _ _ _
    · have hd2 : decide ((ev.2 : Int) < (s.size : Int)) = false := by simp; omega
      have HV := Lib.hid (show readL s.data.toList = (fsts ev.1, 0, 0) by
        rw [HE.out]; unfold rdAll
        rw [if_neg (by simpa using hlong), if_neg (by rw [← HL.out]; exact hend), List.nil_append]; rfl)
      go_wp2
      have HF := ((H2.out.1.set_ 0 (.int .i64 0)).set_ 1 (.int .i64 0))
      have z0 := HF.cell 0
      have z1 := HF.cell 1
      simp at z0 z1
      refine bodyPost_ret (v := .tuple #[.slice A5 ev.1.length c5, .agg #[.int .i64 0, .int .i64 0]]) (by simp [results, Try.results58, go_sem, z0, z1]) rfl ?_
      refine ⟨_, by rw [HV.out], ?_, (H2.out.2.1.setCell (by simp) _).setCell (by simp) _⟩
      rw [HV.out, fsts_len]
      have ho := H2.out.2.2.1.o5
      have hs := H2.out.2.2.2
      exact own_more (own_setCell (own_setCell ho (by simpa using lz1) _) (by simpa using lz1) _) (by omega)
end Go.Proofs.Ytogofchpocoebaa
