/- phone.Read: the phones of a text. -/
import Derived.Test.YtogofchpocoebaaQ7
namespace Go.Proofs.Ytogofchpocoebaa
open Go.RowKit Go.Maps

/-- how reading ends -/
def rdFin (l : List UInt8) (at_ : Nat) (out : List Ph) (many : Int) : List Ph × Int × Int := if 0 ≤ many then ([], 3, many) else if at_ < l.length then ([], 80, at_) else (out, 0, 0)
/-- reading from a place on, phones behind it being read -/
def rdGo (l : List UInt8) : Nat → Nat → List Ph → Int → List Ph × Int × Int
  | 0, at_, out, many => rdFin l at_ out many
  | f + 1, at_, out, many =>
    if at_ < l.length then
      if (nextL (l.drop at_)).2 = 0 then rdFin l at_ out many
      else if out.length = 128 ∧ many < 0 then rdGo l f (at_ + (nextL (l.drop at_)).2) out at_
      else if many < 0 then rdGo l f (at_ + (nextL (l.drop at_)).2) (out ++ [(nextL (l.drop at_)).1]) many
      else rdGo l f (at_ + (nextL (l.drop at_)).2) out many
    else rdFin l at_ out many
def readL (l : List UInt8) : List Ph × Int × Int := rdGo l (l.length + 1) 0 [] (-1)
theorem rdGo_end (l : List UInt8) (f at_ : Nat) (out : List Ph) (many : Int) (h : ¬ at_ < l.length ∨ (nextL (l.drop at_)).2 = 0) : rdGo l f at_ out many = rdFin l at_ out many := by
  cases f with
  | zero => rfl
  | succ f =>
    unfold rdGo
    split
    · rename_i h1
      rcases h with h | h
      · exact absurd h1 h
      · rw [if_pos h]
    · rfl

theorem pre_len {x l : List UInt8} {n : Nat} (h : x.isPrefixOf (l.drop n) = true) (hx : 0 < x.length) : n + x.length ≤ l.length := by
  have := (List.isPrefixOf_iff_prefix.1 h).length_le
  rw [List.length_drop] at this
  omega
theorem nextL_le (l : List UInt8) : (nextL l).2 ≤ l.length := by
  cases h : tabF (headR l) with
  | none => rw [nextL_none h]; exact Nat.zero_le _
  | some t =>
    rw [nextL_some h]
    have h1 := (head_pre (l := l) (by rw [h]; rfl)).2.1.length_le
    dsimp only
    generalize (encL (headR l)).length = n1 at *
    cases h2 : longL.isPrefixOf (l.drop n1) with
    | true =>
      have := pre_len h2 (by decide)
      simp only [longL, List.length_cons, List.length_nil] at this
      simp only [if_true]
      split
      · exact this
      · split
        · rename_i h3; have := pre_len h3 (by simp); simpa [glideL] using this
        · split
          · rename_i h3; have := pre_len h3 (by simp); simpa [glideL] using this
          · exact this
    | false =>
      simp only [Bool.false_eq_true, if_false]
      split
      · exact h1
      · split
        · rename_i h3; have := pre_len h3 (by simp); simpa [glideL] using this
        · split
          · rename_i h3; have := pre_len h3 (by simp); simpa [glideL] using this
          · exact h1
theorem rdGo_step {l : List UInt8} {f at_ : Nat} {out : List Ph} {many : Int} {N : Ph × Nat} (hN : nextL (l.drop at_) = N) (h : at_ < l.length) (hf : l.length - at_ < f) (hn : N.2 ≠ 0) :
    ∃ f', l.length - (at_ + N.2) < f' ∧ rdGo l f at_ out many = (if out.length = 128 ∧ many < 0 then rdGo l f' (at_ + N.2) out at_ else if many < 0 then rdGo l f' (at_ + N.2) (out ++ [N.1]) many else rdGo l f' (at_ + N.2) out many) := by
  subst hN
  cases f with
  | zero => omega
  | succ f =>
    refine ⟨f, by omega, ?_⟩
    conv => lhs; unfold rdGo
    rw [if_pos h, if_neg hn]

/-- memory while Read runs -/
structure RaSt (w0 : World) (tb : Nat) (v : Value) (out : List Ph) (W : World) : Prop where
  br : Blk W w0.heap.size 68 #[.int .i64 0, .int .i64 0]
  tab : TabIs W tb
  own : W.ownsRow (w0.heap.size + 1) 43 3 v out.length (phs out)
  below : Below w0.heap.size w0 W
theorem RaSt.on {w0 : World} {tb : Nat} {v : Value} {out : List Ph} {W W' : World} (h : RaSt w0 tb v out W) (hb : Below W.heap.size W W') : RaSt w0 tb v out W' :=
  ⟨h.br.below hb h.br.lt, h.tab.on hb, own_stay h.own (Only.of_below hb _), h.below.trans (hb.mono h.below.size)⟩
theorem tab_own {W : World} {base tb n sz : Nat} {e : TypeId} {v : Value} {xs : List Value} (h : W.ownsRow base e sz v n xs) (ht : TabIs W tb) : v.ownBlock ≠ some tb := by
  intro hv
  rcases h.2 with ⟨rfl, _⟩ | ⟨g', cap, cur, rfl, _, hg, _⟩
  · simp [Value.ownBlock] at hv
  · have : g' = tb := by simpa [Value.ownBlock] using hv
    subst this
    obtain ⟨D, ⟨es, clock, hb, _⟩, _⟩ := ht
    rw [hb] at hg
    cases hg
theorem RaSt.app {w0 : World} {tb : Nat} {v v' : Value} {out : List Ph} {W W' : World} (h : RaSt w0 tb v out W) (p : Ph) (ho : W'.ownsRow (w0.heap.size + 1) 43 3 v' (out.length + 1) (phs out ++ phC p)) (hg : W.grownBy W' v.ownBlock) : RaSt w0 tb v' (out ++ [p]) W' := by
  have hO : Only (fun k => v.ownBlock = some k) W W' := (Only.refl _ _).grown hg (fun _ hg => .inl hg)
  refine ⟨h.br.only hO (fun hk => by have := (h.own.lt _ hk).1; omega), h.tab.only hO (tab_own h.own h.tab), ?_, h.below.trans (hO.below h.below.size (fun k hk hh => by have := (h.own.lt _ hh).1; omega))⟩
  rw [phs_append, List.length_append]
  simpa [phs] using ho
theorem info43 : (Try.prog.info? 43).map (fun i => (i.zero, i.size, i.bytes)) = some (some (.agg #[.int .i32 0, .bool false, .int .i32 0]), 3, 12) := by kernel_rfl
set_option maxHeartbeats 4000000 in
set_option maxRecDepth 100000 in
theorem read_any (s : ByteArray) (w : World) (hz : s.size ≤ maxLen) : Calls Try.prog 57 #[.string s] w fun e w' => ∃ v, e = .returned (.tuple #[v, .agg #[.int .i64 (readL s.data.toList).2.1, .int .i64 (readL s.data.toList).2.2]]) ∧
    w'.ownsRow w.heap.size 43 3 v (readL s.data.toList).1.length (phs (readL s.data.toList).1) ∧ Below w.heap.size w w' := by
  obtain ⟨i0, hi, hz0, hz1, hz2⟩ := info_parts info43
  have HI := Lib.hid (And.intro hi (And.intro hz0 (And.intro hz1 hz2)))
  clear hi hz0 hz1 hz2
  have HZ := Lib.hid hz
  unfold maxLen at hz
  go_enter Try.func57, Try.ntmps57
  go_upto_region 1 with (fail)
  refine wp_abs (fun wx => Blk wx w.heap.size 68 #[.int .i64 0, .int .i64 0] ∧ Below w.heap.size w wx) ⟨Blk.new _ _ _, (Below.refl _ _).alloc (Nat.le_refl _) _⟩ ?_
  rintro w1 ⟨hB, hb⟩
  have H1 := Lib.hid (And.intro hB hb)
  clear hB hb
  go_wp2_with fail
  refine (table_any w1).mono ?_
  rintro e w2 ⟨tb, rfl, hlo, ht, hb⟩
  have hS : RaSt w tb (.slice none 0 0) [] w2 := ⟨H1.out.1.below hb H1.out.1.lt, ht, World.ownsRow_nil _ _ _ _, H1.out.2.trans (hb.mono H1.out.2.size)⟩
  have HS := Lib.hid hS
  clear hS ht hb hlo H1
  have hdr : ∀ n, s.extract n s.size = bts (s.data.toList.drop n) := fun n => bts_drop s.data.toList n
  go_wp2
  go_loopw [5, 6, 7, 8, 9] (fun v5 v6 v7 _ _ wr => ∃ (out : List Ph) (many : Int) (pos f : Nat), v6 = .int .i64 many ∧ v7 = .int .i64 pos ∧ -1 ≤ many ∧ many ≤ s.size ∧ pos ≤ s.size ∧ out.length ≤ 128 ∧ Hid (RaSt w tb v5 out wr ∧ readL s.data.toList = rdGo s.data.toList f pos out many ∧ s.size - pos < f)) (fun _ _ v7 _ _ _ => s.size - (intOf v7).toNat)
  case atStart => exact ⟨[], -1, 0, s.size + 1, rfl, rfl, by omega, by omega, by omega, by simp, Lib.hid ⟨HS.out, rfl, by omega⟩⟩
  case round =>
    obtain ⟨out, many, pos, f, rfl, rfl, hm1, hm2, hpos, hol, HR⟩ := hrel
    clear HS
    have HL := Lib.hid (show s.size = s.data.toList.length from rfl)
    by_cases hp : pos < s.size
    · go_wp2_with fail
      refine (next_any tb (bts (s.data.toList.drop pos)) wr HR.out.1.tab (by rw [bts_size, List.length_drop]; have := HZ.out; have := HL.out; omega)).mono ?_
      rintro e wa ⟨rfl, hb⟩
      rw [show (bts (s.data.toList.drop pos)).data.toList = s.data.toList.drop pos from rfl]
      have hle := nextL_le (s.data.toList.drop pos)
      rw [List.length_drop, ← HL.out] at hle
      have HA := Lib.hid (HR.out.1.on hb)
      clear hb
      generalize hN : nextL (s.data.toList.drop pos) = N at *
      obtain ⟨⟨pr, plg, pg⟩, nw⟩ := N
      dsimp only at hle ⊢
      have HN := Lib.hid hN
      clear hN
      go_upto_region 7 with (fail)
      refine wp_abs (fun wx => RaSt w tb u5 out wx ∧ Blk wx wa.heap.size 43 #[.int .i32 pr, .bool plg, .int .i32 pg]) ⟨HA.out.on ((Below.refl _ _).alloc (Nat.le_refl _) _), Blk.new _ _ _⟩ ?_
      generalize wa.heap.size = xb at *
      rintro wx ⟨hS, hX⟩
      have b0 : wx.cell? ⟨xb, 0, none⟩ = some (.int .i32 pr) := hX.cell 0
      have b1 : wx.cell? ⟨xb, 1, none⟩ = some (.bool plg) := hX.cell 1
      have b2 : wx.cell? ⟨xb, 2, none⟩ = some (.int .i32 pg) := hX.cell 2
      have HX := Lib.hid (And.intro hS hX)
      clear hS hX HA
      by_cases hnw : nw = 0
      · have hnb : ((nw : Int) == 0) = true := by rw [hnw]; rfl
        have hnb0 : nw = 0 := hnw
        clear hle b0 b1 b2
        subst hnw
        have hrd : readL s.data.toList = rdFin s.data.toList pos out many := by rw [HR.out.2.1]; exact rdGo_end _ _ _ _ _ (.inr (by rw [HN.out]))
        have e0 : wx.cell? ⟨w.heap.size, 0, none⟩ = some (.int .i64 0) := HX.out.1.br.cell 0
        have e1 : wx.cell? ⟨w.heap.size, 1, none⟩ = some (.int .i64 0) := HX.out.1.br.cell 1
        have f0 := HX.out.1.br.frozen
        have lz := HX.out.1.br.lt
        by_cases hmn : 0 ≤ many
        · have hmd : decide (0 ≤ many) = true := by simpa using hmn
          have hv : rdFin s.data.toList pos out many = ([], 3, many) := by unfold rdFin; rw [if_pos hmn]
          have HV := Lib.hid (hrd.trans hv)
          clear hrd hv
          go_wp2
          have HF := ((HX.out.1.br.set_ 0 (.int .i64 3)).set_ 1 (.int .i64 many))
          have z0 := HF.cell 0
          have z1 := HF.cell 1
          simp at z0 z1
          refine bodyPost_ret (v := .tuple #[.slice none 0 0, .agg #[.int .i64 3, .int .i64 many]]) (by simp [results, Try.results57, go_sem, z0, z1]) rfl ?_
          refine ⟨.slice none 0 0, by rw [HV.out], ?_, (HX.out.1.below.setCell (by simp) _).setCell (by simp) _⟩
          rw [HV.out]
          exact World.ownsRow_nil _ _ _ _
        · have hmd : decide (0 ≤ many) = false := by simpa using hmn
          have hmd2 : decide (many < 0) = true := by simp; omega
          have hv : rdFin s.data.toList pos out many = ([], 80, (pos : Int)) := by unfold rdFin; rw [if_neg hmn, if_pos (by have := HL.out; omega)]
          have HV := Lib.hid (hrd.trans hv)
          clear hrd hv
          go_wp2
          have HF := ((HX.out.1.br.set_ 0 (.int .i64 80)).set_ 1 (.int .i64 pos))
          have z0 := HF.cell 0
          have z1 := HF.cell 1
          simp at z0 z1
          refine bodyPost_ret (v := .tuple #[.slice none 0 0, .agg #[.int .i64 80, .int .i64 pos]]) (by simp [results, Try.results57, go_sem, z0, z1]) rfl ?_
          refine ⟨.slice none 0 0, by rw [HV.out], ?_, (HX.out.1.below.setCell (by simp) _).setCell (by simp) _⟩
          rw [HV.out]
          exact World.ownsRow_nil _ _ _ _
      · have hnb : ((nw : Int) == 0) = false := by simp; omega
        obtain ⟨f', hf1, hf2⟩ := rdGo_step (out := out) (many := many) (f := f) HN.out (by have := HL.out; omega) (by have := HL.out; have := HR.out.2.2; omega) hnw
        rw [← HR.out.2.1] at hf2
        dsimp only at hf1 hf2
        rw [← HL.out] at hf1
        by_cases hmn : many < 0
        · have hmd : decide (many < 0) = true := by simpa using hmn
          by_cases ho : out.length = 128
          · have hob : ((out.length : Int) == 128) = true := by rw [ho]; rfl
            rw [if_pos ⟨ho, hmn⟩] at hf2
            have HF := Lib.hid (And.intro hf1 hf2)
            clear hf1 hf2
            obtain ⟨A5, c5, e5⟩ := own_slice HX.out.1.own
            have E5 := Lib.hid e5
            subst e5
            have hpd : decide ((pos : Int) < 0) = false := by simp
            go_wp2
            go_roundw
            case rel => exact ⟨out, pos, pos + nw, f', by go_num, by go_num, by omega, by omega, by omega, by (try simp only [List.length_append, List.length_cons, List.length_nil]); omega, Lib.hid ⟨HX.out.1, HF.out.2, HF.out.1⟩⟩
            case measure => simp [intOf]; omega
          · have hob : ((out.length : Int) == 128) = false := by simp; omega
            rw [if_neg (fun h => ho h.1), if_pos hmn] at hf2
            have HF := Lib.hid (And.intro hf1 hf2)
            clear hf1 hf2
            obtain ⟨A5, c5, e5⟩ := own_slice HX.out.1.own
            subst e5
            go_wp2_with (at_builtin; go_must (refine wpList_append_rd _ rfl _ _ 22 rfl (w.heap.size + 1) 43 i0 (.agg #[.int .i32 0, .bool false, .int .i32 0]) 3 12 Try.underlying22 HI.out.1 HI.out.2.1 HI.out.2.2.1 HI.out.2.2.2 rfl (by decide) _ _ _ rfl (HX.out.1.own.alloc _) _ _ _ 1 1 _ rfl (rd_new _ _ _ _ rfl) (by simp [Value.oneCell']) (by unfold maxLen; omega) (by omega) (by have := HX.out.1.br.lt; simp; omega) ?_; intro v4 w4 _ hown hgrow _; have HE := Lib.hid ((HX.out.1.on ((Below.refl _ _).alloc (Nat.le_refl _) _)).app (pr, plg, pg) hown hgrow); clear hown hgrow))
            go_roundw
            case rel => exact ⟨out ++ [(pr, plg, pg)], many, pos + nw, f', by go_num, by go_num, by omega, by omega, by omega, by (try simp only [List.length_append, List.length_cons, List.length_nil]); omega, Lib.hid ⟨HE.out, HF.out.2, HF.out.1⟩⟩
            case measure => simp [intOf]; omega
        · have hmd : decide (many < 0) = false := by simpa using hmn
          rw [if_neg (fun h => hmn h.2), if_neg hmn] at hf2
          have HF := Lib.hid (And.intro hf1 hf2)
          clear hf1 hf2
          obtain ⟨A5, c5, e5⟩ := own_slice HX.out.1.own
          subst e5
          by_cases ho : out.length = 128
          · have hob : ((out.length : Int) == 128) = true := by rw [ho]; rfl
            go_wp2
            go_roundw
            case rel => exact ⟨out, many, pos + nw, f', by go_num, by go_num, by omega, by omega, by omega, by (try simp only [List.length_append, List.length_cons, List.length_nil]); omega, Lib.hid ⟨HX.out.1, HF.out.2, HF.out.1⟩⟩
            case measure => simp [intOf]; omega
          · have hob : ((out.length : Int) == 128) = false := by simp; omega
            go_wp2
            go_roundw
            case rel => exact ⟨out, many, pos + nw, f', by go_num, by go_num, by omega, by omega, by omega, by (try simp only [List.length_append, List.length_cons, List.length_nil]); omega, Lib.hid ⟨HX.out.1, HF.out.2, HF.out.1⟩⟩
            case measure => simp [intOf]; omega
    · have hpe : pos = s.size := by omega
      have hrd : readL s.data.toList = rdFin s.data.toList pos out many := by rw [HR.out.2.1]; exact rdGo_end _ _ _ _ _ (.inl (by have := HL.out; omega))
      have e0 : wr.cell? ⟨w.heap.size, 0, none⟩ = some (.int .i64 0) := HR.out.1.br.cell 0
      have e1 : wr.cell? ⟨w.heap.size, 1, none⟩ = some (.int .i64 0) := HR.out.1.br.cell 1
      have f0 := HR.out.1.br.frozen
      have lz := HR.out.1.br.lt
      by_cases hmn : 0 ≤ many
      · have hmd : decide (0 ≤ many) = true := by simpa using hmn
        have hv : rdFin s.data.toList pos out many = ([], 3, many) := by unfold rdFin; rw [if_pos hmn]
        have HV := Lib.hid (hrd.trans hv)
        clear hrd hv
        go_wp2
        have HF := ((HR.out.1.br.set_ 0 (.int .i64 3)).set_ 1 (.int .i64 many))
        have z0 := HF.cell 0
        have z1 := HF.cell 1
        simp at z0 z1
        refine bodyPost_ret (v := .tuple #[.slice none 0 0, .agg #[.int .i64 3, .int .i64 many]]) (by simp [results, Try.results57, go_sem, z0, z1]) rfl ?_
        refine ⟨.slice none 0 0, by rw [HV.out], ?_, (HR.out.1.below.setCell (by simp) _).setCell (by simp) _⟩
        rw [HV.out]
        exact World.ownsRow_nil _ _ _ _
      · have hmd : decide (0 ≤ many) = false := by simpa using hmn
        have hmd2 : decide (many < 0) = true := by simp; omega
        have hv : rdFin s.data.toList pos out many = (out, 0, 0) := by unfold rdFin; rw [if_neg hmn, if_neg (by have := HL.out; omega)]
        have HV := Lib.hid (hrd.trans hv)
        clear hrd hv
        go_wp2
        have HF := ((HR.out.1.br.set_ 0 (.int .i64 0)).set_ 1 (.int .i64 0))
        have z0 := HF.cell 0
        have z1 := HF.cell 1
        simp at z0 z1
        refine bodyPost_ret (v := .tuple #[u5, .agg #[.int .i64 0, .int .i64 0]]) (by simp [results, Try.results57, go_sem, z0, z1]) rfl ?_
        refine ⟨u5, by rw [HV.out], ?_, (HR.out.1.below.setCell (by simp) _).setCell (by simp) _⟩
        rw [HV.out]
        exact own_more (own_setCell (own_setCell HR.out.1.own (by simp) _) (by simp) _) (by omega)
end Go.Proofs.Ytogofchpocoebaa
