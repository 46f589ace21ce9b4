/- phone.next: the longest phone with which a text begins. -/
import Derived.Test.YtogofchpocoebaaQ4
import Derived.Test.YtogofchpocoebaaShelf
import Derived.Test.YtogofchpocoebaaP3
namespace Go.Proofs.Ytogofchpocoebaa
open Go.RowKit Go.Maps

/-- memory while next runs -/
structure NxSt (w0 : World) (tb : Nat) (p : Ph) (W : World) : Prop where
  br : Blk W w0.heap.size 43 #[.int .i32 0, .bool false, .int .i32 0]
  bp : Blk W (w0.heap.size + 1) 43 #[.int .i32 p.1, .bool p.2.1, .int .i32 p.2.2]
  tab : TabIs W tb
  below : Below w0.heap.size w0 W
  lt : tb < w0.heap.size
theorem NxSt.on {w0 : World} {tb : Nat} {p : Ph} {W W' : World} (h : NxSt w0 tb p W) (hb : Below W.heap.size W W') : NxSt w0 tb p W' :=
  ⟨h.br.below hb h.br.lt, h.bp.below hb h.bp.lt, h.tab.on hb, h.below.trans (hb.mono h.below.size), h.lt⟩
theorem NxSt.rune {w0 : World} {tb : Nat} {p : Ph} {W : World} (h : NxSt w0 tb p W) (r : Int) : NxSt w0 tb (r, p.2.1, p.2.2) (W.setCell ⟨w0.heap.size + 1, 0, none⟩ (.int .i32 r)) :=
  ⟨h.br.far (by simp) _, by simpa using h.bp.set_ 0 (.int .i32 r), h.tab.only (Only.setCell (S := fun b => b = w0.heap.size + 1) (p := ⟨w0.heap.size + 1, 0, none⟩) (Only.refl _ _) (.inl rfl) _) (by have := h.lt; omega), h.below.setCell (by simp) _, h.lt⟩
theorem NxSt.long {w0 : World} {tb : Nat} {r g : Int} {lg : Bool} {W : World} (h : NxSt w0 tb (r, lg, g) W) : NxSt w0 tb (r, true, g) (W.setCell ⟨w0.heap.size + 1, 1, none⟩ (.bool true)) :=
  ⟨h.br.far (by simp) _, by simpa using h.bp.set_ 1 (.bool true), h.tab.only (Only.setCell (S := fun b => b = w0.heap.size + 1) (p := ⟨w0.heap.size + 1, 1, none⟩) (Only.refl _ _) (.inl rfl) _) (by have := h.lt; omega), h.below.setCell (by simp) _, h.lt⟩
theorem NxSt.stay {w0 : World} {tb : Nat} {p : Ph} {W W' : World} {S : Nat → Prop} (h : NxSt w0 tb p W) (ho : Only S W W') (hS : ∀ b, S b → w0.heap.size + 2 ≤ b) : NxSt w0 tb p W' := by
  have l := h.lt
  refine ⟨h.br.only ho (fun hs => ?_), h.bp.only ho (fun hs => ?_), h.tab.only ho (fun hs => ?_), h.below.trans (ho.below h.below.size (fun b hb hs => ?_)), l⟩
  all_goals
    have := hS _ hs
    omega

theorem headR_pos {s : ByteArray} (h : 0 < s.size) : headR s.data.toList = ((Utf8.decode s 0).1 : Int) := by
  have hne : s.data.toList ≠ [] := by
    intro e
    have h2 : s.data.toList.length = 0 := by rw [e]; rfl
    have h3 : s.size = s.data.toList.length := rfl
    omega
  unfold headR
  rw [if_neg hne]
  rfl
theorem headR_nil {s : ByteArray} (h : ¬ 0 < s.size) : headR s.data.toList = 0 := by
  have e : s.data.toList = [] := List.eq_nil_of_length_eq_zero (by have h3 : s.size = s.data.toList.length := rfl; omega)
  rw [e]; rfl
theorem enc_size (r : Int) : (Utf8.encode r).size = (encL r).length := by unfold encL; exact Array.length_toList.symm
theorem encL_len' {r : Int} (h0 : 0 ≤ r) (h1 : r < 2048) : (encL r).length ≤ 2 ∧ 0 < (encL r).length := by
  by_cases h : r < 128
  · rw [encL_one h0 h]; simp
  · rw [encL_two (by omega) h1]; simp
theorem nextL_none {l : List UInt8} (h : tabF (headR l) = none) : nextL l = ((0, false, 0), 0) := by unfold nextL; rw [h]
theorem nextL_some {l : List UInt8} {t : Tr} (h : tabF (headR l) = some t) : nextL l =
    (let r := headR l
     let w1 := (encL r).length
     let lg := longL.isPrefixOf (l.drop w1)
     let w2 := if lg then w1 + 2 else w1
     if !t.vow then ((r, lg, 0), w2)
     else if (105 :: glideL).isPrefixOf (l.drop w2) then ((r, lg, 105), w2 + 3)
     else if (117 :: glideL).isPrefixOf (l.drop w2) then ((r, lg, 117), w2 + 3)
     else ((r, lg, 0), w2)) := by unfold nextL; rw [h]

set_option maxHeartbeats 2000000 in
set_option maxRecDepth 100000 in
theorem next_any (tb : Nat) (s : ByteArray) (w : World) (h : TabIs w tb) (_hz : s.size ≤ maxLen) : Calls Try.prog 126 #[.map (some tb), .string s] w fun e w' =>
    e = .returned (.tuple #[.agg #[.int .i32 (nextL s.data.toList).1.1, .bool (nextL s.data.toList).1.2.1, .int .i32 (nextL s.data.toList).1.2.2], .int .i64 ((nextL s.data.toList).2 : Nat)]) ∧ Below w.heap.size w w' := by
  have H := Lib.hid h
  have hlt := h.lt
  unfold maxLen at _hz
  clear h
  go_enter Try.func126, Try.ntmps126
  go_upto_region 2 with (fail)
  refine wp_abs (NxSt w tb (0, false, 0)) ⟨(Blk.new _ _ _).alloc _, blk_new_eq (by simp), H.out.on (((Below.refl _ _).alloc (Nat.le_refl _) _).alloc (by simp) _), ((Below.refl _ _).alloc (Nat.le_refl _) _).alloc (by simp) _, hlt⟩ ?_
  intro w1 h1
  have H1 := Lib.hid h1
  clear h1 H
  go_wp2
  refine wp_loop_rounds 1 ?_
  rw [rounds_succ]
  refine wp_abs (fun wx => NxSt w tb (0, false, 0) wx ∧ wx.heap[w1.heap.size]? = some (.stringIter s 0)) ⟨H1.out.on (iter_below _ _ _), World.iter_heap _ _ _⟩ ?_
  rintro wx ⟨hS, hi⟩
  have lk := H1.out.bp.lt
  by_cases h0 : 0 < s.size
  · have hnx : ∀ ty, (Instr.next (.pointer (some ⟨w1.heap.size, 0, none⟩)) true ty).run Try.prog wx = _ := fun ty => Lib.run_next_any_at wx w1.heap.size s 0 ty hi h0
    simp only [Nat.zero_add] at hnx
    have hne : w.heap.size + 1 ≠ w1.heap.size := by omega
    have c0 : ∀ x, (wx.iterAt w1.heap.size s x).cell? ⟨w.heap.size + 1, 0, none⟩ = some (.int .i32 0) := fun x => (cell_iterAt wx _ s x _ 0 hne).trans (hS.bp.cell 0)
    have f0 : ∀ x, (wx.iterAt w1.heap.size s x).frozen? ⟨w.heap.size + 1, 0, none⟩ = false := fun x => (frozen_iterAt wx _ s x _ 0 hne).trans (hS.bp.frozen 0)
    have hr := headR_pos h0
    have hd := decode_le s 0
    generalize (Utf8.decode s 0).1 = r at *
    generalize (Utf8.decode s 0).2 = dw at *
    have HS := Lib.hid hS
    have HR := Lib.hid hr
    clear hS hi hr hne
    go_upto_region 6 with (fail)
    refine wp_abs (NxSt w tb ((r : Int), false, 0)) ((HS.out.stay (Only.iterAt (S := fun b => b = w1.heap.size) (Only.refl _ wx) (.inl rfl) s dw) (fun b e => by omega)).rune r) ?_
    clear c0 f0 hnx HS H1
    intro wy hy
    have d0 : wy.cell? ⟨w.heap.size + 1, 0, none⟩ = some (.int .i32 r) := hy.bp.cell 0
    have hlk := (tab_look hy.tab (r := (r : Int)) ⟨by omega, by omega⟩).1
    have ht' : trV (traits r) = .agg #[.bool (traits r).vow, .int .i64 (traits r).hgt, .int .i64 (traits r).bck, .bool (traits r).rnd, .int .i64 (traits r).plc, .int .i64 (traits r).mnr, .bool (traits r).vcd] := rfl
    rw [ht'] at hlk
    have HY := Lib.hid hy
    clear hy ht'
    have hT2 : (tabF (r : Int)).isSome = (tabF (r : Int)).isSome := rfl
    generalize hok : (tabF (r : Int)).isSome = ok at hlk
    generalize htt : traits (r : Int) = t at hlk
    have HT := Lib.hid (And.intro hok htt)
    clear hok htt hT2
    go_upto_region 7 with (fail)
    refine wp_abs (fun wz => NxSt w tb ((r : Int), false, 0) wz ∧ Blk wz wy.heap.size 56 #[.bool t.vow, .int .i64 t.hgt, .int .i64 t.bck, .bool t.rnd, .int .i64 t.plc, .int .i64 t.mnr, .bool t.vcd]) ⟨HY.out.on ((Below.refl _ _).alloc (Nat.le_refl _) _), Blk.new _ _ _⟩ ?_
    have lx : w.heap.size + 1 < wy.heap.size := HY.out.bp.lt
    clear hlk d0 HY
    generalize wy.heap.size = xb at *
    rintro wz ⟨hS, hX⟩
    have e0 : wz.cell? ⟨w.heap.size, 0, none⟩ = some (.int .i32 0) := hS.br.cell 0
    have e1 : wz.cell? ⟨w.heap.size, 1, none⟩ = some (.bool false) := hS.br.cell 1
    have e2 : wz.cell? ⟨w.heap.size, 2, none⟩ = some (.int .i32 0) := hS.br.cell 2
    have f0 := hS.br.frozen
    have d0 : wz.cell? ⟨w.heap.size + 1, 0, none⟩ = some (.int .i32 r) := hS.bp.cell 0
    have d1 : wz.cell? ⟨w.heap.size + 1, 1, none⟩ = some (.bool false) := hS.bp.cell 1
    have d2 : wz.cell? ⟨w.heap.size + 1, 2, none⟩ = some (.int .i32 0) := hS.bp.cell 2
    have g0 := hS.bp.frozen
    have x0 : wz.cell? ⟨xb, 0, none⟩ = some (.bool t.vow) := hX.cell 0
    have lz := hS.br.lt
    have lz1 := hS.bp.lt
    have HS := Lib.hid (And.intro hS hX)
    clear hS hX
    cases ok with
    | false =>
      have hn := nextL_none (l := s.data.toList) (by rw [HR.out]; cases h : tabF (r : Int) with | none => rfl | some t => have := HT.out.1; rw [h] at this; cases this)
      have HN := Lib.hid hn
      clear hn
      go_wp2
      have HF := ((HS.out.1.br.set_ 0 (.int .i32 0)).set_ 1 (.bool false)).set_ 2 (.int .i32 0)
      have z0 := HF.cell 0
      have z1 := HF.cell 1
      have z2 := HF.cell 2
      simp at z0 z1 z2
      refine bodyPost_ret (v := .tuple #[.agg #[.int .i32 0, .bool false, .int .i32 0], .int .i64 0]) (by simp [results, Try.results126, go_sem, z0, z1, z2]) rfl ?_
      exact ⟨by rw [HN.out]; rfl, ((HS.out.1.below.setCell (by simp) _).setCell (by simp) _).setCell (by simp) _⟩
    | true =>
      have hsome : tabF (r : Int) = some t := by
        have h1 := HT.out.1
        have h2 := HT.out.2
        unfold traits at h2
        cases h : tabF (r : Int) with
        | none => rw [h] at h1; cases h1
        | some t' => rw [h] at h2; rw [← h2]; rfl
      have hn := nextL_some (l := s.data.toList) (t := t) (by rw [HR.out]; exact hsome)
      rw [HR.out] at hn
      dsimp only at hn
      have hpre := (head_pre (l := s.data.toList) (by rw [HR.out, hsome]; rfl)).2.1
      rw [HR.out] at hpre
      have hle := hpre.length_le
      have hsz : s.data.toList.length = s.size := rfl
      have hts := tab_small (r := (r : Int)) (by rw [hsome]; rfl)
      have hen := encL_len' hts.1 hts.2
      have hes := enc_size (r : Int)
      have hdr : ∀ n, s.extract n s.size = bts (s.data.toList.drop n) := fun n => bts_drop s.data.toList n
      generalize hN : nextL s.data.toList = N at *
      have HN := Lib.hid (And.intro hN hn)
      have HP := Lib.hid hpre
      clear hN hn hpre hts hsome
      rw [hsz] at hle
      generalize hl1 : (encL (r : Int)).length = n1 at *
      clear hl1 hsz
      --TAIL
      go_wp2_with fail
      refine (Try.strings_HasPrefix _ _ _).mono ?_
      rintro e w' ⟨rfl, rfl⟩
      rw [show Lib.hasPrefix (bts (s.data.toList.drop n1)).data.toList (⟨#[203, 144]⟩ : ByteArray).data.toList = longL.isPrefixOf (s.data.toList.drop n1) from rfl]
      cases hlg : longL.isPrefixOf (s.data.toList.drop n1) with
      | true =>
        have hl2 : 2 + n1 ≤ s.size := by
          have := (List.isPrefixOf_iff_prefix.1 hlg).length_le
          rw [List.length_drop] at this
          have h3 : s.size = s.data.toList.length := rfl
          simp [longL] at this
          omega
        go_upto_region 13 with (fail)
        refine wp_abs (fun wv => NxSt w tb ((r : Int), true, 0) wv ∧ Blk wv xb 56 #[.bool t.vow, .int .i64 t.hgt, .int .i64 t.bck, .bool t.rnd, .int .i64 t.plc, .int .i64 t.mnr, .bool t.vcd]) ⟨HS.out.1.long, HS.out.2.far (by simp; omega) _⟩ ?_
        clear e0 e1 e2 f0 d0 d1 d2 g0 x0 lz lz1
        rintro wv ⟨hS, hX⟩
        have e0 : wv.cell? ⟨w.heap.size, 0, none⟩ = some (.int .i32 0) := hS.br.cell 0
        have e1 : wv.cell? ⟨w.heap.size, 1, none⟩ = some (.bool false) := hS.br.cell 1
        have e2 : wv.cell? ⟨w.heap.size, 2, none⟩ = some (.int .i32 0) := hS.br.cell 2
        have f0 := hS.br.frozen
        have d0 : wv.cell? ⟨w.heap.size + 1, 0, none⟩ = some (.int .i32 r) := hS.bp.cell 0
        have d1 : wv.cell? ⟨w.heap.size + 1, 1, none⟩ = some (.bool true) := hS.bp.cell 1
        have d2 : wv.cell? ⟨w.heap.size + 1, 2, none⟩ = some (.int .i32 0) := hS.bp.cell 2
        have g0 := hS.bp.frozen
        have x0 : wv.cell? ⟨xb, 0, none⟩ = some (.bool t.vow) := hX.cell 0
        have lz := hS.br.lt
        have lz1 := hS.bp.lt
        have HV := Lib.hid (And.intro hS hX)
        clear hS hX HS
        rcases bool_or' t.vow with hv | hv
        · skip
          go_wp2
          have hN : nextL s.data.toList = ((((r : Nat) : Int), true, 0), n1 + 2) := by rw [HN.out.1, HN.out.2]; simp [hlg, hv]
          have HF := ((HV.out.1.br.set_ 0 (.int .i32 r)).set_ 1 (.bool true)).set_ 2 (.int .i32 0)
          have z0 := HF.cell 0
          have z1 := HF.cell 1
          have z2 := HF.cell 2
          simp at z0 z1 z2
          refine bodyPost_ret (v := .tuple #[.agg #[.int .i32 r, .bool true, .int .i32 0], .int .i64 ((n1 + 2 : Nat) : Int)]) (by simp [results, Try.results126, go_sem, z0, z1, z2]; try omega) rfl ?_
          exact ⟨by rw [hN], ((HV.out.1.below.setCell (by simp) _).setCell (by simp) _).setCell (by simp) _⟩
        · go_wp2_with fail
          refine (Try.strings_HasPrefix _ _ _).mono ?_
          rintro e w' ⟨rfl, rfl⟩
          rw [show Lib.hasPrefix (bts (s.data.toList.drop (n1 + 2))).data.toList (⟨#[105, 204, 175]⟩ : ByteArray).data.toList = (105 :: glideL).isPrefixOf (s.data.toList.drop (n1 + 2)) from rfl]
          cases hg1 : (105 :: glideL).isPrefixOf (s.data.toList.drop (n1 + 2)) with
          | true =>
            have hl3 : 3 + (n1 + 2) ≤ s.size := by
              have := (List.isPrefixOf_iff_prefix.1 hg1).length_le
              rw [List.length_drop] at this
              have h3 : s.size = s.data.toList.length := rfl
              simp [glideL] at this
              omega
            go_wp2
            have hN : nextL s.data.toList = ((((r : Nat) : Int), true, 105), n1 + 2 + 3) := by rw [HN.out.1, HN.out.2]; simp [hlg, hv, hg1]
            have HF := (((HV.out.1.br.far (p := ⟨w.heap.size + 1, 2, none⟩) (by simp) (.int .i32 105)).set_ 0 (.int .i32 r)).set_ 1 (.bool true)).set_ 2 (.int .i32 105)
            have z0 := HF.cell 0
            have z1 := HF.cell 1
            have z2 := HF.cell 2
            simp at z0 z1 z2
            refine bodyPost_ret (v := .tuple #[.agg #[.int .i32 r, .bool true, .int .i32 105], .int .i64 ((n1 + 2 + 3 : Nat) : Int)]) (by simp [results, Try.results126, go_sem, z0, z1, z2]; try omega) rfl ?_
            exact ⟨by rw [hN], (((HV.out.1.below.setCell (p := ⟨w.heap.size + 1, 2, none⟩) (by simp) _).setCell (by simp) _).setCell (by simp) _).setCell (by simp) _⟩
          | false =>
            go_wp2_with fail
            refine (Try.strings_HasPrefix _ _ _).mono ?_
            rintro e w' ⟨rfl, rfl⟩
            rw [show Lib.hasPrefix (bts (s.data.toList.drop (n1 + 2))).data.toList (⟨#[117, 204, 175]⟩ : ByteArray).data.toList = (117 :: glideL).isPrefixOf (s.data.toList.drop (n1 + 2)) from rfl]
            cases hg2 : (117 :: glideL).isPrefixOf (s.data.toList.drop (n1 + 2)) with
            | true =>
              have hl3 : 3 + (n1 + 2) ≤ s.size := by
                have := (List.isPrefixOf_iff_prefix.1 hg2).length_le
                rw [List.length_drop] at this
                have h3 : s.size = s.data.toList.length := rfl
                simp [glideL] at this
                omega
              go_wp2
              have hN : nextL s.data.toList = ((((r : Nat) : Int), true, 117), n1 + 2 + 3) := by rw [HN.out.1, HN.out.2]; simp [hlg, hv, hg1, hg2]
              have HF := (((HV.out.1.br.far (p := ⟨w.heap.size + 1, 2, none⟩) (by simp) (.int .i32 117)).set_ 0 (.int .i32 r)).set_ 1 (.bool true)).set_ 2 (.int .i32 117)
              have z0 := HF.cell 0
              have z1 := HF.cell 1
              have z2 := HF.cell 2
              simp at z0 z1 z2
              refine bodyPost_ret (v := .tuple #[.agg #[.int .i32 r, .bool true, .int .i32 117], .int .i64 ((n1 + 2 + 3 : Nat) : Int)]) (by simp [results, Try.results126, go_sem, z0, z1, z2]; try omega) rfl ?_
              exact ⟨by rw [hN], (((HV.out.1.below.setCell (p := ⟨w.heap.size + 1, 2, none⟩) (by simp) _).setCell (by simp) _).setCell (by simp) _).setCell (by simp) _⟩
            | false =>
              go_wp2
              have hN : nextL s.data.toList = ((((r : Nat) : Int), true, 0), n1 + 2) := by rw [HN.out.1, HN.out.2]; simp [hlg, hv, hg1, hg2]
              have HF := ((HV.out.1.br.set_ 0 (.int .i32 r)).set_ 1 (.bool true)).set_ 2 (.int .i32 0)
              have z0 := HF.cell 0
              have z1 := HF.cell 1
              have z2 := HF.cell 2
              simp at z0 z1 z2
              refine bodyPost_ret (v := .tuple #[.agg #[.int .i32 r, .bool true, .int .i32 0], .int .i64 ((n1 + 2 : Nat) : Int)]) (by simp [results, Try.results126, go_sem, z0, z1, z2]; try omega) rfl ?_
              exact ⟨by rw [hN], ((HV.out.1.below.setCell (by simp) _).setCell (by simp) _).setCell (by simp) _⟩
      | false =>
        go_upto_region 13 with (fail)
        refine wp_abs (fun wv => NxSt w tb ((r : Int), false, 0) wv ∧ Blk wv xb 56 #[.bool t.vow, .int .i64 t.hgt, .int .i64 t.bck, .bool t.rnd, .int .i64 t.plc, .int .i64 t.mnr, .bool t.vcd]) ⟨HS.out.1, HS.out.2⟩ ?_
        clear e0 e1 e2 f0 d0 d1 d2 g0 x0 lz lz1
        rintro wv ⟨hS, hX⟩
        have e0 : wv.cell? ⟨w.heap.size, 0, none⟩ = some (.int .i32 0) := hS.br.cell 0
        have e1 : wv.cell? ⟨w.heap.size, 1, none⟩ = some (.bool false) := hS.br.cell 1
        have e2 : wv.cell? ⟨w.heap.size, 2, none⟩ = some (.int .i32 0) := hS.br.cell 2
        have f0 := hS.br.frozen
        have d0 : wv.cell? ⟨w.heap.size + 1, 0, none⟩ = some (.int .i32 r) := hS.bp.cell 0
        have d1 : wv.cell? ⟨w.heap.size + 1, 1, none⟩ = some (.bool false) := hS.bp.cell 1
        have d2 : wv.cell? ⟨w.heap.size + 1, 2, none⟩ = some (.int .i32 0) := hS.bp.cell 2
        have g0 := hS.bp.frozen
        have x0 : wv.cell? ⟨xb, 0, none⟩ = some (.bool t.vow) := hX.cell 0
        have lz := hS.br.lt
        have lz1 := hS.bp.lt
        have HV := Lib.hid (And.intro hS hX)
        clear hS hX HS
        rcases bool_or' t.vow with hv | hv
        · skip
          go_wp2
          have hN : nextL s.data.toList = ((((r : Nat) : Int), false, 0), n1) := by rw [HN.out.1, HN.out.2]; simp [hlg, hv]
          have HF := ((HV.out.1.br.set_ 0 (.int .i32 r)).set_ 1 (.bool false)).set_ 2 (.int .i32 0)
          have z0 := HF.cell 0
          have z1 := HF.cell 1
          have z2 := HF.cell 2
          simp at z0 z1 z2
          refine bodyPost_ret (v := .tuple #[.agg #[.int .i32 r, .bool false, .int .i32 0], .int .i64 ((n1 : Nat) : Int)]) (by simp [results, Try.results126, go_sem, z0, z1, z2]; try omega) rfl ?_
          exact ⟨by rw [hN], ((HV.out.1.below.setCell (by simp) _).setCell (by simp) _).setCell (by simp) _⟩
        · go_wp2_with fail
          refine (Try.strings_HasPrefix _ _ _).mono ?_
          rintro e w' ⟨rfl, rfl⟩
          rw [show Lib.hasPrefix (bts (s.data.toList.drop (n1))).data.toList (⟨#[105, 204, 175]⟩ : ByteArray).data.toList = (105 :: glideL).isPrefixOf (s.data.toList.drop (n1)) from rfl]
          cases hg1 : (105 :: glideL).isPrefixOf (s.data.toList.drop (n1)) with
          | true =>
            have hl3 : 3 + (n1) ≤ s.size := by
              have := (List.isPrefixOf_iff_prefix.1 hg1).length_le
              rw [List.length_drop] at this
              have h3 : s.size = s.data.toList.length := rfl
              simp [glideL] at this
              omega
            go_wp2
            have hN : nextL s.data.toList = ((((r : Nat) : Int), false, 105), n1 + 3) := by rw [HN.out.1, HN.out.2]; simp [hlg, hv, hg1]
            have HF := (((HV.out.1.br.far (p := ⟨w.heap.size + 1, 2, none⟩) (by simp) (.int .i32 105)).set_ 0 (.int .i32 r)).set_ 1 (.bool false)).set_ 2 (.int .i32 105)
            have z0 := HF.cell 0
            have z1 := HF.cell 1
            have z2 := HF.cell 2
            simp at z0 z1 z2
            refine bodyPost_ret (v := .tuple #[.agg #[.int .i32 r, .bool false, .int .i32 105], .int .i64 ((n1 + 3 : Nat) : Int)]) (by simp [results, Try.results126, go_sem, z0, z1, z2]; try omega) rfl ?_
            exact ⟨by rw [hN], (((HV.out.1.below.setCell (p := ⟨w.heap.size + 1, 2, none⟩) (by simp) _).setCell (by simp) _).setCell (by simp) _).setCell (by simp) _⟩
          | false =>
            go_wp2_with fail
            refine (Try.strings_HasPrefix _ _ _).mono ?_
            rintro e w' ⟨rfl, rfl⟩
            rw [show Lib.hasPrefix (bts (s.data.toList.drop (n1))).data.toList (⟨#[117, 204, 175]⟩ : ByteArray).data.toList = (117 :: glideL).isPrefixOf (s.data.toList.drop (n1)) from rfl]
            cases hg2 : (117 :: glideL).isPrefixOf (s.data.toList.drop (n1)) with
            | true =>
              have hl3 : 3 + (n1) ≤ s.size := by
                have := (List.isPrefixOf_iff_prefix.1 hg2).length_le
                rw [List.length_drop] at this
                have h3 : s.size = s.data.toList.length := rfl
                simp [glideL] at this
                omega
              go_wp2
              have hN : nextL s.data.toList = ((((r : Nat) : Int), false, 117), n1 + 3) := by rw [HN.out.1, HN.out.2]; simp [hlg, hv, hg1, hg2]
              have HF := (((HV.out.1.br.far (p := ⟨w.heap.size + 1, 2, none⟩) (by simp) (.int .i32 117)).set_ 0 (.int .i32 r)).set_ 1 (.bool false)).set_ 2 (.int .i32 117)
              have z0 := HF.cell 0
              have z1 := HF.cell 1
              have z2 := HF.cell 2
              simp at z0 z1 z2
              refine bodyPost_ret (v := .tuple #[.agg #[.int .i32 r, .bool false, .int .i32 117], .int .i64 ((n1 + 3 : Nat) : Int)]) (by simp [results, Try.results126, go_sem, z0, z1, z2]; try omega) rfl ?_
              exact ⟨by rw [hN], (((HV.out.1.below.setCell (p := ⟨w.heap.size + 1, 2, none⟩) (by simp) _).setCell (by simp) _).setCell (by simp) _).setCell (by simp) _⟩
            | false =>
              go_wp2
              have hN : nextL s.data.toList = ((((r : Nat) : Int), false, 0), n1) := by rw [HN.out.1, HN.out.2]; simp [hlg, hv, hg1, hg2]
              have HF := ((HV.out.1.br.set_ 0 (.int .i32 r)).set_ 1 (.bool false)).set_ 2 (.int .i32 0)
              have z0 := HF.cell 0
              have z1 := HF.cell 1
              have z2 := HF.cell 2
              simp at z0 z1 z2
              refine bodyPost_ret (v := .tuple #[.agg #[.int .i32 r, .bool false, .int .i32 0], .int .i64 ((n1 : Nat) : Int)]) (by simp [results, Try.results126, go_sem, z0, z1, z2]; try omega) rfl ?_
              exact ⟨by rw [hN], ((HV.out.1.below.setCell (by simp) _).setCell (by simp) _).setCell (by simp) _⟩
      --END
  · have hnx : ∀ ty, (Instr.next (.pointer (some ⟨w1.heap.size, 0, none⟩)) true ty).run Try.prog wx = _ := fun ty => Lib.run_next_end_at wx w1.heap.size s 0 ty hi (by omega)
    have hn := nextL_none (l := s.data.toList) (by rw [headR_nil h0]; decide +kernel)
    have HN := Lib.hid hn
    have HS := Lib.hid hS
    clear hS hi hn
    go_upto_region 6 with (fail)
    clear hnx
    have d0 : wx.cell? ⟨w.heap.size + 1, 0, none⟩ = some (.int .i32 0) := HS.out.bp.cell 0
    have hlk := (tab_look HS.out.tab (r := (0 : Int)) ⟨by omega, by omega⟩).1
    have hT2 : (tabF 0).isSome = false := by decide +kernel
    have ht' : trV (traits 0) = .agg #[.bool (traits 0).vow, .int .i64 (traits 0).hgt, .int .i64 (traits 0).bck, .bool (traits 0).rnd, .int .i64 (traits 0).plc, .int .i64 (traits 0).mnr, .bool (traits 0).vcd] := rfl
    rw [ht', hT2] at hlk
    generalize traits 0 = t at *
    clear ht' hT2
    go_upto_region 7 with (fail)
    refine wp_abs (NxSt w tb (0, false, 0)) (HS.out.on ((Below.refl _ _).alloc (Nat.le_refl _) _)) ?_
    clear hlk d0 HS
    intro wz hS
    have e0 : wz.cell? ⟨w.heap.size, 0, none⟩ = some (.int .i32 0) := hS.br.cell 0
    have e1 : wz.cell? ⟨w.heap.size, 1, none⟩ = some (.bool false) := hS.br.cell 1
    have e2 : wz.cell? ⟨w.heap.size, 2, none⟩ = some (.int .i32 0) := hS.br.cell 2
    have f0 := hS.br.frozen
    have lz := hS.br.lt
    have HS := Lib.hid hS
    clear hS
    go_wp2
    have HF := ((HS.out.br.set_ 0 (.int .i32 0)).set_ 1 (.bool false)).set_ 2 (.int .i32 0)
    have z0 := HF.cell 0
    have z1 := HF.cell 1
    have z2 := HF.cell 2
    simp at z0 z1 z2
    refine bodyPost_ret (v := .tuple #[.agg #[.int .i32 0, .bool false, .int .i32 0], .int .i64 0]) (by simp [results, Try.results126, go_sem, z0, z1, z2]) rfl ?_
    exact ⟨by rw [HN.out]; rfl, ((HS.out.below.setCell (by simp) _).setCell (by simp) _).setCell (by simp) _⟩
end Go.Proofs.Ytogofchpocoebaa
