/- phone.read with the consonants' closure. -/
import Derived.Test.YtogofchpocoebaaQ1
namespace Go.Proofs.Ytogofchpocoebaa
open Go.RowKit

set_option maxHeartbeats 4000000 in
set_option maxRecDepth 100000 in
theorem readB_any (s : ByteArray) (w : World) (hs : s.size ≤ 1000) : Calls Try.prog 157 #[.string s, .func (.func 159) #[] #[]] w fun e w' => ∃ v, e = .returned v ∧ w'.ownsRow w.heap.size 185 8 v (readRows trB s).length (rws (readRows trB s)) ∧ Below w.heap.size w w' := by
  obtain ⟨i0, hi, hz0, hz1, hz2⟩ := info_parts info185
  have HI := Lib.hid (And.intro hi (And.intro hz0 (And.intro hz1 hz2)))
  clear hi hz0 hz1 hz2
  go_enter Try.func157, Try.ntmps157
  go_upto_region 4 with (fail)
  refine wp_abs (fun wx => Blk wx w.heap.size 121 #[.int .i64 0, .int .i64 0, .int .i64 0] ∧ Below w.heap.size w wx) ⟨Blk.new _ _ _, (Below.refl _ _).alloc (Nat.le_refl _) _⟩ ?_
  rintro w1 ⟨b0, hb⟩
  have HB := Lib.hid (And.intro b0 hb)
  have lz := b0.lt
  clear b0 hb
  go_wp2
  go_loopw [5, 7] (fun v5 v7 wr => ∃ (out : List (Int × Tr)) (d : Int × Int × Int) (k pos f : Nat), v7 = .int .i64 k ∧ Hid (RwSt w w1.heap.size v5 out d s pos wr ∧ (runesF s s.size 0).foldl (rdStep trB) ([], (0, 0, 0), 0) = (runesF s f pos).foldl (rdStep trB) (out, d, k) ∧ s.size - pos ≤ f ∧ k ≤ pos ∧ out.length ≤ k ∧ (0 < k → 0 < out.length))) (fun _ _ w' => s.size - w'.iterPos w1.heap.size)
  case atStart => exact ⟨[], (0, 0, 0), 0, 0, s.size, rfl, Lib.hid ⟨⟨HB.out.1.iter _ _, World.iter_heap _ _ _, World.ownsRow_nil _ _ _ _, HB.out.2.trans ((iter_below _ _ _).mono (by omega)), lz⟩, rfl, by omega, by omega, by simp, by omega⟩⟩
  case round =>
    obtain ⟨out, d, k, pos, f, rfl, H⟩ := hrel
    clear HB
    by_cases hp : pos < s.size
    · have hnx : ∀ ty, (Instr.next (.pointer (some ⟨w1.heap.size, 0, none⟩)) true ty).run Try.prog wr = _ := fun ty => Lib.run_next_any_at wr w1.heap.size s pos ty H.out.1.it hp
      have hd := decode_le s pos
      have hst := (H.out.1.next (pos + (Utf8.decode s pos).2))
      have hru := runesF_more s f pos hp H.out.2.2.1
      have hw1 := width_pos s pos hp
      generalize hdr : (Utf8.decode s pos).1 = r at *
      generalize hdw : (Utf8.decode s pos).2 = dw at *
      obtain ⟨f', hf', hru⟩ := hru
      have HF := Lib.hid (And.intro hf' hru)
      have HST := Lib.hid hst
      clear hru hf' hst hdr hdw
      have hkb : k ≤ 1000 := by have := H.out.2.2.2.1; omega
      have hol : out.length ≤ 1000 := by have := H.out.2.2.2.2.1; omega
      by_cases hk : k % 4 = 0
      · have hkm : (k : Int) % 4 = 0 := by omega
        have hs1 : (rdStep trB (out, d, k) r) = (out ++ [((r : Int), tr0)], d, k + 1) := by unfold rdStep; simp only; rw [if_pos hk]
        have HS1 := Lib.hid hs1
        clear hs1 hk
        go_upto_region 8 with (fail)
        refine wp_abs (RwSt w w1.heap.size u5 out d s (pos + dw)) HST.out ?_
        clear hnx HST
        intro w2 h2
        have H2 := Lib.hid h2
        clear h2
        go_wp2_with (at_builtin; go_must (refine wpList_append_rd _ rfl _ _ 182 rfl (w.heap.size + 2) 185 i0 (.agg #[.int .i32 0, .bool false, .int .i64 0, .int .i64 0, .bool false, .int .i64 0, .int .i64 0, .bool false]) 8 64 Try.underlying182 HI.out.1 HI.out.2.1 HI.out.2.2.1 HI.out.2.2.2 rfl (by decide) _ _ _ rfl (H2.out.own.alloc _) _ _ _ 1 1 _ rfl (rd_new _ _ _ _ rfl) (by simp [Value.oneCell']) (by unfold maxLen; omega) (by omega) (by have := H2.out.bd.lt; have := (Array.getElem?_eq_some_iff.1 H2.out.it).1; simp; omega) ?_; intro v4 w4 _ hown hgrow _; have HN := Lib.hid (And.intro hown hgrow); clear hown hgrow))
        have HE := Lib.hid ((H2.out.on ((Below.refl _ _).alloc (Nat.le_refl _) _)).app ((r : Int), tr0) HN.out.1 HN.out.2)
        go_roundw
        case rel => exact ⟨_, _, k + 1, pos + dw, f', by go_num, Lib.hid ⟨HE.out, by rw [H.out.2.1, HF.out.2, List.foldl_cons, HS1.out], HF.out.1, by have := H.out.2.2.2.1; omega, by have := H.out.2.2.2.2.1; simp; omega, fun _ => by simp; try omega⟩⟩
        case measure => exact Nat.lt_of_le_of_lt (Nat.le_of_eq (congrArg (s.size - ·) (iterPos_of HE.out.it))) (by rw [iterPos_of H.out.1.it]; omega)
      have hk3 : k % 4 = 1 ∨ k % 4 = 2 ∨ k % 4 = 3 := by omega
      rcases hk3 with hk | hk | hk
      · have hkm : (k : Int) % 4 = 1 := by omega
        have hs1 : (rdStep trB (out, d, k) r) = (out.set (out.length - 1) ((out.getD (out.length - 1) (0, tr0)).1, trB ((r : Int) - 48) d.2.1 d.2.2), ((r : Int) - 48, d.2.1, d.2.2), k + 1) := by unfold rdStep; simp only; rw [if_neg (by omega), if_pos (by omega)]
        have HS1 := Lib.hid hs1
        have hol0 : 0 < out.length := H.out.2.2.2.2.2 (by omega)
        clear hs1 hk
        go_upto_region 9 with (fail)
        refine wp_abs (RwSt w w1.heap.size u5 out d s (pos + dw)) HST.out ?_
        clear hnx HST
        intro w2 h2
        have c0 : w2.cell? ⟨w.heap.size, 0, none⟩ = some (.int .i64 d.1) := h2.bd.cell 0
        have f0 : w2.frozen? ⟨w.heap.size, 0, none⟩ = false := h2.bd.frozen 0
        have H2 := Lib.hid h2
        clear h2
        go_upto_region 10 with (fail)
        refine wp_abs (RwSt w w1.heap.size u5 out ((r : Int) - 48, d.2.1, d.2.2) s (pos + dw)) (H2.out.setd 0 _ rfl) ?_
        clear c0 f0 H2
        intro w3 h3
        obtain ⟨g, cap, rfl, hcap⟩ := own_some h3.own hol0
        have c0 : w3.cell? ⟨w.heap.size, 0, none⟩ = some (.int .i64 ((r : Int) - 48)) := h3.bd.cell 0
        have c1 : w3.cell? ⟨w.heap.size, 1, none⟩ = some (.int .i64 d.2.1) := h3.bd.cell 1
        have c2 : w3.cell? ⟨w.heap.size, 2, none⟩ = some (.int .i64 d.2.2) := h3.bd.cell 2
        have H3 := Lib.hid h3
        clear h3
        obtain ⟨m, hm⟩ : ∃ m, out.length = m + 1 := ⟨out.length - 1, by omega⟩
        go_wp2_with fail
        refine (trB_any ((r : Int) - 48) d.2.1 d.2.2 _).mono ?_
        rintro e w4 ⟨rfl, hb⟩
        rw [trB_eq]
        have H4 := Lib.hid (show RwSt w w1.heap.size (.slice (some ⟨g, 0, none⟩) (m + 1) cap) out _ s (pos + dw) w4 from hm ▸ H3.out.on hb)
        clear hb H3 c0 c1 c2
        have ho4 : w4.ownsRow (w.heap.size + 2) 185 8 (.slice (some ⟨g, 0, none⟩) (m + 1) cap) (m + 1) (rws out) := by have := H4.out.own; rwa [hm] at this
        have x1 := own_at ho4 (i := m * 8 + 1) (by omega)
        have x2 := own_at ho4 (i := m * 8 + 2) (by omega)
        have x3 := own_at ho4 (i := m * 8 + 3) (by omega)
        have x4 := own_at ho4 (i := m * 8 + 4) (by omega)
        have x5 := own_at ho4 (i := m * 8 + 5) (by omega)
        have x6 := own_at ho4 (i := m * 8 + 6) (by omega)
        have x7 := own_at ho4 (i := m * 8 + 7) (by omega)
        clear ho4
        obtain ⟨⟨_, x1⟩, y1⟩ := x1
        obtain ⟨⟨_, x2⟩, y2⟩ := x2
        obtain ⟨⟨_, x3⟩, y3⟩ := x3
        obtain ⟨⟨_, x4⟩, y4⟩ := x4
        obtain ⟨⟨_, x5⟩, y5⟩ := x5
        obtain ⟨⟨_, x6⟩, y6⟩ := x6
        obtain ⟨⟨_, x7⟩, y7⟩ := x7
        go_wp2
        have HE := Lib.hid (H4.out.put (m := m) (n := m + 1) hm (by omega) (trB ((r : Int) - 48) d.2.1 d.2.2))
        clear x1 x2 x3 x4 x5 x6 x7 y1 y2 y3 y4 y5 y6 y7
        go_roundw
        case rel => exact ⟨_, _, k + 1, pos + dw, f', by go_num, Lib.hid ⟨HE.out, by rw [H.out.2.1, HF.out.2, List.foldl_cons, HS1.out, hm, Nat.add_sub_cancel], HF.out.1, by have := H.out.2.2.2.1; omega, by have := H.out.2.2.2.2.1; simp; omega, fun _ => by simp; try omega⟩⟩
        case measure => exact Nat.lt_of_le_of_lt (Nat.le_of_eq (congrArg (s.size - ·) (iterPos_of HE.out.it))) (by rw [iterPos_of H.out.1.it]; omega)
      · have hkm : (k : Int) % 4 = 2 := by omega
        have hs1 : (rdStep trB (out, d, k) r) = (out.set (out.length - 1) ((out.getD (out.length - 1) (0, tr0)).1, trB d.1 ((r : Int) - 48) d.2.2), (d.1, (r : Int) - 48, d.2.2), k + 1) := by unfold rdStep; simp only; rw [if_neg (by omega), if_neg (by omega), if_pos (by omega)]
        have HS1 := Lib.hid hs1
        have hol0 : 0 < out.length := H.out.2.2.2.2.2 (by omega)
        clear hs1 hk
        go_upto_region 9 with (fail)
        refine wp_abs (RwSt w w1.heap.size u5 out d s (pos + dw)) HST.out ?_
        clear hnx HST
        intro w2 h2
        have c0 : w2.cell? ⟨w.heap.size, 1, none⟩ = some (.int .i64 d.2.1) := h2.bd.cell 1
        have f0 : w2.frozen? ⟨w.heap.size, 1, none⟩ = false := h2.bd.frozen 1
        have H2 := Lib.hid h2
        clear h2
        go_upto_region 10 with (fail)
        refine wp_abs (RwSt w w1.heap.size u5 out (d.1, (r : Int) - 48, d.2.2) s (pos + dw)) (H2.out.setd 1 _ rfl) ?_
        clear c0 f0 H2
        intro w3 h3
        obtain ⟨g, cap, rfl, hcap⟩ := own_some h3.own hol0
        have c0 : w3.cell? ⟨w.heap.size, 0, none⟩ = some (.int .i64 d.1) := h3.bd.cell 0
        have c1 : w3.cell? ⟨w.heap.size, 1, none⟩ = some (.int .i64 ((r : Int) - 48)) := h3.bd.cell 1
        have c2 : w3.cell? ⟨w.heap.size, 2, none⟩ = some (.int .i64 d.2.2) := h3.bd.cell 2
        have H3 := Lib.hid h3
        clear h3
        obtain ⟨m, hm⟩ : ∃ m, out.length = m + 1 := ⟨out.length - 1, by omega⟩
        go_wp2_with fail
        refine (trB_any d.1 ((r : Int) - 48) d.2.2 _).mono ?_
        rintro e w4 ⟨rfl, hb⟩
        rw [trB_eq]
        have H4 := Lib.hid (show RwSt w w1.heap.size (.slice (some ⟨g, 0, none⟩) (m + 1) cap) out _ s (pos + dw) w4 from hm ▸ H3.out.on hb)
        clear hb H3 c0 c1 c2
        have ho4 : w4.ownsRow (w.heap.size + 2) 185 8 (.slice (some ⟨g, 0, none⟩) (m + 1) cap) (m + 1) (rws out) := by have := H4.out.own; rwa [hm] at this
        have x1 := own_at ho4 (i := m * 8 + 1) (by omega)
        have x2 := own_at ho4 (i := m * 8 + 2) (by omega)
        have x3 := own_at ho4 (i := m * 8 + 3) (by omega)
        have x4 := own_at ho4 (i := m * 8 + 4) (by omega)
        have x5 := own_at ho4 (i := m * 8 + 5) (by omega)
        have x6 := own_at ho4 (i := m * 8 + 6) (by omega)
        have x7 := own_at ho4 (i := m * 8 + 7) (by omega)
        clear ho4
        obtain ⟨⟨_, x1⟩, y1⟩ := x1
        obtain ⟨⟨_, x2⟩, y2⟩ := x2
        obtain ⟨⟨_, x3⟩, y3⟩ := x3
        obtain ⟨⟨_, x4⟩, y4⟩ := x4
        obtain ⟨⟨_, x5⟩, y5⟩ := x5
        obtain ⟨⟨_, x6⟩, y6⟩ := x6
        obtain ⟨⟨_, x7⟩, y7⟩ := x7
        go_wp2
        have HE := Lib.hid (H4.out.put (m := m) (n := m + 1) hm (by omega) (trB d.1 ((r : Int) - 48) d.2.2))
        clear x1 x2 x3 x4 x5 x6 x7 y1 y2 y3 y4 y5 y6 y7
        go_roundw
        case rel => exact ⟨_, _, k + 1, pos + dw, f', by go_num, Lib.hid ⟨HE.out, by rw [H.out.2.1, HF.out.2, List.foldl_cons, HS1.out, hm, Nat.add_sub_cancel], HF.out.1, by have := H.out.2.2.2.1; omega, by have := H.out.2.2.2.2.1; simp; omega, fun _ => by simp; try omega⟩⟩
        case measure => exact Nat.lt_of_le_of_lt (Nat.le_of_eq (congrArg (s.size - ·) (iterPos_of HE.out.it))) (by rw [iterPos_of H.out.1.it]; omega)
      · have hkm : (k : Int) % 4 = 3 := by omega
        have hs1 : (rdStep trB (out, d, k) r) = (out.set (out.length - 1) ((out.getD (out.length - 1) (0, tr0)).1, trB d.1 d.2.1 ((r : Int) - 48)), (d.1, d.2.1, (r : Int) - 48), k + 1) := by unfold rdStep; simp only; rw [if_neg (by omega), if_neg (by omega), if_neg (by omega)]
        have HS1 := Lib.hid hs1
        have hol0 : 0 < out.length := H.out.2.2.2.2.2 (by omega)
        clear hs1 hk
        go_upto_region 9 with (fail)
        refine wp_abs (RwSt w w1.heap.size u5 out d s (pos + dw)) HST.out ?_
        clear hnx HST
        intro w2 h2
        have c0 : w2.cell? ⟨w.heap.size, 2, none⟩ = some (.int .i64 d.2.2) := h2.bd.cell 2
        have f0 : w2.frozen? ⟨w.heap.size, 2, none⟩ = false := h2.bd.frozen 2
        have H2 := Lib.hid h2
        clear h2
        go_upto_region 10 with (fail)
        refine wp_abs (RwSt w w1.heap.size u5 out (d.1, d.2.1, (r : Int) - 48) s (pos + dw)) (H2.out.setd 2 _ rfl) ?_
        clear c0 f0 H2
        intro w3 h3
        obtain ⟨g, cap, rfl, hcap⟩ := own_some h3.own hol0
        have c0 : w3.cell? ⟨w.heap.size, 0, none⟩ = some (.int .i64 d.1) := h3.bd.cell 0
        have c1 : w3.cell? ⟨w.heap.size, 1, none⟩ = some (.int .i64 d.2.1) := h3.bd.cell 1
        have c2 : w3.cell? ⟨w.heap.size, 2, none⟩ = some (.int .i64 ((r : Int) - 48)) := h3.bd.cell 2
        have H3 := Lib.hid h3
        clear h3
        obtain ⟨m, hm⟩ : ∃ m, out.length = m + 1 := ⟨out.length - 1, by omega⟩
        go_wp2_with fail
        refine (trB_any d.1 d.2.1 ((r : Int) - 48) _).mono ?_
        rintro e w4 ⟨rfl, hb⟩
        rw [trB_eq]
        have H4 := Lib.hid (show RwSt w w1.heap.size (.slice (some ⟨g, 0, none⟩) (m + 1) cap) out _ s (pos + dw) w4 from hm ▸ H3.out.on hb)
        clear hb H3 c0 c1 c2
        have ho4 : w4.ownsRow (w.heap.size + 2) 185 8 (.slice (some ⟨g, 0, none⟩) (m + 1) cap) (m + 1) (rws out) := by have := H4.out.own; rwa [hm] at this
        have x1 := own_at ho4 (i := m * 8 + 1) (by omega)
        have x2 := own_at ho4 (i := m * 8 + 2) (by omega)
        have x3 := own_at ho4 (i := m * 8 + 3) (by omega)
        have x4 := own_at ho4 (i := m * 8 + 4) (by omega)
        have x5 := own_at ho4 (i := m * 8 + 5) (by omega)
        have x6 := own_at ho4 (i := m * 8 + 6) (by omega)
        have x7 := own_at ho4 (i := m * 8 + 7) (by omega)
        clear ho4
        obtain ⟨⟨_, x1⟩, y1⟩ := x1
        obtain ⟨⟨_, x2⟩, y2⟩ := x2
        obtain ⟨⟨_, x3⟩, y3⟩ := x3
        obtain ⟨⟨_, x4⟩, y4⟩ := x4
        obtain ⟨⟨_, x5⟩, y5⟩ := x5
        obtain ⟨⟨_, x6⟩, y6⟩ := x6
        obtain ⟨⟨_, x7⟩, y7⟩ := x7
        go_wp2
        have HE := Lib.hid (H4.out.put (m := m) (n := m + 1) hm (by omega) (trB d.1 d.2.1 ((r : Int) - 48)))
        clear x1 x2 x3 x4 x5 x6 x7 y1 y2 y3 y4 y5 y6 y7
        go_roundw
        case rel => exact ⟨_, _, k + 1, pos + dw, f', by go_num, Lib.hid ⟨HE.out, by rw [H.out.2.1, HF.out.2, List.foldl_cons, HS1.out, hm, Nat.add_sub_cancel], HF.out.1, by have := H.out.2.2.2.1; omega, by have := H.out.2.2.2.2.1; simp; omega, fun _ => by simp; try omega⟩⟩
        case measure => exact Nat.lt_of_le_of_lt (Nat.le_of_eq (congrArg (s.size - ·) (iterPos_of HE.out.it))) (by rw [iterPos_of H.out.1.it]; omega)
    · have hnx : ∀ ty, (Instr.next (.pointer (some ⟨w1.heap.size, 0, none⟩)) true ty).run Try.prog wr = _ := fun ty => Lib.run_next_end_at wr w1.heap.size s pos ty H.out.1.it hp
      go_wp2
      go_ret
      refine ⟨_, rfl, ?_, H.out.1.below⟩
      have : readRows trB s = out := by unfold readRows; rw [H.out.2.1, runesF_end s f pos hp]; rfl
      rw [this]
      exact own_more H.out.1.own (by omega)
end Go.Proofs.Ytogofchpocoebaa
