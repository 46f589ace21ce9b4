/- place.New. -/
import Derived.Test.YtialpfmaekagjaaN2
import Derived.BigQuiet
import Derived.Deep.AppendLies
import Derived.Deep.RegionHeldLaw
import Derived.Deep.DeepMust
import Derived.Deep.CutBlock
namespace Go.Proofs.Ytialpfmaekagjaa
open Go.RowKit

theorem info_parts {P : Program} {t : TypeId} {z : Value} {a b : Nat} (h : (P.info? t).map (fun i => (i.zero, i.size, i.bytes)) = some (some z, a, b)) : ∃ i, P.info? t = some i ∧ i.zero = some z ∧ i.size = a ∧ i.bytes = b := by
  cases hi : P.info? t with
  | none => rw [hi] at h; cases h
  | some i => rw [hi] at h; simp only [Option.map_some, Option.some.injEq, Prod.mk.injEq] at h; exact ⟨i, rfl, h.1, h.2.1, h.2.2⟩
theorem get_eq (s : ByteArray) (i : Nat) (h : i < s.size) : (s[i]'h).toNat = (s.get! i).toNat := by
  have := get_at s i h
  rw [Nat.add_zero] at this
  rw [this]
theorem idx_at (s : ByteArray) (i : Nat) (x : Int) (hx : x = i) (h : i < s.size) (W : World) : (Instr.index 9 (.string s) (.int .i64 x)).run Try.prog W = .ok (.int .u8 ((s.get! i).toNat : Nat)) W := by
  subst hx
  rw [run_index_string W 9 s .i64 i Try.underlying9, dif_pos ⟨by omega, by omega⟩]
  simp only [Int.toNat_natCast, get_eq s i h]
/-- what a map's memory holds -/
def MapIs (w : World) (M : Nat) (s : ByteArray) : Prop :=
  ∃ X C Y D fl, Blk w M 54 #[.string s, .slice X (plL s).length C, .slice Y fl.length D] ∧ Rd w (M + 4) w.heap.size 5 X (plL s).length (plCs (plL s)) ∧ Rd w (M + 4) w.heap.size 4 Y fl.length (lnCs fl) ∧ fl.map (·.k) = fsL s

set_option maxHeartbeats 8000000 in
set_option maxRecDepth 100000 in
theorem new_any (s : ByteArray) (hs : s.size ≤ 65536) (w : World) : Calls Try.prog 5 #[.string s] w fun e w' => e = .returned (.tuple #[.pointer (some ⟨w.heap.size, 0, none⟩), .int .i64 0]) ∧ Below w.heap.size w w' ∧ MapIs w' w.heap.size s := by
  have h1 : decide ((65536 : Int) < (s.size : Int)) = false := decide_eq_false (by omega)
  obtain ⟨i0, hi, hz0, hz1, hz2⟩ := info_parts info29
  have HI := Lib.hid (And.intro hi (And.intro hz0 (And.intro hz1 hz2)))
  clear hi hz0 hz1 hz2
  obtain ⟨i2, hi, hz0, hz1, hz2⟩ := info_parts info58
  have HI2 := Lib.hid (And.intro hi (And.intro hz0 (And.intro hz1 hz2)))
  clear hi hz0 hz1 hz2
  go_enter Try.func5, Try.ntmps5
  go_wp2
  refine wp_scope_labels (fun _ _ _ _ => False) ?first (fun _ _ _ _ h => h.elim)
  go_wp2
  rename_i K hK
  refine wp_label ?_
  simp only [Exit.then]
  apply hK
  clear hK
  have HH := Lib.hid hs
  refine wp_abs (fun wx => (Below w.heap.size w wx ∧ Blk wx w.heap.size 54 #[.string s, .slice none 0 0, .slice none 0 0] ∧ Blk wx (w.heap.size + 1) 29 #[.int .i64 0, .int .i64 0, .int .i64 0, .int .i64 0, .int .i64 0] ∧ Blk wx (w.heap.size + 1 + 1) 58 #[.int .i64 0, .int .i64 0, .int .i64 0, .int .i64 0]) ∧ wx.heap.size = w.heap.size + 1 + 1 + 1) ⟨⟨(((Below.refl _ _).alloc (Nat.le_refl _) _).alloc (by simp) _).alloc (by simp; omega) _, ((Blk.new _ _ _).alloc _).alloc _, Blk.alloc (blk_new_eq (by simp)) _, blk_new_eq (by simp)⟩, by simp⟩ ?_
  rintro w1 ⟨h1a, h1z⟩
  have HS1 := Lib.hid (show NwSt w s (.slice none 0 0) (.slice none 0 0) [] [] 0 0 0 0 0 0 0 0 0 (some (.stringIter s 0)) (w1.iter s 0) from
    ⟨h1a.1.trans ((iter_below w1 s 0).mono (by omega)), h1a.2.1.iter _ _, h1a.2.2.1.iter _ _, h1a.2.2.2.iter _ _, by rw [← h1z]; exact World.iter_heap _ _ _, by simp [World.iter]; omega, World.ownsRow_nil _ _ _ _, World.ownsRow_nil _ _ _ _⟩)
  have HZ1 := Lib.hid h1z
  clear h1a h1z
  go_wp2
  rw [HZ1.out]
  go_loopw [7] (fun _ wr => ∃ (pos f : Nat) (pl : List Pl) (fl : List Ln) (v1 v2 : Value) (b : Int) (r u l c : Nat) (lf lt le : Int) (lk : Nat), pos ≤ s.size ∧ Hid (NwSt w s v1 v2 pl fl b r u l c lf lt le lk (some (.stringIter s pos)) wr ∧ s.size - pos < f ∧ plL s = pl ++ plGo s f pos ⟨pos, r, u, l, c⟩ ∧ fsL s = fl.map (·.k) ++ fsGo s f pos pl.length lk ∧ pl.length ≤ pos ∧ fl.length ≤ pos ∧ r ≤ pos ∧ u ≤ 2 * pos ∧ l ≤ pos ∧ c ≤ pos)) (fun _ w' => s.size - w'.iterPos (w.heap.size + 1 + 1 + 1))
  case atStart => exact ⟨0, s.size + 1, [], [], _, _, 0, 0, 0, 0, 0, 0, 0, 0, 0, by omega, Lib.hid ⟨HS1.out, by omega, rfl, rfl, by simp, by simp, by omega, by omega, by omega, by omega⟩⟩
  case round =>
    obtain ⟨pos, f, pl, fl, v1, v2, b, r, u, l, c, lf, lt, le, lk, hpos, HR⟩ := hrel
    by_cases hp : pos < s.size
    · have hnx : ∀ ty, (Instr.next (.pointer (some ⟨w.heap.size + 1 + 1 + 1, 0, none⟩)) true ty).run Try.prog wr = _ := fun ty => Lib.run_next_any_at wr (w.heap.size + 1 + 1 + 1) s pos ty HR.out.1.bi hp
      obtain ⟨f', hf1, hf2, hf3⟩ := go_more s f pos ⟨pos, r, u, l, c⟩ pl.length lk hp HR.out.2.1
      have hd := decode_le s pos
      have hw1 := width_pos s pos hp
      have hdfit := decode_fit s pos hp
      have HST := Lib.hid (HR.out.1.iter (pos + (Utf8.decode s pos).2))
      have HB := Lib.hid (And.intro HR.out.2.2.2.2 (And.intro HR.out.2.2.1 HR.out.2.2.2.1))
      generalize (Utf8.decode s pos).1 = rr at *
      generalize (Utf8.decode s pos).2 = dw at *
      have HF := Lib.hid (And.intro hf1 (And.intro hf2 hf3))
      clear hf1 hf2 hf3
      have HE := Lib.hid (show pos + dw ≤ s.size from hdfit)
      have HW := Lib.hid hw1
      clear hdfit
      go_upto_region 9 with (fail)
      refine wp_abs (NwSt w s v1 v2 pl fl b r u l c lf lt le lk (some (.stringIter s (pos + dw)))) HST.out ?_
      clear hnx HST
      intro w2 h2
      have c0 : w2.cell? ⟨w.heap.size + 1, 0, none⟩ = some (.int .i64 b) := h2.bp.cell 0
      have f0 : w2.frozen? ⟨w.heap.size + 1, 0, none⟩ = false := h2.bp.frozen 0
      have H2 := Lib.hid h2
      clear h2
      go_upto_region 10 with (fail)
      refine wp_abs (NwSt w s v1 v2 pl fl pos r u l c lf lt le lk (some (.stringIter s (pos + dw)))) (H2.out.setp 0 _ rfl) ?_
      clear c0 f0 H2
      intro w3 h3
      obtain ⟨A, C, rfl⟩ := own_slice h3.op
      obtain ⟨m, hm⟩ : ∃ m, pl.length = m := ⟨_, rfl⟩
      replace h3 : NwSt w s (.slice A m C) v2 pl fl pos r u l c lf lt le lk (some (.stringIter s (pos + dw))) w3 := hm ▸ h3
      have hmb : m ≤ 65536 := by have := HB.out.1.1; have := HH.out; omega
      have x1 : w3.cell? ⟨w.heap.size, 1, none⟩ = some (.slice A m C) := h3.bm.cell 1
      have q0 : w3.cell? ⟨w.heap.size + 1, 0, none⟩ = some (.int .i64 pos) := h3.bp.cell 0
      have q1 : w3.cell? ⟨w.heap.size + 1, 1, none⟩ = some (.int .i64 r) := h3.bp.cell 1
      have q2 : w3.cell? ⟨w.heap.size + 1, 2, none⟩ = some (.int .i64 u) := h3.bp.cell 2
      have q3 : w3.cell? ⟨w.heap.size + 1, 3, none⟩ = some (.int .i64 l) := h3.bp.cell 3
      have q4 : w3.cell? ⟨w.heap.size + 1, 4, none⟩ = some (.int .i64 c) := h3.bp.cell 4
      have x1a : (w3.alloc (.cells #[.int .i64 pos, .int .i64 r, .int .i64 u, .int .i64 l, .int .i64 c] 29)).cell? ⟨w.heap.size, 1, none⟩ = some (.slice A m C) := (h3.bm.alloc _).cell 1
      have HOP := Lib.hid (show w3.ownsRow (w.heap.size + 4) 29 5 (.slice A m C) m (plCs pl) by have := h3.op; rw [hm] at this; exact this)
      have HM := Lib.hid hm
      have hsz := h3.sz
      have H3 := Lib.hid h3
      clear h3 hm
      go_cut [33] from 20 to 123 (fun _ wx => ∃ g cap, Hid (NwSt w s (.slice (some ⟨g, 0, none⟩) (m + 1) cap) v2 (pl ++ [⟨pos, r, u, l, c⟩]) fl pos r u l c lf lt le lk (some (.stringIter s (pos + dw))) wx))
      case first =>
        go_region_law
          ((refine step_append_lies _ (by rfl) _ _ 51 (by rfl) (w.heap.size + 4) 29 i0 (.agg #[.int .i64 0, .int .i64 0, .int .i64 0, .int .i64 0, .int .i64 0]) 5 40 Try.underlying51 HI.out.1 HI.out.2.1 HI.out.2.2.1 HI.out.2.2.2 rfl (by omega) (.slice A m C) m (plCs pl) (by rfl) ?_ _ 1 1 [.int .i64 pos, .int .i64 r, .int .i64 u, .int .i64 l, .int .i64 c] (by rfl) (by rfl) ?_ (by simp [Value.oneCell']) (by omega) ?_ (by omega) ?_ _ rfl ?_; (refine own_stay HOP.out ?_; (repeat (first | (with_reducible exact Only.refl _ _) | (with_reducible refine Only.drew ?_) | (with_reducible refine Only.alloc ?_ _)))); (refine World.news_of_block (cs := #[.int .i64 pos, .int .i64 r, .int .i64 u, .int .i64 l, .int .i64 c]) (t := 29) (fr := (0, 0)) ?_; refine (show Blk _ _ 29 _ from ?_); repeat (first | ((with_reducible refine blk_new_eq ?_); (first | (with_reducible rfl) | exact (by simp) | exact (by simp; omega))) | (with_reducible refine Blk.drew ?_) | (with_reducible refine Blk.alloc ?_ _))); (unfold maxLen; omega); (first | omega | (simp; omega)); intro gA capA wA hownA hgrowA hatA hltA; have ho : Only (fun q => (Value.slice A m C).ownBlock = some q) w3 wA := (by (repeat (first | (with_reducible exact Only.refl _ _) | (with_reducible refine Only.drew ?_) | (with_reducible refine Only.alloc ?_ _) | (with_reducible refine Only.grown ?_ hgrowA (fun g hg => .inl hg))))); have hx1 : Blk wA w.heap.size 54 _ := H3.out.bm.only ho (fun hs => H3.out.farP (by omega) hs); have x1' : wA.cell? ⟨w.heap.size, 1, none⟩ = some (.slice A m C) := hx1.cell 1; have f1' : wA.frozen? ⟨w.heap.size, 1, none⟩ = false := hx1.frozen 1; have HN := Lib.hid (H3.out.appP ⟨pos, r, u, l, c⟩ HM.out hownA ho); clear ho hownA hgrowA hatA hltA hx1))
        all_goals
          go_wp2_with fail
          go_meet
          exact ⟨gA, capA, HN⟩
      case rest =>
        obtain ⟨g, cap, HC⟩ := hcut
        clear H3 HOP x1 q0 q1 q2 q3 q4 x1a hsz
        have hbr : r ≤ 65536 ∧ u ≤ 131072 ∧ l ≤ 65536 ∧ c ≤ 65536 := by have := HB.out.1; have := HH.out; omega
        have q1 : wc.cell? ⟨w.heap.size + 1, 1, none⟩ = some (.int .i64 r) := HC.out.bp.cell 1
        have q2 : wc.cell? ⟨w.heap.size + 1, 2, none⟩ = some (.int .i64 u) := HC.out.bp.cell 2
        have q4 : wc.cell? ⟨w.heap.size + 1, 4, none⟩ = some (.int .i64 c) := HC.out.bp.cell 4
        have g1 : wc.frozen? ⟨w.heap.size + 1, 1, none⟩ = false := HC.out.bp.frozen 1
        have g2 : wc.frozen? ⟨w.heap.size + 1, 2, none⟩ = false := HC.out.bp.frozen 2
        have g4 : wc.frozen? ⟨w.heap.size + 1, 4, none⟩ = false := HC.out.bp.frozen 4
        go_upto_region 14 with (fail)
        refine wp_abs (NwSt w s (.slice (some ⟨g, 0, none⟩) (m + 1) cap) v2 (pl ++ [⟨pos, r, u, l, c⟩]) fl pos (r + 1 : Nat) (u + 1 : Nat) l (c + 1 : Nat) lf lt le lk (some (.stringIter s (pos + dw)))) (((HC.out.setp 1 _ rfl).setp 2 _ rfl).setp 4 _ rfl) ?_
        clear q1 q2 q4 g1 g2 g4 HC
        intro w4 h4
        obtain ⟨du, hdu⟩ : ∃ d, (if 65536 ≤ rr then 2 else 1) = d := ⟨_, rfl⟩
        have HD2 := Lib.hid (show du ≤ 2 by rw [← hdu]; split <;> omega)
        have H4 := Lib.hid h4
        have q2 : w4.cell? ⟨w.heap.size + 1, 2, none⟩ = some (.int .i64 (u + 1 : Nat)) := h4.bp.cell 2
        have g2 : w4.frozen? ⟨w.heap.size + 1, 2, none⟩ = false := h4.bp.frozen 2
        clear h4
        go_upto_if 49 with (fail)
        go_cut [49] from 20 to 123 (fun _ wx => Hid (NwSt w s (.slice (some ⟨g, 0, none⟩) (m + 1) cap) v2 (pl ++ [⟨pos, r, u, l, c⟩]) fl pos (r + 1 : Nat) (u + du : Nat) l (c + 1 : Nat) lf lt le lk (some (.stringIter s (pos + dw))) wx))
        case first =>
          by_cases hr : 65536 ≤ rr
          · have hd1 : decide ((65536 : Int) ≤ (rr : Int)) = true := decide_eq_true (by omega)
            obtain rfl : du = 2 := by rw [← hdu, if_pos hr]
            clear hdu hr
            refine wp_cond_true (congrArg Value.bool hd1) ?_
            clear hd1
            go_wp2_with fail
            go_meet
            exact Lib.hid (H4.out.setp 2 _ rfl)
          · have hd1 : decide ((65536 : Int) ≤ (rr : Int)) = false := decide_eq_false (by omega)
            obtain rfl : du = 1 := by rw [← hdu, if_neg hr]
            clear hdu hr
            refine wp_cond_false (congrArg Value.bool hd1) ?_
            clear hd1
            go_wp2_with fail
            go_meet
            exact Lib.hid H4.out
        case rest =>
          have H5 := hcut
          have HDU := Lib.hid hdu
          clear hcut hdu
          clear q2 g2 H4
          have HS : Hid (∀ bk, brkF s pos rr = bk → plL s = (pl ++ [⟨pos, r, u, l, c⟩]) ++ plGo s f' (pos + dw) ⟨pos + dw, r + 1, u + du, if bk then l + 1 else l, if bk then 0 else c + 1⟩ ∧
              fsL s = if bk then (fl.map (·.k) ++ [lk]) ++ fsGo s f' (pos + dw) (m + 1) (m + 1) else fl.map (·.k) ++ fsGo s f' (pos + dw) (m + 1) lk) := by
            refine Lib.hid fun bk hbk => ⟨?_, ?_⟩
            · rw [HB.out.2.1, HF.out.2.1]
              unfold nextP
              rw [hbk, HDU.out]
              simp
            · rw [HB.out.2.2, HF.out.2.2, hbk, HM.out]
              cases bk <;> simp
          by_cases hA : rr = 13 ∧ pos + 1 < s.size ∧ (s.get! (pos + 1)).toNat = 10
          · obtain ⟨rfl, hA2, hA3⟩ := hA
            have hs := HS.out false (by unfold brkF; simp [hA2, hA3])
            have HS2 := Lib.hid hs
            clear hs HS
            have hd2 : decide ((pos : Int) + 1 < (s.size : Int)) = true := decide_eq_true (by omega)
            have hix : ∀ W, (Instr.index 9 (.string s) (.int .i64 ((pos : Int) + 1))).run Try.prog W = .ok (.int .u8 10) W := fun W => by rw [idx_at s (pos + 1) _ (by simp) hA2 W, hA3]; rfl
            have hgv : (s[pos + 1]'hA2).toNat = 10 := by rw [get_eq, hA3]
            go_wp2
            go_roundw
            case rel => exact ⟨pos + dw, f', _, _, _, _, _, _, _, _, _, _, _, _, _, HE.out, Lib.hid ⟨H5.out, HF.out.1, HS2.out.1, by rw [List.length_append, HM.out]; exact HS2.out.2, by have := HB.out.1; have := HW.out; have := HD2.out; simp only [List.length_append, List.length_cons, List.length_nil]; omega⟩⟩
            case measure => exact Nat.lt_of_le_of_lt (Nat.le_of_eq (congrArg (s.size - ·) (iterPos_of H5.out.bi))) (by rw [iterPos_of HR.out.1.bi]; have := HW.out; omega)
          by_cases hN : rr ≠ 13 ∧ rr ≠ 10
          · have hs := HS.out false (by unfold brkF; simp [hN.1, hN.2])
            have HS2 := Lib.hid hs
            clear hs HS
            have hd2 : decide ((rr : Int) = 13) = false := decide_eq_false (by omega)
            have hd3 : decide ((rr : Int) = 10) = false := decide_eq_false (by omega)
            have hd4 : ((rr : Int) == 13) = false := by simp; omega
            have hd5 : ((rr : Int) == 10) = false := by simp; omega
            have hd6 : ((rr : Int) != 13) = true := by simp; omega
            have hd7 : ((rr : Int) != 10) = true := by simp; omega
            clear hA
            go_wp2
            go_roundw
            case rel => exact ⟨pos + dw, f', _, _, _, _, _, _, _, _, _, _, _, _, _, HE.out, Lib.hid ⟨H5.out, HF.out.1, HS2.out.1, by rw [List.length_append, HM.out]; exact HS2.out.2, by have := HB.out.1; have := HW.out; have := HD2.out; simp only [List.length_append, List.length_cons, List.length_nil]; omega⟩⟩
            case measure => exact Nat.lt_of_le_of_lt (Nat.le_of_eq (congrArg (s.size - ·) (iterPos_of H5.out.bi))) (by rw [iterPos_of HR.out.1.bi]; have := HW.out; omega)
          have hbk : brkF s pos rr = true := by
            unfold brkF
            by_cases h10 : rr = 10
            · simp [h10]
            · have h13 : rr = 13 := by omega
              simp only [h13, true_and, not_and] at hA
              simp only [h13]
              by_cases hq : pos + 1 < s.size
              · simp [hA hq]
              · simp [hq]
          have HS2 := Lib.hid (HS.out true hbk)
          clear HS hbk
          have hways : (rr = 10 ∧ pos = 0) ∨ (rr = 10 ∧ 0 < pos ∧ (s.get! (pos - 1)).toNat = 13) ∨ (rr = 10 ∧ 0 < pos ∧ (s.get! (pos - 1)).toNat ≠ 13) ∨ (rr = 13 ∧ ¬ pos + 1 < s.size) ∨ (rr = 13 ∧ pos + 1 < s.size ∧ (s.get! (pos + 1)).toNat ≠ 10) := by omega
          clear hA hN
          obtain ⟨n, hn⟩ : ∃ n, fl.length = n := ⟨_, rfl⟩
          obtain ⟨B, D, rfl⟩ := own_slice H5.out.ol
          have H5b := Lib.hid (show NwSt w s (.slice (some ⟨g, 0, none⟩) (m + 1) cap) (.slice B n D) (pl ++ [⟨pos, r, u, l, c⟩]) fl pos (r + 1 : Nat) (u + du : Nat) l (c + 1 : Nat) lf lt le lk (some (.stringIter s (pos + dw))) wc from hn ▸ H5.out)
          have HFN := Lib.hid hn
          clear H5 hn
          go_upto_block 2 with (fail)
          go_cut [9] from 20 to 123 (fun v9 wx => ∃ d : Int, v9 = .int .i64 d ∧ (d = 1 ∨ d = 2) ∧ Hid (NwSt w s (.slice (some ⟨g, 0, none⟩) (m + 1) cap) (.slice B n D) (pl ++ [⟨pos, r, u, l, c⟩]) fl pos (r + 1 : Nat) (u + du : Nat) l (c + 1 : Nat) lf lt le lk (some (.stringIter s (pos + dw))) wx))
          case first =>
            rcases hways with ⟨rfl, hw2⟩ | ⟨rfl, hw2, hw3⟩ | ⟨rfl, hw2, hw3⟩ | ⟨rfl, hw2⟩ | ⟨rfl, hw2, hw3⟩
            · subst hw2
              go_wp2_with fail
              go_meet
              exact ⟨_, rfl, by omega, H5b⟩
            · have hd2 : decide ((0 : Int) < (pos : Int)) = true := decide_eq_true (by omega)
              have hix : ∀ W, (Instr.index 9 (.string s) (.int .i64 ((pos : Int) - 1))).run Try.prog W = .ok (.int .u8 13) W := fun W => by rw [idx_at s (pos - 1) _ (by omega) (by omega) W, hw3]; rfl
              clear hw3
              go_wp2_with fail
              go_meet
              exact ⟨_, rfl, by omega, H5b⟩
            · have hd2 : decide ((0 : Int) < (pos : Int)) = true := decide_eq_true (by omega)
              have hix : ∀ W, (Instr.index 9 (.string s) (.int .i64 ((pos : Int) - 1))).run Try.prog W = .ok (.int .u8 ((s.get! (pos - 1)).toNat : Nat)) W := fun W => by rw [idx_at s (pos - 1) _ (by omega) (by omega) W]
              generalize (s.get! (pos - 1)).toNat = v at *
              have hd3 : ((v : Int) == 13) = false := by simp; omega
              have hd4 : decide ((v : Int) = 13) = false := by simp; omega
              go_wp2_with fail
              go_meet
              exact ⟨_, rfl, by omega, H5b⟩
            · have hd2 : decide ((pos : Int) + 1 < (s.size : Int)) = false := decide_eq_false (by omega)
              go_wp2_with fail
              go_meet
              exact ⟨_, rfl, by omega, H5b⟩
            · have hd2 : decide ((pos : Int) + 1 < (s.size : Int)) = true := decide_eq_true (by omega)
              have hix : ∀ W, (Instr.index 9 (.string s) (.int .i64 ((pos : Int) + 1))).run Try.prog W = .ok (.int .u8 ((s.get! (pos + 1)).toNat : Nat)) W := fun W => by rw [idx_at s (pos + 1) _ (by omega) (by omega) W]
              have hgv : ∀ h : pos + 1 < s.size, (s[pos + 1]'h).toNat = (s.get! (pos + 1)).toNat := fun h => get_eq s _ h
              generalize (s.get! (pos + 1)).toNat = v at *
              have hd3 : ((v : Int) == 10) = false := by simp; omega
              have hd4 : decide ((v : Int) = 10) = false := by simp; omega
              go_wp2_with fail
              go_meet
              exact ⟨_, rfl, by omega, H5b⟩
          case rest =>
            obtain ⟨d, rfl, hd, H5⟩ := hcut
            clear hways H5b
            have y0 : wc.cell? ⟨w.heap.size + 1 + 1, 0, none⟩ = some (.int .i64 lf) := H5.out.bl.cell 0
            have y1 : wc.cell? ⟨w.heap.size + 1 + 1, 1, none⟩ = some (.int .i64 lt) := H5.out.bl.cell 1
            have y2 : wc.cell? ⟨w.heap.size + 1 + 1, 2, none⟩ = some (.int .i64 le) := H5.out.bl.cell 2
            have g1 : wc.frozen? ⟨w.heap.size + 1 + 1, 1, none⟩ = false := H5.out.bl.frozen 1
            have g2 : wc.frozen? ⟨w.heap.size + 1 + 1, 2, none⟩ = false := H5.out.bl.frozen 2
            go_upto_region 23 with (fail)
            refine wp_abs (fun wx => ∃ a b : Int, NwSt w s (.slice (some ⟨g, 0, none⟩) (m + 1) cap) (.slice B n D) (pl ++ [⟨pos, r, u, l, c⟩]) fl pos (r + 1 : Nat) (u + du : Nat) l (c + 1 : Nat) lf a b lk (some (.stringIter s (pos + dw))) wx) ⟨_, _, (H5.out.setl 1 _ rfl).setl 2 _ rfl⟩ ?_
            clear y0 y1 y2 g1 g2 H5 hd
            rintro w6 ⟨ta, ea, h6⟩
            have hnb : n ≤ 65536 := by have := HB.out.1.2.1; have := HH.out; have := HFN.out; omega
            have x2 : w6.cell? ⟨w.heap.size, 2, none⟩ = some (.slice B n D) := h6.bm.cell 2
            have q0 : w6.cell? ⟨w.heap.size + 1 + 1, 0, none⟩ = some (.int .i64 lf) := h6.bl.cell 0
            have q1 : w6.cell? ⟨w.heap.size + 1 + 1, 1, none⟩ = some (.int .i64 ta) := h6.bl.cell 1
            have q2 : w6.cell? ⟨w.heap.size + 1 + 1, 2, none⟩ = some (.int .i64 ea) := h6.bl.cell 2
            have q3 : w6.cell? ⟨w.heap.size + 1 + 1, 3, none⟩ = some (.int .i64 lk) := h6.bl.cell 3
            have x2a : (w6.alloc (.cells #[.int .i64 lf, .int .i64 ta, .int .i64 ea, .int .i64 lk] 58)).cell? ⟨w.heap.size, 2, none⟩ = some (.slice B n D) := (h6.bm.alloc _).cell 2
            have HOP := Lib.hid (show w6.ownsRow (w.heap.size + 4) 58 4 (.slice B n D) n (lnCs fl) by have := h6.ol; rw [HFN.out] at this; exact this)
            have hsz := h6.sz
            have H6 := Lib.hid h6
            clear h6
            go_cut [107] from 20 to 123 (fun _ wx => ∃ g2 cap2, Hid (NwSt w s (.slice (some ⟨g, 0, none⟩) (m + 1) cap) (.slice (some ⟨g2, 0, none⟩) (n + 1) cap2) (pl ++ [⟨pos, r, u, l, c⟩]) (fl ++ [⟨lf, ta, ea, lk⟩]) pos (r + 1 : Nat) (u + du : Nat) l (c + 1 : Nat) lf ta ea lk (some (.stringIter s (pos + dw))) wx))
            case first =>
              go_region_law
                ((refine step_append_lies _ (by rfl) _ _ 52 (by rfl) (w.heap.size + 4) 58 i2 (.agg #[.int .i64 0, .int .i64 0, .int .i64 0, .int .i64 0]) 4 32 Try.underlying52 HI2.out.1 HI2.out.2.1 HI2.out.2.2.1 HI2.out.2.2.2 rfl (by omega) (.slice B n D) n (lnCs fl) (by rfl) ?_ _ 1 1 [.int .i64 lf, .int .i64 ta, .int .i64 ea, .int .i64 lk] (by rfl) (by rfl) ?_ (by simp [Value.oneCell']) (by omega) ?_ (by omega) ?_ _ rfl ?_; (refine own_stay HOP.out ?_; (repeat (first | (with_reducible exact Only.refl _ _) | (with_reducible refine Only.drew ?_) | (with_reducible refine Only.alloc ?_ _)))); (refine World.news_of_block (cs := #[.int .i64 lf, .int .i64 ta, .int .i64 ea, .int .i64 lk]) (t := 58) (fr := (0, 0)) ?_; refine (show Blk _ _ 58 _ from ?_); repeat (first | ((with_reducible refine blk_new_eq ?_); (first | (with_reducible rfl) | exact (by simp) | exact (by simp; omega))) | (with_reducible refine Blk.drew ?_) | (with_reducible refine Blk.alloc ?_ _))); (unfold maxLen; omega); (first | omega | (simp; omega)); intro gA capA wA hownA hgrowA hatA hltA; have ho : Only (fun q => (Value.slice B n D).ownBlock = some q) w6 wA := (by (repeat (first | (with_reducible exact Only.refl _ _) | (with_reducible refine Only.drew ?_) | (with_reducible refine Only.alloc ?_ _) | (with_reducible refine Only.grown ?_ hgrowA (fun g hg => .inl hg))))); have hx1 : Blk wA w.heap.size 54 _ := H6.out.bm.only ho (fun hs => H6.out.farL (by omega) hs); have x2' : wA.cell? ⟨w.heap.size, 2, none⟩ = some (.slice B n D) := hx1.cell 2; have f2' : wA.frozen? ⟨w.heap.size, 2, none⟩ = false := hx1.frozen 2; have HN := Lib.hid (H6.out.appL ⟨lf, ta, ea, lk⟩ HFN.out hownA ho); clear ho hownA hgrowA hatA hltA hx1))
              all_goals
                go_wp2_with fail
                go_meet
                exact ⟨gA, capA, HN⟩
            case rest =>
              obtain ⟨g2, cap2, HC7⟩ := hcut
              clear H6 HOP x2 q0 q1 q2 q3 x2a hsz
              have x1 : wc.cell? ⟨w.heap.size, 1, none⟩ = some (.slice (some ⟨g, 0, none⟩) (m + 1) cap) := HC7.out.bm.cell 1
              have z0 : wc.cell? ⟨w.heap.size + 1 + 1, 0, none⟩ = some (.int .i64 lf) := HC7.out.bl.cell 0
              have z1 : wc.cell? ⟨w.heap.size + 1 + 1, 1, none⟩ = some (.int .i64 ta) := HC7.out.bl.cell 1
              have z2 : wc.cell? ⟨w.heap.size + 1 + 1, 2, none⟩ = some (.int .i64 ea) := HC7.out.bl.cell 2
              have z3 : wc.cell? ⟨w.heap.size + 1 + 1, 3, none⟩ = some (.int .i64 lk) := HC7.out.bl.cell 3
              have f0 : wc.frozen? ⟨w.heap.size + 1 + 1, 0, none⟩ = false := HC7.out.bl.frozen 0
              have f1 : wc.frozen? ⟨w.heap.size + 1 + 1, 1, none⟩ = false := HC7.out.bl.frozen 1
              have f2 : wc.frozen? ⟨w.heap.size + 1 + 1, 2, none⟩ = false := HC7.out.bl.frozen 2
              have f3 : wc.frozen? ⟨w.heap.size + 1 + 1, 3, none⟩ = false := HC7.out.bl.frozen 3
              go_upto_region 25 with (fail)
              refine wp_abs (NwSt w s (.slice (some ⟨g, 0, none⟩) (m + 1) cap) (.slice (some ⟨g2, 0, none⟩) (n + 1) cap2) (pl ++ [⟨pos, r, u, l, c⟩]) (fl ++ [⟨lf, ta, ea, lk⟩]) pos (r + 1 : Nat) (u + du : Nat) l (c + 1 : Nat) ((pos : Int) + 1) 0 0 (m + 1 : Nat) (some (.stringIter s (pos + dw)))) ((((HC7.out.setl 0 _ rfl).setl 1 _ rfl).setl 2 _ rfl).setl 3 _ rfl) ?_
              clear x1 z0 z1 z2 z3 f0 f1 f2 f3 HC7
              intro w8 h8
              have H8 := Lib.hid h8
              have q3 : w8.cell? ⟨w.heap.size + 1, 3, none⟩ = some (.int .i64 l) := h8.bp.cell 3
              have q4 : w8.cell? ⟨w.heap.size + 1, 4, none⟩ = some (.int .i64 (c + 1 : Nat)) := h8.bp.cell 4
              have f3 : w8.frozen? ⟨w.heap.size + 1, 3, none⟩ = false := h8.bp.frozen 3
              have f4 : w8.frozen? ⟨w.heap.size + 1, 4, none⟩ = false := h8.bp.frozen 4
              clear h8
              go_wp2
              have H9 := Lib.hid (show NwSt w s (.slice (some ⟨g, 0, none⟩) (m + 1) cap) (.slice (some ⟨g2, 0, none⟩) (n + 1) cap2) (pl ++ [⟨pos, r, u, l, c⟩]) (fl ++ [⟨lf, ta, ea, lk⟩]) pos (r + 1 : Nat) (u + du : Nat) (l + 1 : Nat) (0 : Nat) ((pos : Int) + 1) 0 0 (m + 1 : Nat) (some (.stringIter s (pos + dw))) _ from (H8.out.setp 3 _ rfl).setp 4 _ rfl)
              go_roundw
              case rel => exact ⟨pos + dw, f', _, fl ++ [⟨lf, ta, ea, lk⟩], _, _, _, _, _, _, _, _, _, _, _, HE.out, Lib.hid ⟨H9.out, HF.out.1, HS2.out.1, by rw [List.length_append, HM.out, List.map_append]; exact HS2.out.2, by have := HB.out.1; have := HW.out; have := HD2.out; simp only [List.length_append, List.length_cons, List.length_nil, ↓reduceIte]; omega⟩⟩
              case measure => exact Nat.lt_of_le_of_lt (Nat.le_of_eq (congrArg (s.size - ·) (iterPos_of H9.out.bi))) (by rw [iterPos_of HR.out.1.bi]; have := HW.out; omega)
    · have hdone : ∀ ty, (Instr.next (.pointer (some ⟨w.heap.size + 1 + 1 + 1, 0, none⟩)) true ty).run Try.prog wr = _ := fun ty => Lib.run_next_end_at wr (w.heap.size + 1 + 1 + 1) s pos ty HR.out.1.bi hp
      obtain ⟨he1, he2⟩ := go_end s f pos ⟨pos, r, u, l, c⟩ pl.length lk hp (by have := HR.out.2.1; omega)
      obtain rfl : pos = s.size := by omega
      have HS2 := Lib.hid (And.intro (HR.out.2.2.1.trans (congrArg (pl ++ ·) he1)) (HR.out.2.2.2.1.trans (congrArg (fl.map (·.k) ++ ·) he2)))
      have HB := Lib.hid HR.out.2.2.2.2
      have HST := Lib.hid HR.out.1
      clear he1 he2
      go_upto_region 27 with (fail)
      refine wp_abs (NwSt w s v1 v2 pl fl b r u l c lf lt le lk (some (.stringIter s s.size))) HST.out ?_
      clear hdone HST HR
      intro w2 h2
      have c0 : w2.cell? ⟨w.heap.size + 1, 0, none⟩ = some (.int .i64 b) := h2.bp.cell 0
      have f0 : w2.frozen? ⟨w.heap.size + 1, 0, none⟩ = false := h2.bp.frozen 0
      have H2 := Lib.hid h2
      clear h2
      go_upto_region 28 with (fail)
      refine wp_abs (NwSt w s v1 v2 pl fl s.size r u l c lf lt le lk (some (.stringIter s s.size))) (H2.out.setp 0 _ rfl) ?_
      clear c0 f0 H2
      intro w3 h3
      obtain ⟨A, C, rfl⟩ := own_slice h3.op
      obtain ⟨m, hm⟩ : ∃ m, pl.length = m := ⟨_, rfl⟩
      replace h3 : NwSt w s (.slice A m C) v2 pl fl s.size r u l c lf lt le lk (some (.stringIter s s.size)) w3 := hm ▸ h3
      have hmb : m ≤ 65536 := by have := HB.out.1; have := HH.out; omega
      have x1 : w3.cell? ⟨w.heap.size, 1, none⟩ = some (.slice A m C) := h3.bm.cell 1
      have q0 : w3.cell? ⟨w.heap.size + 1, 0, none⟩ = some (.int .i64 s.size) := h3.bp.cell 0
      have q1 : w3.cell? ⟨w.heap.size + 1, 1, none⟩ = some (.int .i64 r) := h3.bp.cell 1
      have q2 : w3.cell? ⟨w.heap.size + 1, 2, none⟩ = some (.int .i64 u) := h3.bp.cell 2
      have q3 : w3.cell? ⟨w.heap.size + 1, 3, none⟩ = some (.int .i64 l) := h3.bp.cell 3
      have q4 : w3.cell? ⟨w.heap.size + 1, 4, none⟩ = some (.int .i64 c) := h3.bp.cell 4
      have x1a : (w3.alloc (.cells #[.int .i64 s.size, .int .i64 r, .int .i64 u, .int .i64 l, .int .i64 c] 29)).cell? ⟨w.heap.size, 1, none⟩ = some (.slice A m C) := (h3.bm.alloc _).cell 1
      have HOP := Lib.hid (show w3.ownsRow (w.heap.size + 4) 29 5 (.slice A m C) m (plCs pl) by have := h3.op; rw [hm] at this; exact this)
      have HM := Lib.hid hm
      have hsz := h3.sz
      have H3 := Lib.hid h3
      clear h3 hm
      go_cut [133] from 127 to 136 (fun _ wx => ∃ g cap, Hid (NwSt w s (.slice (some ⟨g, 0, none⟩) (m + 1) cap) v2 (pl ++ [⟨s.size, r, u, l, c⟩]) fl s.size r u l c lf lt le lk (some (.stringIter s s.size)) wx))
      case first =>
        go_region_law
          ((refine step_append_lies _ (by rfl) _ _ 51 (by rfl) (w.heap.size + 4) 29 i0 (.agg #[.int .i64 0, .int .i64 0, .int .i64 0, .int .i64 0, .int .i64 0]) 5 40 Try.underlying51 HI.out.1 HI.out.2.1 HI.out.2.2.1 HI.out.2.2.2 rfl (by omega) (.slice A m C) m (plCs pl) (by rfl) ?_ _ 1 1 [.int .i64 s.size, .int .i64 r, .int .i64 u, .int .i64 l, .int .i64 c] (by rfl) (by rfl) ?_ (by simp [Value.oneCell']) (by omega) ?_ (by omega) ?_ _ rfl ?_; (refine own_stay HOP.out ?_; (repeat (first | (with_reducible exact Only.refl _ _) | (with_reducible refine Only.drew ?_) | (with_reducible refine Only.alloc ?_ _)))); (refine World.news_of_block (cs := #[.int .i64 s.size, .int .i64 r, .int .i64 u, .int .i64 l, .int .i64 c]) (t := 29) (fr := (0, 0)) ?_; refine (show Blk _ _ 29 _ from ?_); repeat (first | ((with_reducible refine blk_new_eq ?_); (first | (with_reducible rfl) | exact (by simp) | exact (by simp; omega))) | (with_reducible refine Blk.drew ?_) | (with_reducible refine Blk.alloc ?_ _))); (unfold maxLen; omega); (first | omega | (simp; omega)); intro gA capA wA hownA hgrowA hatA hltA; have ho : Only (fun q => (Value.slice A m C).ownBlock = some q) w3 wA := (by (repeat (first | (with_reducible exact Only.refl _ _) | (with_reducible refine Only.drew ?_) | (with_reducible refine Only.alloc ?_ _) | (with_reducible refine Only.grown ?_ hgrowA (fun g hg => .inl hg))))); have hx1 : Blk wA w.heap.size 54 _ := H3.out.bm.only ho (fun hs => H3.out.farP (by omega) hs); have x1' : wA.cell? ⟨w.heap.size, 1, none⟩ = some (.slice A m C) := hx1.cell 1; have f1' : wA.frozen? ⟨w.heap.size, 1, none⟩ = false := hx1.frozen 1; have HN := Lib.hid (H3.out.appP ⟨s.size, r, u, l, c⟩ HM.out hownA ho); clear ho hownA hgrowA hatA hltA hx1))
        all_goals
          go_wp2_with fail
          go_meet
          exact ⟨gA, capA, HN⟩
      case rest =>
        obtain ⟨g, cap, HC⟩ := hcut
        clear H3 HOP x1 q0 q1 q2 q3 q4 x1a hsz
        obtain ⟨n, hn⟩ : ∃ n, fl.length = n := ⟨_, rfl⟩
        obtain ⟨B, D, rfl⟩ := own_slice HC.out.ol
        have H5 := Lib.hid (show NwSt w s (.slice (some ⟨g, 0, none⟩) (m + 1) cap) (.slice B n D) (pl ++ [⟨s.size, r, u, l, c⟩]) fl s.size r u l c lf lt le lk (some (.stringIter s s.size)) wc from hn ▸ HC.out)
        have HFN := Lib.hid hn
        clear HC hn
        have y1 : wc.cell? ⟨w.heap.size + 1 + 1, 1, none⟩ = some (.int .i64 lt) := H5.out.bl.cell 1
        have g1 : wc.frozen? ⟨w.heap.size + 1 + 1, 1, none⟩ = false := H5.out.bl.frozen 1
        go_upto_region 30 with (fail)
        refine wp_abs (NwSt w s (.slice (some ⟨g, 0, none⟩) (m + 1) cap) (.slice B n D) (pl ++ [⟨s.size, r, u, l, c⟩]) fl s.size r u l c lf s.size le lk (some (.stringIter s s.size))) (H5.out.setl 1 _ rfl) ?_
        clear y1 g1 H5
        intro w6 h6
        have hnb : n ≤ 65536 := by have := HB.out.2.1; have := HH.out; have := HFN.out; omega
        have x2 : w6.cell? ⟨w.heap.size, 2, none⟩ = some (.slice B n D) := h6.bm.cell 2
        have q0 : w6.cell? ⟨w.heap.size + 1 + 1, 0, none⟩ = some (.int .i64 lf) := h6.bl.cell 0
        have q1 : w6.cell? ⟨w.heap.size + 1 + 1, 1, none⟩ = some (.int .i64 s.size) := h6.bl.cell 1
        have q2 : w6.cell? ⟨w.heap.size + 1 + 1, 2, none⟩ = some (.int .i64 le) := h6.bl.cell 2
        have q3 : w6.cell? ⟨w.heap.size + 1 + 1, 3, none⟩ = some (.int .i64 lk) := h6.bl.cell 3
        have x2a : (w6.alloc (.cells #[.int .i64 lf, .int .i64 s.size, .int .i64 le, .int .i64 lk] 58)).cell? ⟨w.heap.size, 2, none⟩ = some (.slice B n D) := (h6.bm.alloc _).cell 2
        have HOP := Lib.hid (show w6.ownsRow (w.heap.size + 4) 58 4 (.slice B n D) n (lnCs fl) by have := h6.ol; rw [HFN.out] at this; exact this)
        have hsz := h6.sz
        have H6 := Lib.hid h6
        clear h6
        go_cut [147] from 141 to 150 (fun _ wx => ∃ g2 cap2, Hid (NwSt w s (.slice (some ⟨g, 0, none⟩) (m + 1) cap) (.slice (some ⟨g2, 0, none⟩) (n + 1) cap2) (pl ++ [⟨s.size, r, u, l, c⟩]) (fl ++ [⟨lf, s.size, le, lk⟩]) s.size r u l c lf s.size le lk (some (.stringIter s s.size)) wx))
        case first =>
          go_region_law
            ((refine step_append_lies _ (by rfl) _ _ 52 (by rfl) (w.heap.size + 4) 58 i2 (.agg #[.int .i64 0, .int .i64 0, .int .i64 0, .int .i64 0]) 4 32 Try.underlying52 HI2.out.1 HI2.out.2.1 HI2.out.2.2.1 HI2.out.2.2.2 rfl (by omega) (.slice B n D) n (lnCs fl) (by rfl) ?_ _ 1 1 [.int .i64 lf, .int .i64 s.size, .int .i64 le, .int .i64 lk] (by rfl) (by rfl) ?_ (by simp [Value.oneCell']) (by omega) ?_ (by omega) ?_ _ rfl ?_; (refine own_stay HOP.out ?_; (repeat (first | (with_reducible exact Only.refl _ _) | (with_reducible refine Only.drew ?_) | (with_reducible refine Only.alloc ?_ _)))); (refine World.news_of_block (cs := #[.int .i64 lf, .int .i64 s.size, .int .i64 le, .int .i64 lk]) (t := 58) (fr := (0, 0)) ?_; refine (show Blk _ _ 58 _ from ?_); repeat (first | ((with_reducible refine blk_new_eq ?_); (first | (with_reducible rfl) | exact (by simp) | exact (by simp; omega))) | (with_reducible refine Blk.drew ?_) | (with_reducible refine Blk.alloc ?_ _))); (unfold maxLen; omega); (first | omega | (simp; omega)); intro gA capA wA hownA hgrowA hatA hltA; have ho : Only (fun q => (Value.slice B n D).ownBlock = some q) w6 wA := (by (repeat (first | (with_reducible exact Only.refl _ _) | (with_reducible refine Only.drew ?_) | (with_reducible refine Only.alloc ?_ _) | (with_reducible refine Only.grown ?_ hgrowA (fun g hg => .inl hg))))); have hx1 : Blk wA w.heap.size 54 _ := H6.out.bm.only ho (fun hs => H6.out.farL (by omega) hs); have x2' : wA.cell? ⟨w.heap.size, 2, none⟩ = some (.slice B n D) := hx1.cell 2; have f2' : wA.frozen? ⟨w.heap.size, 2, none⟩ = false := hx1.frozen 2; have HN := Lib.hid (H6.out.appL ⟨lf, s.size, le, lk⟩ HFN.out hownA ho); clear ho hownA hgrowA hatA hltA hx1))
          all_goals
            go_wp2_with fail
            go_meet
            exact ⟨gA, capA, HN⟩
        case rest =>
          obtain ⟨g2, cap2, HC7⟩ := hcut
          clear H6 HOP x2 q0 q1 q2 q3 x2a hsz
          go_wp2
          dsimp only [Exit.jumps]
          go_ret2
          refine ⟨rfl, HC7.out.below, some ⟨g, 0, none⟩, cap, some ⟨g2, 0, none⟩, cap2, fl ++ [⟨lf, s.size, le, lk⟩], ?_, ?_, ?_, ?_⟩
          · rw [HS2.out.1, List.length_append, List.length_append, HM.out, HFN.out]; exact HC7.out.bm
          · have h := HC7.out.op
            rw [List.length_append, HM.out] at h
            rw [HS2.out.1, List.length_append, HM.out]; exact own_rd h
          · have h := HC7.out.ol
            rw [List.length_append, HFN.out] at h
            rw [List.length_append, HFN.out]; exact own_rd h
          · rw [HS2.out.2, List.map_append]; rfl
end Go.Proofs.Ytialpfmaekagjaa
