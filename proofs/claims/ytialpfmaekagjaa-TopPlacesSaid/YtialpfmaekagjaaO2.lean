/- own: the pieces of a text by Go's range. -/
import Derived.Test.YtialpfmaekagjaaO1
import Derived.Test.YtialpfmaekagjaaR2
import Derived.BigQuiet
import Derived.Deep.AppendLies
import Derived.Deep.DeepMust
import Derived.Deep.CutBlock
namespace Go.Proofs.Ytialpfmaekagjaa
open Go.RowKit

theorem own_some {w : World} {base : Nat} {e : TypeId} {size n : Nat} {v : Value} {xs : List Value} (h : w.ownsRow base e size v n xs) (hn : 0 < n) : ∃ g cap, v = .slice (some ⟨g, 0, none⟩) n cap ∧ n ≤ cap := by
  rcases h.2 with ⟨_, h0⟩ | ⟨g, cap, cur, hv, _, _, hn, _⟩
  · omega
  · exact ⟨g, cap, hv, hn⟩

set_option maxHeartbeats 8000000 in
set_option maxRecDepth 100000 in
theorem own_any (s : ByteArray) (hs : s.size ≤ 65536) (w : World) : Calls Try.prog 7 #[.string s] w fun e w' => ∃ A C, e = .returned (.slice A (owL s).length C) ∧ Rd w' (w.heap.size + 1) w'.heap.size 4 A (owL s).length (ocCs ((owL s).map brkP)) ∧ Below w.heap.size w w' := by
  obtain ⟨i0, hi, hz0, hz1, hz2⟩ : ∃ i, Try.prog.info? 33 = some i ∧ i.zero = some (.agg #[.int .i64 0, .int .i64 0, .int .i32 0, .bool false]) ∧ i.size = 4 ∧ i.bytes = 24 := by
    have h := info33
    cases hi : Try.prog.info? 33 with
    | none => rw [hi] at h; cases h
    | some i => rw [hi] at h; simp only [Option.map_some, Option.some.injEq, Prod.mk.injEq] at h; exact ⟨i, rfl, h.1, h.2.1, h.2.2⟩
  have HI := Lib.hid (And.intro hi (And.intro hz0 (And.intro hz1 hz2)))
  clear hi hz0 hz1 hz2
  have HH := Lib.hid hs
  clear hs
  go_enter Try.func7, Try.ntmps7
  go_wp2
  go_loopw [3] (fun v3 wr => ∃ (pos f : Nat) (out : List P4), pos ≤ s.size ∧ Hid (OwSt w v3 out (some (.stringIter s pos)) wr ∧ s.size - pos < f ∧ ((out = [] ∧ pos = 0 ∧ owL s = owGo s f pos) ∨ ∃ dn q rq, out = dn ++ [(q, 0, rq, false)] ∧ q < pos ∧ dn.length ≤ q ∧ owL s = dn ++ (q, pos - q, rq, false) :: owGo s f pos))) (fun _ w' => s.size - w'.iterPos w.heap.size)
  case atStart => exact ⟨0, s.size + 1, [], by omega, Lib.hid ⟨⟨iter_below _ _ _, World.iter_heap _ _ _, by simp [World.iter], World.ownsRow_nil _ _ _ _⟩, by omega, .inl ⟨rfl, rfl, rfl⟩⟩⟩
  case round =>
    obtain ⟨pos, f, out, hpos, HR⟩ := hrel
    by_cases hp : pos < s.size
    · have hnx : ∀ ty, (Instr.next (.pointer (some ⟨w.heap.size, 0, none⟩)) true ty).run Try.prog wr = _ := fun ty => Lib.run_next_any_at wr w.heap.size s pos ty HR.out.1.bi hp
      obtain ⟨f', hf1, hf2⟩ := owGo_more s f pos hp HR.out.2.1
      have hd := decode_le s pos
      have hw1 := width_pos s pos hp
      have hdfit := decode_fit s pos hp
      have HST := Lib.hid (HR.out.1.iter (pos + (Utf8.decode s pos).2))
      have HQ := Lib.hid HR.out.2.2
      generalize (Utf8.decode s pos).1 = rr at *
      generalize (Utf8.decode s pos).2 = dw at *
      have HF := Lib.hid (And.intro hf1 hf2)
      have HE := Lib.hid (show pos + dw ≤ s.size from hdfit)
      have HW := Lib.hid hw1
      have hpb : pos ≤ 65536 := by have := HH.out; omega
      have HPS := Lib.hid (And.intro hp hpos)
      clear hf1 hf2 hdfit hw1 hp hpos
      go_upto_region 5 with (fail)
      refine wp_abs (OwSt w u3 out (some (.stringIter s (pos + dw)))) HST.out ?_
      clear hnx HST
      intro w2 h2
      have H2 := Lib.hid h2
      obtain ⟨B, D, rfl⟩ := own_slice h2.ow
      clear h2
      obtain ⟨n, hn⟩ : ∃ n, out.length = n := ⟨_, rfl⟩
      have HN := Lib.hid hn
      rw [hn] at H2 ⊢
      clear hn
      go_upto_if 15 with (fail)
      go_cut [15] from 9 to 36 (fun _ wx => ∃ dn, Hid (OwSt w (.slice B n D) dn (some (.stringIter s (pos + dw))) wx ∧ dn.length = n ∧ owL s = dn ++ owGo s f pos ∧ n ≤ pos))
      case first =>
        rcases HQ.out with ⟨rfl, rfl, hq⟩ | ⟨dn, q, rq, rfl, hq1, hq2, hq3⟩
        · obtain rfl : n = 0 := HN.out.symm
          have HQ2 := Lib.hid hq
          clear hq
          go_wp2_with fail
          go_meet
          exact ⟨[], Lib.hid ⟨H2.out, rfl, HQ2.out, by omega⟩⟩
        · obtain ⟨m, rfl⟩ : ∃ m, n = m + 1 := ⟨dn.length, by rw [← HN.out]; simp⟩
          have hm : dn.length = m := by have := HN.out; simp at this; exact this
          have hmb : m ≤ 65536 := by omega
          obtain ⟨g, cap, hv, hcap⟩ := own_some H2.out.ow (by simp)
          have hown : w2.ownsRow (w.heap.size + 1) 33 4 (.slice B (m + 1) D) (m + 1) (ocCs (dn ++ [(q, 0, rq, false)])) := by have := H2.out.ow; rw [HN.out] at this; exact this
          injection hv with hv1 hv2 hv3
          subst hv1
          subst hv3
          have x0 : w2.cell? ⟨g, m * 4, none⟩ = some (.int .i64 q) := by
            have h := hown.cells rfl (m * 4 + 0) (.int .i64 q) (by rw [← hm, ocCs_at _ _ (by simp) 0 (by omega)]; simp [ocC])
            have hadd : (⟨g, 0, none⟩ : Addr).add (m * 4 + 0) = ⟨g, m * 4, none⟩ := (add_none ⟨g, 0, none⟩ (m * 4 + 0) rfl).trans (by simp)
            rw [← hadd]; exact h
          have x1 := own_at hown (i := m * 4 + 1) (by omega)
          obtain ⟨⟨_, x1⟩, y1⟩ := x1
          have HM := Lib.hid (And.intro hm (And.intro hq1 (And.intro hq2 hq3)))
          have hqb : q ≤ 65536 := by omega
          clear hown hm hq1 hq2 hq3 hv2 hcap
          go_wp2_with fail
          go_meet
          exact ⟨dn ++ [(q, pos - q, rq, false)], Lib.hid ⟨H2.out.set (by rw [HN.out]) _ 1 _ (by omega) (by have := HM.out.2.1; have h2 : ((pos - q : Nat) : Int) = (pos : Int) - q := (by omega); simp [ocC, h2]) (by rw [HM.out.1]), by rw [← HN.out]; simp, by rw [HM.out.2.2.2]; simp, by have h1 := HM.out.1; have h2 := HM.out.2.1; have h3 := HM.out.2.2.1; omega⟩⟩
      case rest =>
        obtain ⟨dn, HC⟩ := hcut
        clear HQ H2 HN
        have hnb : n ≤ 65536 := by have := HC.out.2.2.2; omega
        have hsz := HC.out.1.sz
        have HOW := Lib.hid (show wc.ownsRow (w.heap.size + 1) 33 4 (.slice B n D) n (ocCs dn) by have := HC.out.1.ow; rw [HC.out.2.1] at this; exact this)
        go_wp2_with (at_builtin; refine wpList_append_lies _ (by rfl) _ _ 30 (by rfl) (w.heap.size + 1) 33 i0 (.agg #[.int .i64 0, .int .i64 0, .int .i32 0, .bool false]) 4 24 Try.underlying30 HI.out.1 HI.out.2.1 HI.out.2.2.1 HI.out.2.2.2 rfl (by omega) (.slice B n D) n (ocCs dn) (by rfl) ?_ _ 1 1 [.int .i64 pos, .int .i64 0, .int .i32 rr, .bool false] (by rfl) (by rfl) ?_ (by simp [Value.oneCell']) (by omega) ?_ (by omega) ?_ _ rfl ?_; (refine own_stay HOW.out ?_; (repeat (first | (with_reducible exact Only.refl _ _) | (with_reducible refine Only.drew ?_) | (with_reducible refine Only.alloc ?_ _)))); (refine World.news_of_block (cs := #[.int .i64 pos, .int .i64 0, .int .i32 rr, .bool false]) (t := 33) (fr := (0, 0)) ?_; refine (show Blk _ _ 33 _ from ?_); repeat (first | ((with_reducible refine blk_new_eq ?_); (first | (with_reducible rfl) | exact (by simp) | exact (by simp; omega))) | (with_reducible refine Blk.drew ?_) | (with_reducible refine Blk.alloc ?_ _))); (unfold maxLen; omega); (first | omega | (simp; omega)); intro gA capA wA hownA hgrowA hatA hltA; have ho : Only (fun q => (Value.slice B n D).ownBlock = some q) wc wA := (by (repeat (first | (with_reducible exact Only.refl _ _) | (with_reducible refine Only.drew ?_) | (with_reducible refine Only.alloc ?_ _) | (with_reducible refine Only.grown ?_ hgrowA (fun g hg => .inl hg))))); have HN := Lib.hid (HC.out.1.app (pos, 0, rr, false) HC.out.2.1 hownA ho); clear ho hownA hgrowA hatA hltA)
        go_roundw
        case rel => exact ⟨pos + dw, f', _, HE.out, Lib.hid ⟨HN.out, HF.out.1, .inr ⟨dn, pos, rr, rfl, by have := HW.out; omega, by rw [HC.out.2.1]; exact HC.out.2.2.2, by rw [HC.out.2.2.1, HF.out.2, Nat.add_sub_cancel_left]⟩⟩⟩
        case measure => exact Nat.lt_of_le_of_lt (Nat.le_of_eq (congrArg (s.size - ·) (iterPos_of HN.out.bi))) (by rw [iterPos_of HR.out.1.bi]; have := HW.out; have := HPS.out; omega)
    · have hdone : ∀ ty, (Instr.next (.pointer (some ⟨w.heap.size, 0, none⟩)) true ty).run Try.prog wr = _ := fun ty => Lib.run_next_end_at wr w.heap.size s pos ty HR.out.1.bi hp
      have he := owGo_end s f pos hp
      obtain rfl : pos = s.size := by omega
      have HST := Lib.hid HR.out.1
      have HQ := Lib.hid HR.out.2.2
      rw [he] at HQ
      clear he HR
      go_upto_region 8 with (fail)
      refine wp_abs (OwSt w u3 out (some (.stringIter s s.size))) HST.out ?_
      clear hdone HST
      intro w2 h2
      have H2 := Lib.hid h2
      obtain ⟨B, D, rfl⟩ := own_slice h2.ow
      clear h2
      obtain ⟨n, hn⟩ : ∃ n, out.length = n := ⟨_, rfl⟩
      have HN := Lib.hid hn
      rw [hn] at H2 ⊢
      clear hn
      have hpb : s.size ≤ 65536 := HH.out
      go_upto_if 39 with (fail)
      go_cut [39] from 37 to 55 (fun _ wx => Hid (OwSt w (.slice B n D) (owL s) (some (.stringIter s s.size)) wx ∧ (owL s).length = n ∧ n ≤ 65536))
      case first =>
        rcases HQ.out with ⟨rfl, hz, hq⟩ | ⟨dn, q, rq, rfl, hq1, hq2, hq3⟩
        · obtain rfl : n = 0 := HN.out.symm
          have HQ2 := Lib.hid hq
          clear hq hz
          go_wp2_with fail
          go_meet
          exact Lib.hid ⟨by rw [HQ2.out]; exact H2.out, by rw [HQ2.out]; rfl, by omega⟩
        · obtain ⟨m, hm⟩ : ∃ m, dn.length = m := ⟨_, rfl⟩
          obtain rfl : n = m + 1 := by have := HN.out; simp at this; omega
          have hmb : m ≤ 65536 := by omega
          obtain ⟨g, cap, hv, hcap⟩ := own_some H2.out.ow (by simp)
          have hown : w2.ownsRow (w.heap.size + 1) 33 4 (.slice B (m + 1) D) (m + 1) (ocCs (dn ++ [(q, 0, rq, false)])) := by have := H2.out.ow; rw [HN.out] at this; exact this
          injection hv with hv1 hv2 hv3
          subst hv1
          subst hv3
          have x0 : w2.cell? ⟨g, m * 4, none⟩ = some (.int .i64 q) := by
            have h := hown.cells rfl (m * 4 + 0) (.int .i64 q) (by rw [← hm, ocCs_at _ _ (by simp) 0 (by omega)]; simp [ocC])
            have hadd : (⟨g, 0, none⟩ : Addr).add (m * 4 + 0) = ⟨g, m * 4, none⟩ := (add_none ⟨g, 0, none⟩ (m * 4 + 0) rfl).trans (by simp)
            rw [← hadd]; exact h
          have x1 := own_at hown (i := m * 4 + 1) (by omega)
          obtain ⟨⟨_, x1⟩, y1⟩ := x1
          have HM := Lib.hid (And.intro hm (And.intro hq1 (And.intro hq2 hq3)))
          have hqb : q ≤ 65536 := by omega
          clear hown hm hq1 hq2 hq3 hv2 hcap
          go_wp2_with fail
          go_meet
          exact Lib.hid ⟨by rw [HM.out.2.2.2]; exact H2.out.set (by rw [HN.out]) _ 1 _ (by omega) (by have := HM.out.2.1; have h2 : ((s.size - q : Nat) : Int) = (s.size : Int) - q := (by omega); simp [ocC, h2]) (by rw [HM.out.1]), by rw [HM.out.2.2.2, ← HN.out]; simp, by have h1 := HM.out.1; have h2 := HM.out.2.1; have h3 := HM.out.2.2.1; omega⟩
      case rest =>
        have HC := hcut
        clear hcut HQ H2 HN
        have hnb : n ≤ 65536 := HC.out.2.2
        go_wp2
        go_loopw [6, 58] (fun _ iv wr => ∃ i : Nat, i ≤ n ∧ iv = .int .i64 i ∧ Hid (OwSt w (.slice B n D) (((owL s).take i).map brkP ++ (owL s).drop i) (some (.stringIter s s.size)) wr)) (fun _ iv _ => n - (intOf iv).toNat)
        case atStart => exact ⟨0, by omega, rfl, Lib.hid (by simpa using HC.out.1)⟩
        case round =>
          obtain ⟨i, hin, rfl, HR⟩ := hrel
          by_cases hlt : i < n
          · have hl : i < (owL s).length := by rw [HC.out.2.1]; exact hlt
            have hil : (((owL s).take i).map brkP).length = i := by simp; omega
            have hfull : (((owL s).take i).map brkP ++ (owL s).drop i).length = n := by have := HC.out.2.1; simp; omega
            rw [List.drop_eq_getElem_cons hl] at HR hfull
            have hst : ((owL s).take (i + 1)).map brkP = ((owL s).take i).map brkP ++ [brkP (owL s)[i]] := by rw [List.take_succ_eq_append_getElem hl, List.map_append]; rfl
            obtain ⟨g, cap, hv, hcap⟩ := own_some HR.out.ow (by omega)
            have hown : wr.ownsRow (w.heap.size + 1) 33 4 (.slice B n D) n (ocCs (((owL s).take i).map brkP ++ (owL s)[i] :: (owL s).drop (i + 1))) := by have := HR.out.ow; rw [hfull] at this; exact this
            injection hv with hv1 hv2 hv3
            subst hv1
            subst hv3
            have hat : ∀ j u, j < 4 → (ocC (owL s)[i])[j]? = some u → wr.cell? ⟨g, i * 4 + j, none⟩ = some u := fun j u hj hu => by
              have h := hown.cells rfl (i * 4 + j) u (by rw [ocCs_at _ _ (by omega) j hj, List.getElem_append_right (by omega)]; simp only [hil, Nat.sub_self, List.getElem_cons_zero]; exact hu)
              have hadd : (⟨g, 0, none⟩ : Addr).add (i * 4 + j) = ⟨g, i * 4 + j, none⟩ := (add_none ⟨g, 0, none⟩ (i * 4 + j) rfl).trans (by simp)
              rw [← hadd]; exact h
            have x3 := own_at hown (i := i * 4 + 3) (by omega)
            obtain ⟨⟨_, x3⟩, y3⟩ := x3
            have HS := Lib.hid (And.intro hst (And.intro hil hfull))
            clear hst hil hfull hown hv2 hcap
            generalize (owL s)[i] = p4 at *
            clear hl
            obtain ⟨p, q, rq, bb⟩ := p4
            have x1 : wr.cell? ⟨g, i * 4 + 1, none⟩ = some (.int .i64 q) := hat 1 _ (by omega) rfl
            have x2 : wr.cell? ⟨g, i * 4 + 2, none⟩ = some (.int .i32 rq) := hat 2 _ (by omega) rfl
            clear hat
            have HE : ∀ b, (decide (rq = 65533) && decide (q = 1)) = b → Hid (OwSt w (.slice (some ⟨g, 0, none⟩) n D) (((owL s).take (i + 1)).map brkP ++ (owL s).drop (i + 1)) (some (.stringIter s s.size)) (wr.setCell ⟨g, i * 4 + 3, none⟩ (.bool b))) := fun b hb => Lib.hid (by
              have h := HR.out.set HS.out.2.2 (brkP (p, q, rq, bb)) 3 (.bool b) (by omega) (by simp [ocC, brkP, hb]) (a := ⟨g, i * 4 + 3, none⟩) (by rw [HS.out.2.1])
              rw [HS.out.1, List.append_assoc]
              exact h)
            have HE2 := Lib.hid HE
            clear HE
            by_cases h1 : rq = 65533
            · by_cases h2 : q = 1
              · have HE3 := HE2.out true (by simp [h1, h2])
                have hd1 : ((rq : Int) == 65533) = true := by simp; omega
                have hd2 : ((q : Int) == 1) = true := by simp; omega
                clear h1 h2
                go_wp2
                go_roundw
                case rel => exact ⟨i + 1, by omega, by go_num, HE3⟩
                case measure => simp [intOf]; omega
              · have HE3 := HE2.out false (by simp [h1, h2])
                have hd1 : ((rq : Int) == 65533) = true := by simp; omega
                have hd2 : ((q : Int) == 1) = false := by simp; omega
                clear h1 h2
                go_wp2
                go_roundw
                case rel => exact ⟨i + 1, by omega, by go_num, HE3⟩
                case measure => simp [intOf]; omega
            · have HE3 := HE2.out false (by simp [h1])
              have hd1 : ((rq : Int) == 65533) = false := by simp; omega
              clear h1
              go_wp2
              go_roundw
              case rel => exact ⟨i + 1, by omega, by go_num, HE3⟩
              case measure => simp [intOf]; omega
          · have hi : i = n := by omega
            subst hi
            go_wp2
            go_ret
            have ho := HR.out.ow
            rw [List.take_of_length_le (by have := HC.out.2.1; omega), List.drop_eq_nil_of_le (by have := HC.out.2.1; omega), List.append_nil, List.length_map] at ho
            rw [HC.out.2.1] at ho ⊢
            exact ⟨B, D, rfl, own_rd ho, HR.out.below⟩
end Go.Proofs.Ytialpfmaekagjaa
