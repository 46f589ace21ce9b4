/- fold.written and Fold, where each unit is a letter of the fixed text. -/
import Derived.Test.YtialpfmaekagjaaF4
import Derived.Lib.AppendStr
import Derived.Laws.BytesArg
namespace Go.Proofs.Ytialpfmaekagjaa
open Go.RowKit Go.Maps Go.WideMaps
attribute [local go_sem] Oper.semAt_some

def bytesI (s : ByteArray) : List Int := s.data.toList.map fun b => (b.toNat : Int)
def outI (l : List Pc) : List Int := l.flatMap fun p => bytesI (plainF p.2.2.1)
theorem outI_snoc (l : List Pc) (p : Pc) : outI (l ++ [p]) = outI l ++ bytesI (plainF p.2.2.1) := by simp [outI]
theorem plain_size : (freeR.all fun r => decide ((plainF r).size ≤ 4)) = true := by decide +kernel
theorem plain_le {r : Int} (h : r ∈ freeR) : (plainF r).size ≤ 4 := by
  have := List.all_eq_true.1 plain_size r h
  simpa using this
theorem info5 : (Try.prog.info? 5).map (fun i => (i.zero, i.size, i.bytes)) = some (some (.int .u8 0), 1, 1) := by kernel_rfl
theorem strCells_bytesI (s : ByteArray) : Lib.strCells s = (bytesI s).map (Value.int .u8) := by
  unfold Lib.strCells bytesI
  simp [Function.comp_def]

theorem bytesI_len (s : ByteArray) : (bytesI s).length = s.size := by
  unfold bytesI
  rw [List.length_map, Array.length_toList]
  rfl

set_option maxHeartbeats 4000000 in
theorem written_any (l : List Pc) (X : Option Addr) (C B : Nat) (w : World) (h : Rd w 0 B 5 X l.length (fuCs l)) (hB : B ≤ w.heap.size) (hl : l.length ≤ 1000) (hok : ∀ p ∈ l, okU p = true) :
    Calls Try.prog 28 #[.slice X l.length C, .func (.func 30) #[] #[]] w fun e w' => e = .returned (.string (strOfNums (outI l))) ∧ Below w.heap.size w w' := by
  obtain ⟨i0, hi, hz0, hz1, hz2⟩ := info_parts info5
  have HI := Lib.hid (And.intro hi (And.intro hz0 (And.intro hz1 hz2)))
  have HH := Lib.hid (And.intro h (And.intro hB hok))
  clear hi hz0 hz1 hz2 h hB hok
  go_enter Try.func28, Try.ntmps28
  go_wp2
  go_loopw [5, 10] (fun v5 v10 wr => ∃ i : Nat, i ≤ l.length ∧ v10 = .int .i64 i ∧ Hid (wr.ownsRow w.heap.size 5 1 v5 (outI (l.take i)).length ((outI (l.take i)).map (Value.int .u8)) ∧ (outI (l.take i)).length ≤ 4 * i ∧ Below w.heap.size w wr)) (fun _ v _ => l.length - (intOf v).toNat)
  case atStart => exact ⟨0, by omega, rfl, Lib.hid ⟨World.ownsRow_nil _ _ _ _, by simp [outI], Below.refl _ _⟩⟩
  case round =>
    obtain ⟨i, hi, rfl, HR⟩ := hrel
    by_cases hlt : i < l.length
    · obtain ⟨b, o, hA, _, hbB, hcs⟩ := HH.out.1.2 (by omega)
      subst hA
      have hp := HH.out.2.2 l[i] (List.getElem_mem hlt)
      have hsn : outI (l.take (i + 1)) = outI (l.take i) ++ bytesI (plainF l[i].2.2.1) := by rw [List.take_succ_eq_append_getElem hlt, outI_snoc]
      have hat : ∀ j, j < 5 → ∀ u, (fuC l[i])[j]? = some u → wr.cell? ⟨b, o + i * 5 + j, none⟩ = some u := fun j hj u hu => by
        have h := hcs (i * 5 + j) u (by rw [fuCs_at l i hlt j hj]; exact hu)
        rw [← Nat.add_assoc] at h
        exact (HR.out.2.2.cell (p := ⟨b, o + i * 5 + j, none⟩) (by have := HH.out.2.1; simp; omega)).trans h
      generalize l[i] = p at *
      have y0 : wr.cell? ⟨b, o + i * 5, none⟩ = some (.int .i64 p.1) := hat 0 (by omega) _ rfl
      have y1 : wr.cell? ⟨b, o + i * 5 + 1, none⟩ = some (.int .u8 0) := hat 1 (by omega) _ rfl
      have y2 : wr.cell? ⟨b, o + i * 5 + 2, none⟩ = some (.int .i32 p.2.2.1) := hat 2 (by omega) _ rfl
      have y3 : wr.cell? ⟨b, o + i * 5 + 3, none⟩ = some (.slice none 0 0) := hat 3 (by omega) _ rfl
      have y4 : wr.cell? ⟨b, o + i * 5 + 4, none⟩ = some (.slice none 0 0) := hat 4 (by omega) _ rfl
      unfold okU at hp
      rw [Bool.and_eq_true] at hp
      have hmem : p.2.2.1 ∈ freeR := by simpa using hp.2
      have hr0 : ¬ p.2.2.1 < 0 := by
        have h2 := hmem
        simp only [freeR, List.mem_cons, List.not_mem_nil, or_false] at h2
        omega
      have HM := Lib.hid (And.intro hmem hsn)
      have hrb : decide (p.2.2.1 < 0) = false := decide_eq_false hr0
      clear hat hcs hp hmem hsn
      go_wp2_with fail
      refine (plain_any p.1 p.2.2.1 _ HM.out.1).mono ?_
      rintro e w2 ⟨rfl, hb2⟩
      have hbw : Below wr.heap.size wr w2 := ((Below.refl _ wr).alloc (Nat.le_refl _) _).trans (hb2.mono (by simp))
      have HO := Lib.hid (And.intro (own_stay HR.out.1 (Only.of_below hbw _)) (HR.out.2.2.trans (hbw.mono HR.out.2.2.size)))
      have hps := plain_le HM.out.1
      clear y0 y1 y2 y3 y4 hb2 hbw
      go_wp2_with (at_builtin; go_must (refine Lib.wpList_append_own_string _ rfl _ _ 96 9 rfl w.heap.size 5 i0 Try.underlying96 Try.underlying9 HI.out.1 HI.out.2.1 HI.out.2.2.1 HI.out.2.2.2 _ _ _ rfl HO.out.1 _ rfl (by unfold maxLen; have := HR.out.2.1; omega) (by have := HR.out.2.1; omega) HO.out.2.size ?_; intro v' w8 hown8 hgrow _; have HG := Lib.hid (And.intro hown8 hgrow); clear hown8 hgrow))
      go_roundw
      case rel =>
        have hgb : Below w.heap.size w w8 := HO.out.2.trans ((Only.of_below (Below.refl _ w2) (fun b => u5.ownBlock = some b)).grown HG.out.2 (fun g hg => .inl hg) |>.below HO.out.2.size (fun b hb hs => by have := (HO.out.1.lt b hs).1; omega))
        refine ⟨i + 1, by omega, by go_num, Lib.hid ⟨?_, ?_, hgb⟩⟩
        · rw [HM.out.2, List.length_append, List.map_append, bytesI_len, ← strCells_bytesI]
          exact HG.out.1
        · rw [HM.out.2, List.length_append, bytesI_len]
          have := HR.out.2.1
          omega
      case measure => simp [intOf]; omega
    · have hie : i = l.length := by omega
      subst hie
      have hown := HR.out.1
      rw [List.take_length] at hown
      have hconv : (convert 96 9 u5).run Try.prog wr = .ok (.string (strOfNums (outI l))) wr := by
        rcases hown.2 with ⟨hv, h0⟩ | ⟨g, cap, cur, hv, _⟩
        · rw [hv]
          have : outI l = [] := List.eq_nil_of_length_eq_zero h0
          rw [this]
          exact run_convert_bytes_nil wr 96 5 Try.underlying96 Try.underlying5 _ _ 9 Try.underlying9
        · rw [hv] at hown ⊢
          refine run_convert_bytes_arg wr 96 5 Try.underlying96 Try.underlying5 g 0 _ cap (outI l) rfl (fun i hi => ?_) 9 Try.underlying9
          rcases Nat.eq_zero_or_pos (outI l).length with h0 | h0
          · omega
          · obtain ⟨b, o, hA, _, _, hcs⟩ := (own_rd hown).2 h0
            injection hA with hA
            injection hA with hA1 hA2
            subst hA1 hA2
            refine hcs i _ ?_
            rw [List.getElem?_map, List.getElem?_eq_getElem hi, List.getD_eq_getElem?_getD, List.getElem?_eq_getElem hi]
            rfl
      have HB := Lib.hid HR.out.2.2
      clear HR hown
      go_wp2
      go_ret
      exact ⟨rfl, HB.out⟩

def strasse : ByteArray := ⟨#[83, 116, 114, 97, 195, 159, 101]⟩
theorem strasse_ok : ((pcs strasse).all okU && decide (strOfNums (outI (pcs strasse)) = ⟨#[115, 116, 114, 97, 115, 115, 101]⟩) && decide ((pcs strasse).length ≤ 1000)) = true := by decide +kernel
theorem fold_strasse (w : World) : Calls Try.prog 17 #[.string strasse] w fun e w' => e = .returned (.string ⟨#[115, 116, 114, 97, 115, 115, 101]⟩) ∧ Below w.heap.size w w' := by
  have hk := strasse_ok
  simp only [Bool.and_eq_true, decide_eq_true_eq] at hk
  obtain ⟨⟨k1, k2⟩, k3⟩ := hk
  have hz : strasse.size ≤ 70000 := by decide
  generalize strasse = s at *
  go_enter Try.func17, Try.ntmps17
  go_wp2_with fail
  refine (units_any s w hz k1).mono ?_
  rintro e w1 ⟨X, C, rfl, hown, hb⟩
  have HB := Lib.hid hb
  have hrd := (own_rd hown).more (Nat.zero_le _) (Nat.le_refl _)
  have HR := Lib.hid (And.intro hrd (And.intro k3 (List.all_eq_true.1 k1)))
  clear hown hb hrd
  generalize pcs s = l at *
  go_wp2_with fail
  refine (written_any l X C w1.heap.size w1 HR.out.1 (Nat.le_refl _) HR.out.2.1 HR.out.2.2).mono ?_
  rintro e w2 ⟨rfl, hb2⟩
  rw [k2]
  have HB2 := Lib.hid (HB.out.trans (hb2.mono HB.out.size))
  clear hb2
  go_wp2
  go_ret
  exact ⟨rfl, HB2.out⟩
end Go.Proofs.Ytialpfmaekagjaa
