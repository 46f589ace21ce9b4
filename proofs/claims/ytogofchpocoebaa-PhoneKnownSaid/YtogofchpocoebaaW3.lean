/- syllable.Split's border; syllable.Split. -/
import Derived.Test.YtogofchpocoebaaW2
namespace Go.Proofs.Ytogofchpocoebaa
open Go.RowKit Go.Maps

theorem Rd.cutP {w : World} {L B n b o : Nat} {l : List Ph} (h : Rd w L B 3 (some ⟨b, o, none⟩) n (phs l)) {N M : Nat} (hN : N ≤ M) (hM : M ≤ n) : Rd w L B 3 (some ⟨b, o + N * 3, none⟩) (M - N) (phs (cutL l N M)) := by
  have hl := h.len_ph
  have e1 : phs (cutL l N M) = ((phs l).drop (N * 3)).take ((M - N) * 3) := by
    unfold phs cutL
    rw [flat_take phC 3 phC_len _ _ (by rw [List.length_drop]; omega), flat_drop phC 3 phC_len _ _ (by omega)]
  refine ⟨by rw [phs_len, cut_len (by omega)], fun hpos => ?_⟩
  obtain ⟨b', o', e, hL, hB, hc⟩ := h.2 (by omega)
  injection e with e
  injection e with ea eb
  subst ea eb
  refine ⟨b, o + N * 3, rfl, hL, hB, fun j u hu => ?_⟩
  rw [e1, List.getElem?_take] at hu
  split at hu
  · rw [List.getElem?_drop] at hu
    rw [Nat.add_assoc]
    exact hc _ _ hu
  · cases hu
theorem cut_mem {l : List Ph} {a b : Nat} {p : Ph} (h : p ∈ cutL l a b) : p ∈ l := List.mem_of_mem_drop (List.mem_of_mem_take h)
theorem all_fit {l : List Ph} (h : l.all isF = true) : ∀ p ∈ l, fitP p := fun p hp => by
  obtain ⟨h1, h2⟩ := isF_tab (List.all_eq_true.1 h p hp)
  have := tab_small h1
  unfold fitP fit32
  omega
/-- the place from which the border is sought -/
theorem bord_at {l : List Ph} {a i : Nat} (ha : a < i) (hi : i ≤ l.length) : ∃ m : Nat, m < i - a ∧ max ((a : Int) + 1) ((i : Int) - 3) = ((i - m : Nat) : Int) ∧ bordF l a i = bordD l i (m + 1) := by
  by_cases h : 4 ≤ i - a
  · refine ⟨3, by omega, by omega, ?_⟩
    unfold bordF
    exact bord_short hi h (by omega)
  · refine ⟨i - a - 1, by omega, by omega, ?_⟩
    unfold bordF
    rw [show i - a - 1 + 1 = i - a by omega]

set_option maxHeartbeats 4000000 in
set_option maxRecDepth 100000 in
theorem border_any (cb b o n c L B : Nat) (l : List Ph) (a i : Nat) (w : World) (hc : Blk w cb 22 #[.slice (some ⟨b, o, none⟩) n c]) (h : Rd w L B 3 (some ⟨b, o, none⟩) n (phs l)) (hB : B ≤ w.heap.size) (hn : n ≤ 128) (hnc : n ≤ c) (hf : ∀ p ∈ l, fitP p) (ha : a < i) (hi : i < n) :
    Calls Try.prog 140 #[.int .i64 a, .int .i64 i, .pointer (some ⟨cb, 0, none⟩)] w fun e w' => e = .returned (.int .i64 (bordF l a i : Nat)) ∧ Below w.heap.size w w' := by
  have hl := h.len_ph
  obtain ⟨m0, hm0, hmx, hb0⟩ := bord_at (l := l) ha (by omega)
  have H := Lib.hid (And.intro hc (And.intro h hf))
  have HB0 := Lib.hid hb0
  clear hc h hf hb0
  have w1 : IntKind.i64.wrap ((a : Int) + 1) = (a : Int) + 1 := IntWalk.i64_in _ (by omega)
  have w2 : IntKind.i64.wrap ((i : Int) - 3) = (i : Int) - 3 := IntWalk.i64_in _ (by omega)
  go_enter Try.func140, Try.ntmps140
  go_wp2
  go_loopw [6] (fun v wr => ∃ m : Nat, m < i - a ∧ v = .int .i64 ((i - m : Nat) : Int) ∧ Hid (Below w.heap.size w wr ∧ bordF l a i = bordD l i (m + 1))) (fun v _ => i - (intOf v).toNat)
  case atStart => exact ⟨m0, hm0, rfl, Lib.hid ⟨Below.refl _ _, HB0.out⟩⟩
  case round =>
    obtain ⟨m, hm, rfl, HR⟩ := hrel
    have c0 : wr.cell? ⟨cb, 0, none⟩ = some (.slice (some ⟨b, o, none⟩) n c) := (H.out.1.below HR.out.1 H.out.1.lt).cell 0
    obtain ⟨f, hf⟩ : ∃ f, f = i - m := ⟨_, rfl⟩
    rw [← hf]
    have HF := Lib.hid hf
    have f1 : f ≤ i := by omega
    have i1 : (0 : Int) ≤ (f : Int) := by omega
    have i2 : (f : Int) ≤ (i : Int) := by omega
    have i3 : (i : Int) ≤ (c : Int) := by omega
    have i4 : (f : Int) < (c : Int) := by omega
    have i5 : (i : Int) ≤ (n : Int) := by omega
    clear hf
    have HC := Lib.hid ((H.out.2.1.below HR.out.1 hB).cutP (N := f) (M := i) f1 (by omega))
    clear c0
    have c0 : wr.cell? ⟨cb, 0, none⟩ = some (.slice (some ⟨b, o, none⟩) n c) := (H.out.1.below HR.out.1 H.out.1.lt).cell 0
    go_wp2_with fail
    refine (onset_any _ _ _ L B (cutL l f i) _ HC.out (Nat.le_trans hB HR.out.1.size) (by unfold maxLen; omega) (fun p hp => H.out.2.2 p (cut_mem hp))).mono ?_
    rintro e wz ⟨rfl, hb⟩
    have HX := Lib.hid (HR.out.1.trans (hb.mono HR.out.1.size))
    clear hb c0
    have HS := Lib.hid (show bordF l a i = if onsetF (cutL l f i) then f else bordD l i m by rw [HR.out.2, HF.out]; rfl)
    cases ho : onsetF (cutL l f i) with
    | true =>
      have HV := Lib.hid (show bordF l a i = f by rw [HS.out, ho]; rfl)
      clear ho
      go_wp2
      go_ret
      exact ⟨ret_int (by rw [HV.out]), HX.out⟩
    | false =>
      have hm1 : m ≠ 0 := by
        intro e
        have hfi : f = i := by have := HF.out; omega
        have : cutL l f i = [] := by unfold cutL; rw [hfi, Nat.sub_self, List.take_zero]
        rw [this] at ho
        cases ho
      obtain ⟨m', rfl⟩ : ∃ m', m = m' + 1 := ⟨m - 1, by omega⟩
      have HV := Lib.hid (show bordF l a i = bordD l i (m' + 1) by rw [HS.out, ho]; rfl)
      clear ho hm1
      go_wp2
      go_roundw
      case rel => exact ⟨m', by omega, by have := HF.out; go_num, Lib.hid ⟨HX.out, HV.out⟩⟩
      case measure => have := HF.out; simp [intOf]; omega
end Go.Proofs.Ytogofchpocoebaa
