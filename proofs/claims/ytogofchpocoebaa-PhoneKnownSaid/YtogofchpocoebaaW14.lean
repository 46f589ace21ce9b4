/- The law SyllableTwice, walked. -/
import Derived.Test.YtogofchpocoebaaW10
import Derived.Test.YtogofchpocoebaaW12
import Derived.Test.YtogofchpocoebaaW13
import Derived.Lib.DecodeN
namespace Go.Proofs.Ytogofchpocoebaa
open Go.RowKit Go.Maps

theorem dec_at (l : List UInt8) (i : Nat) : Utf8.decode (bts l) i = Utf8.decode (bts (l.drop i)) 0 := by
  have g : ∀ k, (bts (l.drop i)).get! (0 + k) = (bts l).get! (i + k) := fun k => by
    rw [bts_get, bts_get, List.getD_eq_getElem?_getD, List.getD_eq_getElem?_getD, List.getElem?_drop, Nat.zero_add]
  have g0 := g 0
  simp only [Nat.add_zero] at g0
  rw [Lib.decode_at, Lib.decode_at, bts_size, bts_size, List.length_drop, Nat.sub_zero, g0, g 1, g 2, g 3]
theorem dec_ascii {l : List UInt8} {i : Nat} (h : i < l.length) (hb : (l[i]).toNat < 128) : Utf8.decode (bts l) i = ((l[i]).toNat, 1) := by
  rw [dec_at, List.drop_eq_getElem_cons h]
  obtain ⟨h1, _⟩ := pre_dec (l[i] :: l.drop (i + 1)) ((l[i]).toNat : Int) (by omega) (by omega) (by
    rw [encL_one (by omega) (by omega)]
    exact ⟨l.drop (i + 1), by simp⟩)
  rw [h1, encL_one (by omega) (by omega)]
  rfl
theorem pt_at {l : List Sy} {at_ n k : Nat} (h : k < n) : (ptT0 (stK l at_ n))[k]? = some (if k = at_ then 47 else 120) := by
  unfold ptT0 stK
  rw [List.getElem?_map, List.getElem?_map, List.getElem?_range h]
  show some (ptB (setSt (l.getD k sy0) (if k = at_ then 2 else 0))) = _
  unfold ptB setSt Sy.st
  by_cases e : k = at_
  · rw [if_pos e, if_pos e]; rfl
  · rw [if_neg e, if_neg e]; rfl

set_option maxHeartbeats 16000000 in
set_option maxRecDepth 100000 in
theorem syllableTwice_any (A : Option Addr) (n c L B : Nat) (l : List Sy) (rule : Int) (w : World) (h : Rd w L B 5 A n (sys l)) (hB : B ≤ w.heap.size) :
    Calls Try.prog 25 #[.slice A n c, .int .i64 rule] w fun e w' => e = .returned (.bool true) ∧ Below w.heap.size w w' := by
  have hl := h.len_sy
  have H := Lib.hid h
  clear h
  go_enter Try.func25, Try.ntmps25
  go_wp2_with fail
  refine (works11_any w).mono ?_
  rintro e w1 ⟨rfl, hb⟩
  have H1 := Lib.hid hb
  clear hb
  go_wp2_with fail
  refine (stress_any A n c L B l rule _ (H.out.below H1.out hB) (Nat.le_trans hB H1.out.size)).mono ?_
  rintro e w2 ⟨v, rfl, ho, hb⟩
  obtain ⟨D, d, rfl⟩ := own_slice ho
  have H2 := Lib.hid (And.intro (own_rd ho) (H1.out.trans (hb.mono H1.out.size)))
  have hs12 := H1.out.size
  clear ho hb
  by_cases hE : stE l rule = 0
  case neg =>
    have hne : (stE l rule != 0) = true := by simpa using hE
    have hz : (stL l rule).length = 0 := by unfold stL; rw [if_neg hE]; rfl
    rw [hz]
    generalize stE l rule = E at *
    clear hE hz
    go_wp2_with fail
    refine (works11_any w2).mono ?_
    rintro e w3 ⟨rfl, hb⟩
    have H3 := Lib.hid (H2.out.2.trans (hb.mono H2.out.2.size))
    clear hb
    go_wp2
    go_ret
    exact ⟨rfl, H3.out⟩
  have hST := st_two hE
  have hSL : stL l rule = stK l (stAt l rule) l.length := by unfold stL; rw [if_pos hE]
  have hlen : (stL l rule).length = n := by rw [hSL, stK_len, hl]
  have hn64 : n ≤ 64 ∧ 0 < n := by
    unfold stE at hE
    split at hE
    · cases hE
    · split at hE
      · cases hE
      · omega
  obtain ⟨hn64, hn0⟩ := hn64
  have hat : stAt l rule < n := by have := stAt_lt (l := l) (rule := rule) (by omega); omega
  have hpt := pt_stK l (stAt l rule) l.length
  rw [← hSL] at hpt
  have hpa := pt_all hpt
  have hmn := mn_stL hE
  have hwt : wtK (stL l rule) n = wtK l n := by rw [hSL]; exact wtK_stK (by omega)
  have HPA := Lib.hid (fun (k : Nat) (hk : k < n) => show (ptT0 (stL l rule))[k]? = some (if k = stAt l rule then 47 else 120) by rw [hSL]; exact pt_at (by omega))
  have HSA := Lib.hid (fun (k : Nat) (hk : k < n) => show (stL l rule).getD k sy0 = setSt (l.getD k sy0) (if k = stAt l rule then 2 else 0) by rw [hSL]; exact stK_at (by omega))
  rw [hlen] at H2 ⊢
  have HF := Lib.hid (And.intro hE (And.intro hST (And.intro hpa (And.intro hmn (And.intro hwt hlen)))))
  rw [hE]
  clear hE hST hpa hmn hwt hSL hpt hlen
  generalize hS : stL l rule = S at *
  have HS := Lib.hid hS
  clear hS
  go_wp2_with fail
  refine (stress_any D n d w.heap.size w2.heap.size S rule _ (H2.out.1.more hs12 (Nat.le_refl _)) (Nat.le_refl _)).mono ?_
  rintro e w3 ⟨v, rfl, ho, hb⟩
  rw [HF.out.2.1.2] at ho
  rw [HF.out.2.1.1]
  rw [HF.out.2.2.2.2.2] at ho
  obtain ⟨D3, d3, rfl⟩ := own_slice ho
  have H3 := Lib.hid (And.intro (own_rd ho) (And.intro (H2.out.1.below hb (Nat.le_refl _)) (H2.out.2.trans (hb.mono H2.out.2.size))))
  have hs23 := hb.size
  clear ho hb
  go_wp2_with fail
  refine (pattern_any D n d _ w2.heap.size S _ H3.out.2.1 hs23 (by omega)).mono ?_
  rintro e w4 ⟨rfl, hb⟩
  rw [HF.out.2.2.1.1, HF.out.2.2.1.2]
  have H4 := Lib.hid (And.intro (H3.out.1.below hb (Nat.le_refl _)) (And.intro (H3.out.2.1.below hb hs23) (H3.out.2.2.trans (hb.mono H3.out.2.2.size))))
  have hs34 := hb.size
  clear hb
  have hpl : (ptT0 S).length = n := by simp [ptT0]; exact HF.out.2.2.2.2.2
  have hps : (bts (ptT0 S)).size = n := by rw [bts_size, hpl]
  go_wp2_with fail
  refine (equalS_any D D3 n d n d3 _ _ w2.heap.size w3.heap.size S S _ H4.out.2.1 H4.out.1 (by unfold maxLen; omega) (by unfold maxLen; omega) (by omega) hs34).mono ?_
  rintro e w5 ⟨rfl, hb⟩
  rw [decide_eq_true (rfl : S = S)]
  have H5 := Lib.hid (And.intro (H4.out.1.below hb hs34) (And.intro (H4.out.2.1.below hb (by omega)) (H4.out.2.2.trans (hb.mono H4.out.2.2.size))))
  have hs45 := hb.size
  clear hb
  go_wp2_with fail
  refine (weight_any D n d _ w2.heap.size S _ H5.out.2.1 (by omega) (by omega)).mono ?_
  rintro e w6 ⟨rfl, hb⟩
  have H6 := Lib.hid (And.intro (H5.out.1.below hb (by omega)) (And.intro (H5.out.2.1.below hb (by omega)) (H5.out.2.2.trans (hb.mono H5.out.2.2.size))))
  have hs56 := hb.size
  clear hb
  go_wp2_with fail
  refine (weight_any A n c L B l _ (H.out.below H6.out.2.2 hB) (Nat.le_trans hB H6.out.2.2.size) (by omega)).mono ?_
  rintro e w7 ⟨rfl, hb⟩
  rw [HF.out.2.2.2.2.1]
  have H7 := Lib.hid (And.intro (H6.out.1.below hb (by omega)) (And.intro (H6.out.2.1.below hb (by omega)) (H6.out.2.2.trans (hb.mono H6.out.2.2.size))))
  have hs67 := hb.size
  clear hb
  have dW : (wtK l n != wtK l n) = false := by simp
  have dL : (((bts (ptT0 S)).size : Int) != (n : Int)) = false := by rw [hps]; simp
  generalize wtK l n = WT at *
  go_wp2_with fail
  refine (main_any D n d _ w2.heap.size S _ H7.out.2.1 (by omega) (by omega)).mono ?_
  rintro e w8 ⟨rfl, hb⟩
  rw [HF.out.2.2.2.1]
  have H8 := Lib.hid (And.intro (H7.out.1.below hb (by omega)) (And.intro (H7.out.2.1.below hb (by omega)) (H7.out.2.2.trans (hb.mono H7.out.2.2.size))))
  have hs78 := hb.size
  clear hb H1 H2 H3 H4 H5 H6 H7
  generalize hAT : stAt l rule = at_ at *
  generalize hT : bts (ptT0 S) = T at *
  have HT := Lib.hid hT
  have HPS := Lib.hid hps
  have HALK := Lib.hid (alike_refl S)
  clear hT hAT dW dL hps
  go_wp2
  go_loopw [12] (fun _ wr => ∃ k : Nat, k ≤ n ∧ Hid (Below w8.heap.size w8 wr ∧ wr.heap[w8.heap.size]? = some (.stringIter T k))) (fun _ w' => T.size - w'.iterPos w8.heap.size)
  case atStart => exact ⟨0, by omega, Lib.hid ⟨iter_below _ _ _, World.iter_heap _ _ _⟩⟩
  case round =>
    obtain ⟨k, hk, HR⟩ := hrel
    by_cases hp : k < n
    · have hpz : k < T.size := by rw [HPS.out]; exact hp
      have hnx : ∀ ty, (Instr.next (.pointer (some ⟨w8.heap.size, 0, none⟩)) true ty).run Try.prog wr = _ := fun ty => Lib.run_next_any_at wr w8.heap.size T k ty HR.out.2 hpz
      have hpk := HPA.out k hp
      have hlk : k < (ptT0 S).length := by omega
      rw [List.getElem?_eq_getElem hlk] at hpk
      injection hpk with hpk
      have hdec : Utf8.decode T k = ((ptT0 S)[k].toNat, 1) := by
        rw [← HT.out]
        refine dec_ascii hlk ?_
        rw [hpk]
        split <;> decide
      have htk : (T[k]'hpz).toNat = (if k = at_ then 47 else 120) := by
        have e1 : T[k]'hpz = (ptT0 S)[k] := by
          have : T = bts (ptT0 S) := HT.out.symm
          subst this
          rfl
        rw [e1, hpk]
        split <;> rfl
      rw [hdec] at hnx
      dsimp only at hnx
      have hks : k < S.length := by rw [HF.out.2.2.2.2.2]; exact hp
      have hkl : k < l.length := by omega
      obtain ⟨b, o, _, rfl, _, hb1, y0, y1, y2, _, y4⟩ := (H8.out.2.1.below HR.out.1 (by omega)).sy (k := k) hp
      obtain ⟨b', o', _, eA, _, hb2, x0, x1, x2, _, x4⟩ := ((H.out.below H8.out.2.2 hB).below HR.out.1 (Nat.le_trans hB H8.out.2.2.size)).sy (k := k) hp
      cases eA
      have hsk := HSA.out k hp
      rw [getD_at hks, getD_at hkl] at hsk
      rw [hsk] at y0 y1 y2 y4
      generalize l[k] = z at *
      have y0 : wr.cell? ⟨b, o + k * 5, none⟩ = some (.int .i64 z.fr) := y0
      have y1 : wr.cell? ⟨b, o + k * 5 + 1, none⟩ = some (.int .i64 z.nu) := y1
      have y2 : wr.cell? ⟨b, o + k * 5 + 2, none⟩ = some (.int .i64 z.to_) := y2
      have y4 : wr.cell? ⟨b, o + k * 5 + 4, none⟩ = some (.bool z.hv) := y4
      generalize z.fr = zf at *
      generalize z.nu = zn at *
      generalize z.to_ = zt at *
      generalize z.hv = zh at *
      have i1 : (0 : Int) ≤ (k : Int) := by omega
      have i2 : (k : Int) < (n : Int) := by omega
      have i3 : (k : Int) < (T.size : Int) := by omega
      have hbe : ∀ x, Below w8.heap.size w8 (wr.iterAt w8.heap.size T x) := fun x => HR.out.1.trans ((Only.iterAt (S := fun b => b = w8.heap.size) (Only.refl _ wr) (.inl rfl) T x).below HR.out.1.size (fun b hlt e => by omega))
      have cc : ∀ x a v, a.block < w8.heap.size → wr.cell? a = some v → (wr.iterAt w8.heap.size T x).cell? a = some v := fun x a v ha hv => by
        rw [← hv]
        exact ((hbe x).cell ha).trans (HR.out.1.cell ha).symm
      have lb : b < w8.heap.size := by omega
      have lb' : b' < w8.heap.size := by have := H8.out.2.2.size; omega
      have Y0 := fun x => cc x _ _ lb y0
      have Y1 := fun x => cc x _ _ lb y1
      have Y2 := fun x => cc x _ _ lb y2
      have Y4 := fun x => cc x _ _ lb y4
      have X0 := fun x => cc x _ _ lb' x0
      have X1 := fun x => cc x _ _ lb' x1
      have X2 := fun x => cc x _ _ lb' x2
      have X4 := fun x => cc x _ _ lb' x4
      have HBE := Lib.hid (And.intro (hbe (k + 1)) (Lib.iterAt_heap wr w8.heap.size T k (k + 1) HR.out.2))
      clear cc hbe y0 y1 y2 y4 x0 x1 x2 x4 hsk hdec
      have HTK := Lib.hid htk
      clear htk hpk
      by_cases hka : k = at_
      · have b1 : (((T[k]'hpz).toNat : Int) == 47) = true := by rw [HTK.out, if_pos hka]; rfl
        have b2 : ((k : Int) == (at_ : Int)) = true := by rw [hka]; simp
        have b3 : (((T[k]'hpz).toNat : Int) != 47) = false := by rw [HTK.out, if_pos hka]; rfl
        clear hka
        go_wp2
        go_quiet (fail)
        go_wp2
        go_roundw
        case rel => exact ⟨k + 1, by omega, Lib.hid ⟨bdrawn HBE.out.1 _, HBE.out.2⟩⟩
        case measure => exact Nat.lt_of_le_of_lt (Nat.le_of_eq (congrArg (T.size - ·) (iterPos_of HBE.out.2))) (by rw [iterPos_of HR.out.2]; omega)
      · have b1 : (((T[k]'hpz).toNat : Int) == 47) = false := by rw [HTK.out, if_neg hka]; rfl
        have b2 : ((k : Int) == (at_ : Int)) = false := beq_eq_false_iff_ne.2 (by omega)
        have b3 : (((T[k]'hpz).toNat : Int) != 47) = true := by rw [HTK.out, if_neg hka]; rfl
        have b4 : (((T[k]'hpz).toNat : Int) != 120) = false := by rw [HTK.out, if_neg hka]; rfl
        have b5 : (((T[k]'hpz).toNat : Int) == 120) = true := by rw [HTK.out, if_neg hka]; rfl
        clear hka
        go_wp2
        go_quiet (fail)
        go_wp2
        go_roundw
        case rel => exact ⟨k + 1, by omega, Lib.hid ⟨bdrawn HBE.out.1 _, HBE.out.2⟩⟩
        case measure => exact Nat.lt_of_le_of_lt (Nat.le_of_eq (congrArg (T.size - ·) (iterPos_of HBE.out.2))) (by rw [iterPos_of HR.out.2]; omega)
    · obtain rfl : k = n := by omega
      have hnx : ∀ ty, (Instr.next (.pointer (some ⟨w8.heap.size, 0, none⟩)) true ty).run Try.prog wr = _ := fun ty => Lib.run_next_end_at wr w8.heap.size T k ty HR.out.2 (by rw [HPS.out]; omega)
      have da : decide ((0 : Int) ≤ (at_ : Int)) = true := decide_eq_true (by omega)
      have HRR := Lib.hid HR.out.1
      go_wp2_with fail
      refine (alike_any D D3 k d k d3 _ _ w2.heap.size w3.heap.size S S _ (H8.out.2.1.below HRR.out (by omega)) (H8.out.1.below HRR.out (by omega)) (by unfold maxLen; omega) (by have := HRR.out.size; omega) (by have := HRR.out.size; omega)).mono ?_
      rintro e w9 ⟨rfl, hb⟩
      rw [HALK.out]
      have H9 := Lib.hid (HRR.out.trans (hb.mono HRR.out.size))
      clear hb
      go_wp2_with fail
      refine (works11_any w9).mono ?_
      rintro e w10 ⟨rfl, hb⟩
      have H10 := Lib.hid ((H8.out.2.2.trans (H9.out.mono H8.out.2.2.size)).trans (hb.mono (Nat.le_trans H8.out.2.2.size H9.out.size)))
      clear hb
      go_wp2
      go_ret
      exact ⟨rfl, H10.out⟩
end Go.Proofs.Ytogofchpocoebaa
