import Derived.Test.YtbjfbmienlojkaaT1
import Derived.Test.YtbjfbmienlojkaaT2
import Derived.Test.YtbjfbmienlojkaaBuilder
namespace Go.Proofs.Ytbjfbmienlojkaa
open Go.RowKit

def lineB (p : Int × Int) : List UInt8 :=
  if p.1 < 0 then [120] else if 0 < p.2 then [greatsB.data.toList.getD p.1.toNat 0, UInt8.ofNat (48 + p.2.toNat)] else [lettersB.data.toList.getD p.1.toNat 0]
/-- the text of stanzas laid on lines -/
def prF : List (Int × Int) → List Int → Bool → List UInt8
  | _, [], _ => []
  | ls, n :: t, first => (if first then [] else [32]) ++ ((ls.take n.toNat).flatMap lineB ++ prF (ls.drop n.toNat) t false)
def printF (ls : List (Int × Int)) (st : List Int) : ByteArray := if may ls st then ⟨(prF ls st true).toArray⟩ else ⟨#[]⟩

theorem may_iff (ls : List (Int × Int)) (st : List Int) : may ls st = true ↔ ls.length ≤ 512 ∧ stanzasLeft ls.length st = some 0 ∧ ls.all lineOk = true := by
  unfold may
  simp [and_assoc]
theorem wrote {B b : Nat} {out : List UInt8} {c : Int} {w : World} (h : Lib.BuilderAt 94 5 B b (.pointer (some ⟨b, 0, none⟩)) (Lib.byteCells out ++ [.int .u8 c]) w) (c' : UInt8) (hc : c = c'.toNat) : Lib.IsBuilder 94 5 B b (Lib.byteCells (out ++ [c'])) w := by
  subst hc
  refine .inr ?_
  rw [show Lib.byteCells (out ++ [c']) = Lib.byteCells out ++ [.int .u8 c'.toNat] by simp [Lib.byteCells]]
  exact h
theorem isB_alloc {B b : Nat} {bs : List Value} {w : World} (h : Lib.IsBuilder 94 5 B b bs w) (o : Obj) : Lib.IsBuilder 94 5 B b bs (w.alloc o) := by
  have key : ∀ p, Lib.BuilderAt 94 5 B b p bs w → Lib.BuilderAt 94 5 B b p bs (w.alloc o) := by
    rintro p ⟨hB, v, hb, hown, hne⟩
    refine ⟨hB, v, ?_, hown.alloc o, hne⟩
    have : b < w.heap.size := by
      rcases Nat.lt_or_ge b w.heap.size with h' | h'
      · exact h'
      · rw [Array.getElem?_eq_none h'] at hb; cases hb
    exact (Below.heap_alloc w o b this).trans hb
  exact h.imp (key _) (key _)
theorem gat (s : ByteArray) (i : Nat) (h : i < s.size) : s[i]'h = s.data.toList.getD i 0 := by
  rw [ByteArray.getElem_eq_getElem_data, List.getD_eq_getElem?_getD, Array.getElem?_toList, Array.getElem?_eq_getElem (by simpa using h)]
  rfl
theorem ret_str_int {k : IntKind} {a b : ByteArray} {x y : Int} (h : a = b) (h2 : x = y) : Ending.returned (.tuple #[.string a, .int k x]) = .returned (.tuple #[.string b, .int k y]) := by rw [h, h2]

set_option maxHeartbeats 1000000 in
theorem print_any (A1 A2 : Option Addr) (n1 c1 n2 c2 L1 L2 : Nat) (ls : List (Int × Int)) (st : List Int) (w : World)
    (h1 : Rd w L1 w.heap.size 2 A1 n1 (prs ls)) (h2 : Rd w L2 w.heap.size 1 A2 n2 (st.map (Value.int .i64))) (hn2 : n2 ≤ maxLen) (hn1 : n1 ≤ maxLen) (hc1 : n1 ≤ c1) (hc1m : c1 ≤ maxLen) :
    Calls Try.prog 25 #[.agg #[.slice A1 n1 c1, .slice A2 n2 c2]] w fun e w' => e = .returned (.tuple #[.string (printF ls st), .int .i64 (errOf (may ls st))]) ∧ Below w.heap.size w w' := by
  unfold maxLen at hc1m
  have H1 := Lib.hid h1
  have H2 := Lib.hid h2
  clear h1 h2
  go_enter Try.func25, Try.ntmps25
  go_wp2_with fail
  refine (check_any A1 A2 n1 c1 n2 c2 L1 L2 ls st _ ((H1.out.below ((Below.refl _ _).alloc (Nat.le_refl _) _) (Nat.le_refl _)).more (Nat.le_refl _) (by simp)) ((H2.out.below ((Below.refl _ _).alloc (Nat.le_refl _) _) (Nat.le_refl _)).more (Nat.le_refl _) (by simp)) hn2 hn1).mono ?_
  rintro e w1 ⟨rfl, hb1⟩
  unfold maxLen at hn1 hn2
  have HB1 := Lib.hid hb1
  have b0 : w1.cell? ⟨w.heap.size, 0, none⟩ = some (.slice A1 n1 c1) := (hb1.cell (p := ⟨w.heap.size, 0, none⟩) (by simp)).trans ((Blk.new w 26 #[.slice A1 n1 c1, .slice A2 n2 c2]).cell 0)
  have b1 : w1.cell? ⟨w.heap.size, 1, none⟩ = some (.slice A2 n2 c2) := (hb1.cell (p := ⟨w.heap.size, 1, none⟩) (by simp)).trans ((Blk.new w 26 #[.slice A1 n1 c1, .slice A2 n2 c2]).cell 1)
  have hz : w.heap.size < w1.heap.size := by have := hb1.size; simp at this; omega
  clear hb1
  by_cases hmay : may ls st = true
  · have he : errOf (may ls st) = 0 := by rw [hmay]; rfl
    have HM := Lib.hid hmay
    have HE := Lib.hid he
    have hl1 : ls.length = n1 := by have := H1.out.1; rw [prs_len] at this; omega
    have h512 : n1 ≤ 512 := by rw [← hl1]; exact ((may_iff ls st).1 hmay).1
    have hall := ((may_iff ls st).1 hmay).2.2
    have HALL := Lib.hid hall
    have HL1 := Lib.hid hl1
    rw [he]
    clear hmay he hall hl1
    go_wp2_with fail
    refine wp_abs (fun wx => Lib.IsBuilder 94 5 w1.heap.size w1.heap.size (Lib.byteCells []) wx ∧ Below w.heap.size w wx ∧ w1.heap.size < wx.heap.size) ⟨Lib.fresh_isBuilder 94 5 w1, (((Below.refl _ _).alloc (Nat.le_refl _) _).trans (HB1.out.mono (by simp))).alloc (by omega) _, by simp⟩ ?_
    rintro w2 ⟨hB0, hb2, hz2⟩
    generalize w1.heap.size = B at *
    go_loopw [6, 8, 21] (fun ln _ kk wr => ∃ (k d : Nat) (A : Option Addr) (c : Nat) (out : List UInt8), k ≤ n2 ∧ kk = .int .i64 k ∧ d ≤ n1 ∧ ln = .slice A (n1 - d : Nat) c ∧ n1 - d ≤ c ∧ c ≤ c1 ∧ Hid (Rd w L1 w.heap.size 2 A (n1 - d) (prs (ls.drop d))) ∧
        Hid (Lib.IsBuilder 94 5 B B (Lib.byteCells out) wr) ∧ Below w.heap.size w wr ∧ B < wr.heap.size ∧ out.length ≤ 2 * d + k ∧ k ≤ d ∧
        Hid (prF ls st true = out ++ prF (ls.drop d) (st.drop k) (k == 0) ∧ stanzasLeft (n1 - d : Nat) (st.drop k) = some 0)) (fun _ _ kk _ => n2 - (intOf kk).toNat)
    case atStart => exact ⟨0, 0, A1, c1, [], by omega, rfl, by omega, rfl, by omega, by omega, H1.out, hB0, hb2, hz2, by simp, by omega, rfl, by rw [Nat.sub_zero, ← HL1.out]; exact ((may_iff ls st).1 HM.out).2.1⟩
    case round =>
      obtain ⟨k, d, A, c, out, hk, rfl, hd, rfl, hmc, hcc, HR, HB, hbr, hzr, hout, hkd, HP⟩ := hrel
      by_cases hlt : k < n2
      · obtain ⟨b2, o2, hkl, rfl, hL2, hB2, hcs⟩ := H2.out.one hlt
        have hst : stanzasLeft (n1 - d : Nat) (st.drop k) = some 0 := HP.out.2
        rw [drop_at st k hkl] at hst
        generalize hx : st[k] = x at hcs hst
        unfold stanzasLeft at hst
        by_cases hxx : x < 1 ∨ ((n1 - d : Nat) : Int) < x
        · rw [if_pos hxx] at hst; cases hst
        · rw [if_neg hxx] at hst
          obtain ⟨N, rfl⟩ : ∃ N : Nat, x = N := ⟨x.toNat, by omega⟩
          have hN1 : 1 ≤ N := by omega
          have hN2 : N ≤ n1 - d := by omega
          rw [show (((n1 - d : Nat) : Int) - (N : Int)) = ((n1 - (d + N) : Nat) : Int) from by omega] at hst
          have hpr : prF (ls.drop d) (st.drop k) (k == 0) = (if (k == 0) = true then [] else [32]) ++ (((ls.drop d).take N).flatMap lineB ++ prF (ls.drop (d + N)) (st.drop (k + 1)) false) := by
            rw [drop_at st k hkl, hx, prF]
            simp only [Int.toNat_natCast, List.drop_drop]
          obtain ⟨b, o, hA, hLb, hbB, hcells⟩ := HR.out.2 (by omega)
          have HPR := Lib.hid hpr
          have HST := Lib.hid hst
          have HX := Lib.hid hx
          subst hA
          clear hpr hst hx hxx
          have hcr : wr.cell? ⟨b2, o2 + k, none⟩ = some (.int .i64 N) := (hbr.cell (p := ⟨b2, o2 + k, none⟩) hB2).trans hcs
          by_cases hk0 : k = 0
          case' pos =>
            have hkz : decide ((0 : Int) < (k : Int)) = false := by simp; omega
            have hkz2 : (k : Int) ≤ 0 := by omega
            have hkz3 : decide (0 < k) = false := by simp; omega
            have HK0 := Lib.hid (show (k == 0) = true by simpa using hk0)
            clear hk0
            go_wp2
            refine wp_abs (fun w3 => Lib.IsBuilder 94 5 B B (Lib.byteCells (out ++ (if (k == 0) = true then [] else [32]))) w3 ∧ Below w.heap.size w w3 ∧ B < w3.heap.size) ⟨by rw [if_pos HK0.out, List.append_nil]; exact HB.out, hbr, hzr⟩ ?_
          case' neg =>
            have hkb : decide ((0 : Int) < (k : Int)) = true := by simp; omega
            have hkb2 : (0 : Int) < (k : Int) := by omega
            have HK0 := Lib.hid (show (k == 0) = false by simpa using hk0)
            clear hk0
            go_wp2_with fail
            refine (writeByte_any B B (Lib.byteCells out) 32 wr HB.out (by rw [Lib.byteCells_length]; omega) (by omega)).mono ?_
            rintro e3 w3 ⟨rfl, hB3, hb3, ho3⟩
            go_wp2
            refine wp_abs (fun w3 => Lib.IsBuilder 94 5 B B (Lib.byteCells (out ++ (if (k == 0) = true then [] else [32]))) w3 ∧ Below w.heap.size w w3 ∧ B < w3.heap.size) ⟨by rw [HK0.out]; exact wrote hB3 32 rfl, hbr.trans (hb3.mono (by omega)), by have := hb3.size; omega⟩ ?_
            clear hB3 hb3 ho3
          all_goals
            have hol : (out ++ (if (k == 0) = true then [] else [32]) : List UInt8).length ≤ 2 * d + k + 1 := by
              split <;> simp <;> omega
            clear hcr HB hbr hzr
            rintro w3 ⟨hB3, hb3, hz3⟩
            obtain ⟨out0, ho0⟩ : ∃ out0 : List UInt8, out0 = out ++ (if (k == 0) = true then [] else [32]) := ⟨_, rfl⟩
            rw [← ho0] at hB3 hol
            have HO0 := Lib.hid ho0
            clear ho0
            go_loopw [33] (fun jj wq => ∃ (j : Nat) (o3 : List UInt8), j ≤ N ∧ jj = .int .i64 j ∧ Hid (Lib.IsBuilder 94 5 B B (Lib.byteCells o3) wq) ∧ Below w.heap.size w wq ∧ B < wq.heap.size ∧ o3.length ≤ 2 * (d + j) + k + 1 ∧
              Hid (out0 ++ ((ls.drop d).take N).flatMap lineB = o3 ++ (((ls.drop d).take N).drop j).flatMap lineB)) (fun jj _ => N - (intOf jj).toNat)
            case atStart => exact ⟨0, _, by omega, rfl, hB3, hb3, hz3, by omega, rfl⟩
            case round =>
              obtain ⟨j, o3, hj, rfl, HB3, hbq, hzq, ho3, HS⟩ := hrel
              by_cases hjl : j < N
              · have hdj : d + j < ls.length := by rw [HL1.out]; omega
                have hseg : (((ls.drop d).take N).drop j).flatMap lineB = lineB ls[d + j] ++ (((ls.drop d).take N).drop (j + 1)).flatMap lineB := by
                  rw [drop_at ((ls.drop d).take N) j (by simp; omega), List.flatMap_cons]
                  simp
                have hok : lineOk ls[d + j] = true := List.all_eq_true.1 HALL.out _ (List.getElem_mem _)
                have hcc := prs_at (ls.drop d) j (by simp; omega)
                simp only [List.getElem_drop] at hcc
                have hq1 := (hbq.cell (p := ⟨b, o + j * 2, none⟩) hbB).trans (hcells _ _ hcc.1)
                have hq2 := (hbq.cell (p := ⟨b, o + (j * 2 + 1), none⟩) hbB).trans (hcells _ _ hcc.2)
                generalize hx : ls[d + j] = x at hq1 hq2 hok hseg
                obtain ⟨cc, rr⟩ := x
                have hok2 := (lineOk_iff (cc, rr)).1 hok
                simp only at hq1 hq2 hok2
                obtain ⟨g1, g2, g3, g4, g5⟩ := hok2
                rw [← Nat.add_assoc] at hq2
                have HX := Lib.hid hx
                have HSEG := Lib.hid hseg
                have HG5 := Lib.hid g5
                clear hx hseg hcc hok g5
                by_cases hneg : cc < 0
                · go_wp2_with fail
                  refine (writeByte_any B B (Lib.byteCells o3) 120 _ (isB_alloc HB3.out _) (by rw [Lib.byteCells_length]; omega) (by simp; omega)).mono ?_
                  rintro e4 w4 ⟨rfl, hB4, hb4, ho4⟩
                  have HLN := Lib.hid (show lineB (cc, rr) = [120] by unfold lineB; rw [if_pos hneg])
                  have H4 := Lib.hid (wrote hB4 120 rfl)
                  have hb5 := (hbq.alloc (by have := hbq.size; omega) _).trans (hb4.mono (by omega))
                  have hz5 : B < w4.heap.size := by have := hb4.size; simp at this; omega
                  have HB5 := Lib.hid hb5
                  have HZ5 := Lib.hid hz5
                  clear hB4 hb4 ho4 hb5 hz5
                  go_wp2
                  go_roundw
                  case rel => exact ⟨j + 1, o3 ++ [120], by omega, by go_num, H4, HB5.out, HZ5.out, by simp; omega, Lib.hid (by rw [HS.out, HSEG.out, HLN.out, List.append_assoc])⟩
                  case measure => simp [intOf]; omega
                · by_cases hpos : 0 < rr
                  · have hc24 : cc < 25 := by omega
                    have hln : lineB (cc, rr) = [greatsB.data.toList.getD cc.toNat 0, UInt8.ofNat (48 + rr.toNat)] := by unfold lineB; rw [if_neg hneg, if_pos hpos]
                    have HLN := Lib.hid hln
                    clear hln
                    go_wp2_with fail
                    refine (writeByte_any B B (Lib.byteCells o3) _ _ (isB_alloc HB3.out _) (by rw [Lib.byteCells_length]; omega) (by simp; omega)).mono ?_
                    rintro e4 w4 ⟨rfl, hB4, hb4, ho4⟩
                    have hbx : Blk w4 wr.heap.size 66 #[.int .i64 cc, .int .i64 rr] := (Blk.new _ _ _).others ho4 (by omega) (by decide)
                    have q2 : w4.cell? ⟨wr.heap.size, 1, none⟩ = some (.int .i64 rr) := hbx.cell 1
                    have H4 := Lib.hid (wrote hB4 (greatsB.data.toList.getD cc.toNat 0) (congrArg (fun x : UInt8 => (x.toNat : Int)) (gat greatsB cc.toNat _)))
                    have hb5 := (hbq.alloc (by have := hbq.size; omega) _).trans (hb4.mono (by omega))
                    have hz5 : B < w4.heap.size := by have := hb4.size; simp at this; omega
                    clear hB4 hb4 ho4 hbx
                    go_wp2_with fail
                    refine (writeByte_any B B _ _ _ H4.out (by rw [Lib.byteCells_length]; simp; omega) (by omega)).mono ?_
                    rintro e5 w5 ⟨rfl, hB5, hb6, ho5⟩
                    have H5 := Lib.hid (wrote hB5 (UInt8.ofNat (48 + rr.toNat)) (by simp; omega))
                    have hb7 := hb5.trans (hb6.mono (by omega))
                    have hz7 : B < w5.heap.size := by have := hb6.size; omega
                    have HB5 := Lib.hid hb7
                    have HZ5 := Lib.hid hz7
                    clear hB5 hb6 ho5 q2 hb5 hz5 hb7 hz7
                    go_wp2
                    go_roundw
                    case rel => exact ⟨j + 1, o3 ++ [greatsB.data.toList.getD cc.toNat 0] ++ [UInt8.ofNat (48 + rr.toNat)], by omega, by go_num, H5, HB5.out, HZ5.out, by simp; omega, Lib.hid (by rw [HS.out, HSEG.out, HLN.out]; simp)⟩
                    case measure => simp [intOf]; omega
                  · have hc24 : cc < 25 := by omega
                    have hln : lineB (cc, rr) = [lettersB.data.toList.getD cc.toNat 0] := by unfold lineB; rw [if_neg hneg, if_neg hpos]
                    have HLN := Lib.hid hln
                    clear hln
                    go_wp2_with fail
                    refine (writeByte_any B B (Lib.byteCells o3) _ _ (isB_alloc HB3.out _) (by rw [Lib.byteCells_length]; omega) (by simp; omega)).mono ?_
                    rintro e4 w4 ⟨rfl, hB4, hb4, ho4⟩
                    have H4 := Lib.hid (wrote hB4 (lettersB.data.toList.getD cc.toNat 0) (congrArg (fun x : UInt8 => (x.toNat : Int)) (gat lettersB cc.toNat _)))
                    have hb5 := (hbq.alloc (by have := hbq.size; omega) _).trans (hb4.mono (by omega))
                    have hz5 : B < w4.heap.size := by have := hb4.size; simp at this; omega
                    have HB5 := Lib.hid hb5
                    have HZ5 := Lib.hid hz5
                    clear hB4 hb4 ho4 hb5 hz5
                    go_wp2
                    go_roundw
                    case rel => exact ⟨j + 1, o3 ++ [lettersB.data.toList.getD cc.toNat 0], by omega, by go_num, H4, HB5.out, HZ5.out, by simp; omega, Lib.hid (by rw [HS.out, HSEG.out, HLN.out]; simp)⟩
                    case measure => simp [intOf]; omega
              · have hjN : j = N := by omega
                subst hjN
                have hn0 : ((ls.drop d).take j).drop j = [] := List.drop_of_length_le (by simp; omega)
                have heq : prF ls st true = o3 ++ prF (ls.drop (d + j)) (st.drop (k + 1)) (k + 1 == 0) := by
                  have h5 := HS.out
                  rw [hn0, List.flatMap_nil, List.append_nil] at h5
                  rw [HP.out.1, HPR.out, ← h5, HO0.out]
                  simp
                have HEQ := Lib.hid heq
                have HOB := Lib.hid ho3
                have HBQ := Lib.hid hbq
                have HZQ := Lib.hid hzq
                have hr2 := HR.out
                have hRD : Rd w L1 w.heap.size 2 (if c = j then some ⟨b, o, none⟩ else some ⟨b, o + j * 2, none⟩) (n1 - (d + j)) (prs (ls.drop (d + j))) := by
                  by_cases hcj : c = j
                  · rw [show n1 - (d + j) = 0 by omega]
                    exact Rd.zero (by rw [List.drop_of_length_le (by rw [HL1.out]; omega)]; rfl)
                  · rw [if_neg hcj, ← Nat.sub_sub, ← List.drop_drop]
                    exact hr2.cut2 hN2
                have HRD := Lib.hid hRD
                clear heq hn0 ho3 hbq hzq hr2 hRD hB3 hb3 hz3
                by_cases hcj : c = j
                · rw [if_pos hcj] at HRD
                  subst hcj
                  go_wp2
                  go_roundw
                  case rel => exact ⟨k + 1, d + c, _, 0, o3, by omega, by go_num, by omega, by rw [show n1 - (d + c) = 0 by omega], by omega, by omega, HRD, HB3, HBQ.out, HZQ.out, by have := HOB.out; omega, by omega, Lib.hid ⟨HEQ.out, HST.out⟩⟩
                  case measure => simp [intOf]; omega
                · rw [if_neg hcj] at HRD
                  go_wp2
                  go_roundw
                  case rel => exact ⟨k + 1, d + j, _, _, o3, by omega, by go_num, by omega, by rw [Nat.sub_add_eq], by omega, by omega, HRD, HB3, HBQ.out, HZQ.out, by have := HOB.out; omega, by omega, Lib.hid ⟨HEQ.out, HST.out⟩⟩
                  case measure => simp [intOf]; omega
      · have hk2 : st.drop k = [] := List.drop_of_length_le (by have := H2.out.1; simp at this; omega)
        have heq : prF ls st true = out := by have := HP.out.1; rw [hk2] at this; simpa [prF] using this
        have HEQ := Lib.hid heq
        clear heq hk2
        go_wp2_with fail
        refine (Try.Builder_String_any B B out wr HB.out (by omega)).mono ?_
        rintro e5 w5 ⟨rfl, hb5⟩
        go_wp2
        go_ret2
        exact ⟨ret_str_int (by unfold printF; rw [if_pos HM.out, HEQ.out]) HE.out.symm, hbr.trans (hb5.mono (by omega))⟩
  · have he : errOf (may ls st) = 2 := by simp at hmay; rw [hmay]; rfl
    rw [he]
    have HE := Lib.hid he
    have HM := Lib.hid hmay
    clear he hmay
    go_wp2
    go_ret2
    exact ⟨ret_str_int (by unfold printF; rw [if_neg HM.out]) HE.out.symm, ((Below.refl _ _).alloc (Nat.le_refl _) _).trans (HB1.out.mono (by simp))⟩
end Go.Proofs.Ytbjfbmienlojkaa
