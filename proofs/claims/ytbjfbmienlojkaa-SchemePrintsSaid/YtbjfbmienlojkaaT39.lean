/- The reference's Print: the walk. -/
import Derived.Test.YtbjfbmienlojkaaSteps
import Derived.Test.YtbjfbmienlojkaaT9
import Derived.Test.YtbjfbmienlojkaaT24
import Derived.Deep.RegionLaw
import Derived.Lib.SlBytesRow
import Derived.Lib.BufferRead
namespace Go.Proofs.Ytbjfbmienlojkaa
open Go.RowKit

/-- memory while the reference's Print runs -/
structure PrSt (w0 : World) (a1 a2 : Value) (base : Nat) (v : Value) (out : List UInt8) (w : World) : Prop where
  b1 : Blk w w0.heap.size 26 #[a1, a2]
  own : w.ownsRow base 5 1 v out.length (Lib.byteCells out)
  below : Below w0.heap.size w0 w
  s1 : w0.heap.size < base
  s2 : base ≤ w.heap.size
theorem PrSt.on {w0 : World} {a1 a2 : Value} {base : Nat} {v : Value} {out : List UInt8} {w w' : World} (h : PrSt w0 a1 a2 base v out w) (hb : Below w.heap.size w w') : PrSt w0 a1 a2 base v out w' :=
  ⟨h.b1.below hb h.b1.lt, own_stay h.own (Only.of_below hb _), h.below.trans (hb.mono h.below.size), h.s1, Nat.le_trans h.s2 hb.size⟩
theorem PrSt.alloc {w0 : World} {a1 a2 : Value} {base : Nat} {v : Value} {out : List UInt8} {w : World} (h : PrSt w0 a1 a2 base v out w) (o : Obj) : PrSt w0 a1 a2 base v out (w.alloc o) := h.on ((Below.refl _ _).alloc (Nat.le_refl _) _)
theorem PrSt.app {w0 : World} {a1 a2 : Value} {base : Nat} {v v' : Value} {out out' : List UInt8} {w w' : World} {n : Nat} {cs : List Value} (h : PrSt w0 a1 a2 base v out w) (hown : w'.ownsRow base 5 1 v' n cs) (hg : w.grownBy w' v.ownBlock) (hc : cs = Lib.byteCells out') : PrSt w0 a1 a2 base v' out' w' := by
  subst hc
  have hn : n = out'.length := by have := hown.1; simpa [Lib.byteCells] using this.symm
  subst hn
  have ho : Only (fun k => v.ownBlock = some k) w w' := (Only.refl _ _).grown hg (fun _ hg => .inl hg)
  have hs := h.s1
  exact ⟨h.b1.only ho (fun hk => by have := (h.own.lt _ hk).1; omega), hown, h.below.trans (ho.below h.below.size (fun k hk hh => by have := (h.own.lt _ hh).1; omega)), hs, Nat.le_trans h.s2 hg.size⟩
theorem PrSt.drew {w0 : World} {a1 a2 : Value} {base : Nat} {v : Value} {out : List UInt8} {w : World} (h : PrSt w0 a1 a2 base v out w) : PrSt w0 a1 a2 base v out w.drew := h.on ⟨rfl, rfl, rfl, Nat.le_refl _, fun _ _ => rfl⟩
theorem rd_new2 (w : World) (t : TypeId) (v u : Value) : Rd (w.alloc (.cells #[v, u] t)) w.heap.size (w.heap.size + 1) 1 (some ⟨w.heap.size, 0, none⟩) 2 [v, u] := by
  refine ⟨rfl, fun _ => ⟨w.heap.size, 0, rfl, Nat.le_refl _, Nat.lt_succ_self _, fun j x hu => ?_⟩⟩
  rw [Nat.zero_add, (Blk.new w t #[v, u]).cell]
  simpa using hu
theorem rd_new1 (w : World) (t : TypeId) (v : Value) : Rd (w.alloc (.cells #[v] t)) w.heap.size (w.heap.size + 1) 1 (some ⟨w.heap.size, 0, none⟩) 1 [v] := by
  refine ⟨rfl, fun _ => ⟨w.heap.size, 0, rfl, Nat.le_refl _, Nat.lt_succ_self _, fun j u hu => ?_⟩⟩
  rw [Nat.zero_add, (Blk.new w t #[v]).cell]
  simpa using hu
theorem conv_row {w : World} {base : Nat} {v : Value} {out : List UInt8} (h : w.ownsRow base 5 1 v out.length (Lib.byteCells out)) : (convert 92 9 v).run Try.prog w = .ok (.string ⟨out.toArray⟩) w := by
  rcases h.2 with ⟨rfl, h0⟩ | ⟨g, cap, cur, rfl, _, hg, hnc, _, hcs, htk⟩
  · have : out = [] := List.eq_nil_of_length_eq_zero h0
    subst this
    exact Lib.run_convert_nil_bytes w 92 9 5 0 Try.underlying92 Try.underlying5 Try.underlying9
  · have hB : Lib.Bytes w g 0 ⟨out.toArray⟩ := by
      intro i hi
      have hi' : i < out.length := hi
      have := Lib.bytes_of_row hg (by rw [← htk, Nat.mul_one]) i hi'
      rw [show (⟨g, 0, none⟩ : Addr).add i = ⟨g, i, none⟩ from by unfold Addr.add; split <;> simp_all] at this
      rw [Nat.zero_add]
      exact this
    exact Lib.run_convert_whole w 92 5 9 Try.underlying92 Try.underlying5 Try.underlying9 g 0 ⟨out.toArray⟩ hB cap

theorem letter_facts : ∀ n : Fin 25, 97 ≤ (lettersB.data.toList.getD n.val 0).toNat ∧ (lettersB.data.toList.getD n.val 0).toNat ≤ 122 ∧ (greatsB.data.toList.getD n.val 0).toNat + 32 = (lettersB.data.toList.getD n.val 0).toNat := by decide
theorem bc_snoc (out : List UInt8) (c : UInt8) (x : Int) (h : x = c.toNat) : Lib.byteCells out ++ [.int .u8 x] = Lib.byteCells (out ++ [c]) := by subst h; simp [Lib.byteCells]
theorem bc_snoc2 (out : List UInt8) (c d : UInt8) (x y : Int) (h : x = c.toNat) (k : y = d.toNat) : Lib.byteCells out ++ [.int .u8 x, .int .u8 y] = Lib.byteCells (out ++ [c, d]) := by subst h k; simp [Lib.byteCells]

set_option maxHeartbeats 4000000 in
set_option maxRecDepth 100000 in
theorem refPrint_any (A1 A2 : Option Addr) (n1 c1 n2 c2 L1 L2 : Nat) (ls : List (Int × Int)) (st : List Int) (w : World)
    (h1 : Rd w L1 w.heap.size 2 A1 n1 (prs ls)) (h2 : Rd w L2 w.heap.size 1 A2 n2 (st.map (Value.int .i64))) (hc1 : n1 ≤ c1) (hc1m : c1 ≤ maxLen) (hm : may ls st = true) :
    Calls Try.prog 29 #[.agg #[.slice A1 n1 c1, .slice A2 n2 c2]] w fun e w' => e = .returned (.string (printF ls st)) ∧ Below w.heap.size w w' := by
  have hcm := hc1m
  unfold maxLen at hcm
  clear hc1m
  have hl1 : ls.length = n1 := by have := h1.1; rw [prs_len] at this; omega
  have hl2 : st.length = n2 := by have := h2.1; simpa using this
  have h512 : n1 ≤ 512 := by rw [← hl1]; exact mayLen hm
  have s512 : n2 ≤ 512 := by rw [← hl2]; exact mayStan hm
  have HL1 := Lib.hid hl1
  have HL2 := Lib.hid hl2
  have H1 := Lib.hid h1
  have H2 := Lib.hid h2
  have HM := Lib.hid hm
  have HALL := Lib.hid ((may_iff ls st).1 hm).2.2
  have hinfo : (Try.prog.info? 5).map (fun i => (i.zero, i.size, i.bytes)) = some (some (.int .u8 0), 1, 1) := by kernel_rfl
  obtain ⟨i0, hi, hz0, hz1, hz2⟩ := info_parts hinfo
  have HI := Lib.hid (And.intro hi (And.intro hz0 (And.intro hz1 hz2)))
  clear h1 h2 hm hl1 hl2 hi hz0 hz1 hz2 hinfo
  go_enter Try.func29, Try.ntmps29
  go_upto_region 3 with (fail)
  refine wp_abs (PrSt w (.slice A1 n1 c1) (.slice A2 n2 c2) (w.heap.size + 1) (.slice none 0 0) []) ⟨Blk.new _ _ _, World.ownsRow_nil _ _ _ _, (Below.refl _ _).alloc (Nat.le_refl _) _, by omega, by simp⟩ ?_
  intro w1 hS
  have c01 : w1.cell? ⟨w.heap.size, 1, none⟩ = some (.slice A2 n2 c2) := hS.b1.cell 1
  have HS1 := Lib.hid hS
  clear hS
  go_wp2
  clear c01
  go_loopw [3, 4, 12] (fun bv dv kk wr => ∃ (k d : Nat) (out : List UInt8), k ≤ n2 ∧ kk = .int .i64 k ∧ d ≤ n1 ∧ dv = .int .i64 d ∧ k ≤ d ∧ out.length ≤ 2 * d + k ∧ Hid (PrSt w (.slice A1 n1 c1) (.slice A2 n2 c2) (w.heap.size + 1) bv out wr) ∧
      Hid (prF ls st true = out ++ prF (ls.drop d) (st.drop k) (k == 0) ∧ stanzasLeft (n1 - d : Nat) (st.drop k) = some 0)) (fun _ _ kk _ => n2 - (intOf kk).toNat)
  case atStart => exact ⟨0, 0, [], by omega, rfl, by omega, rfl, by omega, by simp, HS1, Lib.hid ⟨rfl, by rw [Nat.sub_zero, ← HL1.out]; exact ((may_iff ls st).1 HM.out).2.1⟩⟩
  case round =>
    obtain ⟨k, d, out, hk, rfl, hd, rfl, hkd, hout, HS, HP⟩ := hrel
    clear HS1
    by_cases hlt : k < n2
    · obtain ⟨b2, o2, hkl, rfl, hL2, hB2, hcs⟩ := (H2.out.up HS.out.below HS.out.below.size).one hlt
      have hst : stanzasLeft (n1 - d : Nat) (st.drop k) = some 0 := HP.out.2
      rw [drop_at st k hkl] at hst
      generalize hx : st[k] = x at hcs hst
      unfold stanzasLeft at hst
      by_cases hxx : x < 1 ∨ ((n1 - d : Nat) : Int) < x
      · rw [if_pos hxx] at hst; cases hst
      · rw [if_neg hxx] at hst
        obtain ⟨N, rfl⟩ : ∃ N : Nat, x = N := ⟨x.toNat, by omega⟩
        have hN1 : 1 ≤ N := by omega
        have hN2 : N ≤ n1 - d := by omega
        rw [show (((n1 - d : Nat) : Int) - (N : Int)) = ((n1 - (d + N) : Nat) : Int) from by omega] at hst
        have hpr : prF (ls.drop d) (st.drop k) (k == 0) = (if (k == 0) = true then [] else [32]) ++ (((ls.drop d).take N).flatMap lineB ++ prF (ls.drop (d + N)) (st.drop (k + 1)) false) := by
          rw [drop_at st k hkl, hx, prF]
          simp only [Int.toNat_natCast, List.drop_drop]
        obtain ⟨b, o, hA, hLb, hbB, hcells⟩ := H1.out.2 (by omega)
        have HPR := Lib.hid hpr
        have HST := Lib.hid hst
        have HC1 := Lib.hid hcells
        obtain ⟨X0, C0, hv0⟩ := own_slice HS.out.own
        subst hA hv0
        clear hpr hst hx hxx hcells
        have c00 : wr.cell? ⟨w.heap.size, 0, none⟩ = some (.slice (some ⟨b, o, none⟩) n1 c1) := HS.out.b1.cell 0
        have bw := HS.out.s2
        have i1 : (0 : Int) ≤ (k : Int) := by omega
        have i2 : (k : Int) < (n2 : Int) := by omega
        by_cases hk0 : k = 0
        case' pos =>
          have hkz : decide ((0 : Int) < (k : Int)) = false := by simp; omega
          have hkz2 : (k : Int) ≤ 0 := by omega
          have hkz3 : decide (0 < k) = false := by simp; omega
          have HK0 := Lib.hid (show (k == 0) = true by simpa using hk0)
          clear hk0
          go_upto_region 8 with (fail)
          refine wp_abs (PrSt w (.slice (some ⟨b, o, none⟩) n1 c1) (.slice (some ⟨b2, o2, none⟩) n2 c2) (w.heap.size + 1) (.slice X0 out.length C0) (out ++ (if (k == 0) = true then [] else [32]))) (by rw [if_pos HK0.out, List.append_nil]; exact HS.out) ?_
        case' neg =>
          have hkb : decide ((0 : Int) < (k : Int)) = true := by simp; omega
          have hkb2 : (0 : Int) < (k : Int) := by omega
          have hkb3 : decide (0 < k) = true := by simp; omega
          have HK0 := Lib.hid (show (k == 0) = false by simpa using hk0)
          clear hk0
          go_upto_region 8 with (at_builtin; refine wpList_append_rd _ rfl _ _ 92 rfl (w.heap.size + 1) 5 i0 (.int .u8 0) 1 1 Try.underlying92 HI.out.1 HI.out.2.1 HI.out.2.2.1 HI.out.2.2.2 rfl (by decide) _ _ _ rfl (HS.out.alloc _).own _ _ _ 1 1 _ rfl (rd_new1 _ _ _) (by simp [Value.oneCell']) (by unfold maxLen; omega) (by omega) (by simp; omega) ?_; intro v1 w2 _ hown hgrow _; have hS2 := Lib.hid ((HS.out.alloc _).app (out' := out ++ (if (k == 0) = true then [] else [32])) hown hgrow (by rw [HK0.out]; exact bc_snoc out 32 _ rfl)); clear hown hgrow)
          refine wp_abs (PrSt w (.slice (some ⟨b, o, none⟩) n1 c1) (.slice (some ⟨b2, o2, none⟩) n2 c2) (w.heap.size + 1) v1 (out ++ (if (k == 0) = true then [] else [32]))) hS2.out ?_
        all_goals
          have hol : (out ++ (if (k == 0) = true then [] else [32]) : List UInt8).length ≤ 2 * d + k + 1 := by
            split <;> simp <;> omega
          clear c00 bw
          intro w3 hS3
          obtain ⟨out0, ho0⟩ : ∃ out0 : List UInt8, out0 = out ++ (if (k == 0) = true then [] else [32]) := ⟨_, rfl⟩
          rw [← ho0] at hS3 hol
          have HO0 := Lib.hid ho0
          have HS3 := Lib.hid hS3
          have c00 : w3.cell? ⟨w.heap.size, 0, none⟩ = some (.slice (some ⟨b, o, none⟩) n1 c1) := hS3.b1.cell 0
          clear ho0 hS3 HS
          go_wp2
          clear c00
          rw [show d + N - d = N by omega]
          go_loopw [3, 30] (fun bv jj wq => ∃ (j : Nat) (o3 : List UInt8), j ≤ N ∧ jj = .int .i64 j ∧ o3.length ≤ 2 * (d + j) + k + 1 ∧ Hid (PrSt w (.slice (some ⟨b, o, none⟩) n1 c1) (.slice (some ⟨b2, o2, none⟩) n2 c2) (w.heap.size + 1) bv o3 wq) ∧
            Hid (out0 ++ ((ls.drop d).take N).flatMap lineB = o3 ++ (((ls.drop d).take N).drop j).flatMap lineB)) (fun _ jj _ => N - (intOf jj).toNat)
          case atStart => exact ⟨0, out0, by omega, rfl, by omega, HS3, Lib.hid rfl⟩
          case round =>
            rename_i wq
            obtain ⟨j, o3, hj, rfl, ho3, HQ, HF⟩ := hrel
            clear HS3
            by_cases hjl : j < N
            · have hdj : d + j < ls.length := by rw [HL1.out]; omega
              have hseg : (((ls.drop d).take N).drop j).flatMap lineB = lineB ls[d + j] ++ (((ls.drop d).take N).drop (j + 1)).flatMap lineB := by
                rw [drop_at ((ls.drop d).take N) j (by simp; omega), List.flatMap_cons]
                simp
              have hok : lineOk ls[d + j] = true := List.all_eq_true.1 HALL.out _ (List.getElem_mem _)
              have hcc := prs_at ls (d + j) hdj
              have hq1 := (HQ.out.below.cell (p := ⟨b, o + (d + j) * 2, none⟩) hbB).trans (HC1.out _ _ hcc.1)
              have hq2 := (HQ.out.below.cell (p := ⟨b, o + ((d + j) * 2 + 1), none⟩) hbB).trans (HC1.out _ _ hcc.2)
              rw [show o + (d + j) * 2 = o + d * 2 + j * 2 by omega] at hq1
              rw [show o + ((d + j) * 2 + 1) = o + d * 2 + j * 2 + 1 by omega] at hq2
              generalize hx : ls[d + j] = x at hq1 hq2 hok hseg
              obtain ⟨cc, rr⟩ := x
              have hok2 := (lineOk_iff (cc, rr)).1 hok
              simp only at hq1 hq2 hok2
              obtain ⟨g1, g2, g3, g4, g5⟩ := hok2
              have HSEG := Lib.hid hseg
              have HG5 := Lib.hid g5
              obtain ⟨X0', C0', hv0⟩ := own_slice HQ.out.own
              subst hv0
              clear hx hseg hcc hok g5
              go_upto_region 12 with (fail)
              refine wp_abs (fun wy => PrSt w (.slice (some ⟨b, o, none⟩) n1 c1) (.slice (some ⟨b2, o2, none⟩) n2 c2) (w.heap.size + 1) (.slice X0' o3.length C0') o3 wy ∧ Blk wy wr.heap.size 66 #[.int .i64 cc, .int .i64 rr]) ⟨HQ.out.alloc _, Blk.new _ _ _⟩ ?_
              rintro wy ⟨hS4, h9⟩
              have n0 : wy.cell? ⟨wr.heap.size, 0, none⟩ = some (.int .i64 cc) := h9.cell 0
              have n1' : wy.cell? ⟨wr.heap.size, 1, none⟩ = some (.int .i64 rr) := h9.cell 1
              have bw := hS4.s2
              have HY := Lib.hid hS4
              clear hq1 hq2 HQ hS4 h9
              by_cases hneg : cc < 0
              · have HLN := Lib.hid (show lineB (cc, rr) = [120] by unfold lineB; rw [if_pos hneg])
                go_wp2_with (at_builtin; refine wpList_append_rd _ rfl _ _ 92 rfl (w.heap.size + 1) 5 i0 (.int .u8 0) 1 1 Try.underlying92 HI.out.1 HI.out.2.1 HI.out.2.2.1 HI.out.2.2.2 rfl (by decide) _ _ _ rfl (HY.out.alloc _).own _ _ _ 1 1 _ rfl (rd_new1 _ _ _) (by simp [Value.oneCell']) (by unfold maxLen; omega) (by omega) (by simp; omega) ?_; intro v4 w4 _ hown hgrow _; have HS4 := Lib.hid ((HY.out.alloc _).app (out' := o3 ++ [120]) hown hgrow (bc_snoc o3 120 _ rfl)); clear hown hgrow)
                go_roundw
                case rel => exact ⟨j + 1, o3 ++ [120], by omega, by go_num, by simp; omega, HS4, Lib.hid (by rw [HF.out, HSEG.out, HLN.out, List.append_assoc])⟩
                case measure => simp [intOf]; omega
              · obtain ⟨cn, rfl⟩ : ∃ cn : Nat, cc = cn := ⟨cc.toNat, by omega⟩
                have hcn : cn < 25 := by omega
                have hlf := letter_facts ⟨cn, hcn⟩
                by_cases hr0 : rr = 0
                · subst hr0
                  have HLN := Lib.hid (show lineB ((cn : Int), 0) = [lettersB.data.toList.getD cn 0] by unfold lineB; rw [if_neg hneg, if_neg (by omega), Int.toNat_natCast])
                  clear hlf
                  go_wp2_with (at_builtin; refine wpList_append_rd _ rfl _ _ 92 rfl (w.heap.size + 1) 5 i0 (.int .u8 0) 1 1 Try.underlying92 HI.out.1 HI.out.2.1 HI.out.2.2.1 HI.out.2.2.2 rfl (by decide) _ _ _ rfl (HY.out.alloc _).own _ _ _ 1 1 _ rfl (rd_new1 _ _ _) (by simp [Value.oneCell']) (by unfold maxLen; omega) (by omega) (by simp; omega) ?_; intro v4 w4 _ hown hgrow _; have HS4 := Lib.hid ((HY.out.alloc _).app (out' := o3 ++ [lettersB.data.toList.getD cn 0]) hown hgrow (bc_snoc o3 (lettersB.data.toList.getD cn 0) _ (congrArg (fun x : UInt8 => (x.toNat : Int)) (gat lettersB cn _)))); clear hown hgrow)
                  go_roundw
                  case rel => exact ⟨j + 1, o3 ++ [lettersB.data.toList.getD cn 0], by omega, by go_num, by simp; omega, HS4, Lib.hid (by rw [HF.out, HSEG.out, HLN.out, List.append_assoc])⟩
                  case measure => simp [intOf]; omega
                · have hrb : (rr == 0) = false := by simpa using hr0
                  go_upto_region 11 with (fail)
                  have HLN := Lib.hid (show lineB ((cn : Int), rr) = [greatsB.data.toList.getD cn 0, UInt8.ofNat (48 + rr.toNat)] by unfold lineB; rw [if_neg hneg, if_pos (by omega), Int.toNat_natCast])
                  have hga := gat lettersB cn hcn
                  have e1 : IntKind.u8.wrap (((lettersB[cn]'hcn).toNat : Int) - 97) = ((lettersB[cn]'hcn).toNat : Int) - 97 := by rw [hga]; exact IntWalk.u8_in _ (by simp only at hlf; omega)
                  have e2 : IntKind.u8.wrap (((lettersB[cn]'hcn).toNat : Int) - 97 + 65) = ((lettersB[cn]'hcn).toNat : Int) - 97 + 65 := by rw [hga]; exact IntWalk.u8_in _ (by simp only at hlf; omega)
                  have e3 : IntKind.i64.wrap (48 + rr) = 48 + rr := IntWalk.i64_in _ (by omega)
                  have e4 : IntKind.u8.wrap (48 + rr) = 48 + rr := IntWalk.u8_in _ (by omega)
                  have HB := Lib.hid (show IntKind.u8.wrap (IntKind.u8.wrap (((lettersB[cn]'hcn).toNat : Int) - 97) + 65) = ((greatsB.data.toList.getD cn 0).toNat : Int) by rw [e1, e2, hga]; simp only at hlf; omega)
                  have HB2 := Lib.hid (show 48 + rr = ((UInt8.ofNat (48 + rr.toNat)).toNat : Int) by simp; omega)
                  clear hlf hga e1 e2
                  go_region_law ((refine step_append_rd _ (by rfl) _ _ 92 (by rfl) (w.heap.size + 1) 5 i0 (.int .u8 0) 1 1 Try.underlying92 HI.out.1 HI.out.2.1 HI.out.2.2.1 HI.out.2.2.2 rfl (by omega) (.slice X0' o3.length C0') o3.length (Lib.byteCells o3) (by rfl) (by exact (HY.out.drew.alloc _).own) _ _ _ 2 2 _ (by rfl) (by exact rd_new2 _ _ _ _) (by simp [Value.oneCell']) (by unfold maxLen; omega) (by omega) (by simp; omega) ?_; intro v4 w4 _ hown hgrow _; have HS4 := Lib.hid ((HY.out.drew.alloc _).app (out' := o3 ++ [greatsB.data.toList.getD cn 0, UInt8.ofNat (48 + rr.toNat)]) hown hgrow (bc_snoc2 o3 _ _ _ _ HB.out HB2.out)); clear hown hgrow))
                  clear e3 e4
                  all_goals
                    go_wp2
                    go_roundw
                    case rel => exact ⟨j + 1, o3 ++ [greatsB.data.toList.getD cn 0, UInt8.ofNat (48 + rr.toNat)], by omega, by go_num, by simp; omega, HS4, Lib.hid (by rw [HF.out, HSEG.out, HLN.out, List.append_assoc])⟩
                    case measure => simp [intOf]; omega
            · have hjN : j = N := by omega
              subst hjN
              have heq : prF ls st true = o3 ++ prF (ls.drop (d + j)) (st.drop (k + 1)) (k + 1 == 0) := by
                have h5 := HF.out
                rw [show ((ls.drop d).take j).drop j = [] from List.drop_of_length_le (by simp; omega), List.flatMap_nil, List.append_nil] at h5
                rw [HP.out.1, HPR.out, ← h5, HO0.out]
                simp
              have HEQ := Lib.hid heq
              clear heq
              go_wp2
              go_roundw
              case rel => exact ⟨k + 1, d + j, o3, by omega, by go_num, by omega, by go_num, by omega, by omega, HQ, Lib.hid ⟨HEQ.out, HST.out⟩⟩
              case measure => simp [intOf]; omega
    · have hkn : k = n2 := by omega
      have hce : prF ls st true = out := by
        have hk2 : st.drop k = [] := List.drop_of_length_le (by rw [HL2.out]; omega)
        rw [HP.out.1, hk2]
        cases ls.drop d <;> simp [prF]
      have HC := Lib.hid hce
      have hconv := conv_row HS.out.own
      clear hce
      go_wp2
      go_ret
      refine ⟨?_, HS.out.below⟩
      unfold printF
      rw [if_pos HM.out, HC.out]
      rfl
end Go.Proofs.Ytbjfbmienlojkaa
