/- scheme.Rank. -/
import Derived.Test.YtbjfbmienlojkaaT78
import Derived.Test.YtbjfbmienlojkaaT57
import Derived.Deep.QuietTactic
import Derived.BigQuiet
namespace Go.Proofs.Ytbjfbmienlojkaa
open Go.RowKit

def rkOk (ls : List (Int × Int)) (st : List Int) : Bool := may ls st && (decide (ls.length ≤ 25) && (decide (st.length ≤ 1) && plainAll ls))
def rkV (ls : List (Int × Int)) (st : List Int) : Int := if rkOk ls st = true then rkF ls ls.length else 0
def rkE (ls : List (Int × Int)) (st : List Int) : Int := if rkOk ls st = true then 0 else 2
theorem pl_bad {ls : List (Int × Int)} {i : Nat} (hi : i < ls.length) (h : plB ls i = false) : plainAll ls = false := by
  unfold plainAll
  rw [List.all_eq_false]
  exact ⟨i, List.mem_range.2 hi, by rw [h]; simp⟩
theorem pl_good {ls : List (Int × Int)} (h : ∀ j, j < ls.length → plB ls j = true) : plainAll ls = true := by
  unfold plainAll
  rw [List.all_eq_true]
  intro j hj
  exact h j (List.mem_range.1 hj)
theorem rk_next {ls : List (Int × Int)} {i : Nat} (h : ∀ j, j < i → plB ls j = true) (k : plB ls i = true) : ∀ j, j < i + 1 → plB ls j = true := fun j hj => by
  rcases Nat.lt_or_ge j i with h' | h'
  · exact h j h'
  · obtain rfl : j = i := by omega
    exact k
theorem w64 (x : Int) : wrap64 x = IntKind.i64.wrap x := by rw [IntKind.wrap_i64]; unfold wrap64; omega
theorem rk_no {ls : List (Int × Int)} {st : List Int} (h : rkOk ls st = false) {e : Ending} (he : e = .returned (.tuple #[.int .i64 0, .int .i64 2])) : e = .returned (.tuple #[.int .i64 (rkV ls st), .int .i64 (rkE ls st)]) := by
  unfold rkV rkE
  rw [h, he, if_neg (by decide), if_neg (by decide)]

/-- memory while Rank runs -/
structure RkSt (w0 : World) (v1 v2 : Value) (q : Nat) (cs : Array Value) (w : World) : Prop where
  b1 : Blk w w0.heap.size 26 #[v1, v2]
  b5 : Blk w q 107 cs
  below : Below w0.heap.size w0 w
theorem RkSt.on {w0 : World} {v1 v2 : Value} {q : Nat} {cs : Array Value} {w w' : World} (h : RkSt w0 v1 v2 q cs w) (hb : Below w.heap.size w w') : RkSt w0 v1 v2 q cs w' :=
  ⟨h.b1.below hb h.b1.lt, h.b5.below hb h.b5.lt, h.below.trans (hb.mono h.below.size)⟩

set_option maxHeartbeats 1000000 in
theorem rank_long (A1 A2 : Option Addr) (n1 c1 n2 c2 L1 L2 : Nat) (ls : List (Int × Int)) (st : List Int) (w : World)
    (h1 : Rd w L1 w.heap.size 2 A1 n1 (prs ls)) (h2 : Rd w L2 w.heap.size 1 A2 n2 (st.map (Value.int .i64))) (hn2 : n2 ≤ maxLen) (hn1 : n1 ≤ maxLen) (hm : may ls st = true) (hl : 25 < n1 ∨ 1 < n2) :
    Calls Try.prog 41 #[.agg #[.slice A1 n1 c1, .slice A2 n2 c2]] w fun e w' => e = .returned (.tuple #[.int .i64 0, .int .i64 2]) ∧ Below w.heap.size w w' := by
  have hc : (decide ((25 : Int) < (n1 : Int)) = true ∧ decide (25 < n1) = true) ∨ ((decide ((25 : Int) < (n1 : Int)) = false ∧ decide (25 < n1) = false) ∧ (decide ((1 : Int) < (n2 : Int)) = true ∧ decide (1 < n2) = true)) := by
    simp only [decide_eq_true_eq, decide_eq_false_iff_not]; omega
  clear hl
  have H1 := Lib.hid h1
  have H2 := Lib.hid h2
  have HM := Lib.hid hm
  clear h1 h2 hm
  rcases hc with ⟨d1, d2⟩ | ⟨⟨d1, d2⟩, d3, d4⟩
  all_goals
    go_enter Try.func41, Try.ntmps41
    go_upto_region 1 with (fail)
    refine wp_abs (fun wx => Blk wx w.heap.size 26 #[.slice A1 n1 c1, .slice A2 n2 c2] ∧ Below w.heap.size w wx) ⟨Blk.new _ _ _, (Below.refl _ _).alloc (Nat.le_refl _) _⟩ ?_
    rintro wx ⟨k0, hb⟩
    have c00 : wx.cell? ⟨w.heap.size, 0, none⟩ = some (.slice A1 n1 c1) := k0.cell 0
    have c01 : wx.cell? ⟨w.heap.size, 1, none⟩ = some (.slice A2 n2 c2) := k0.cell 1
    have HK := Lib.hid (And.intro k0 hb)
    clear k0 hb
    go_wp2_with fail
    refine (check_any A1 A2 n1 c1 n2 c2 L1 L2 ls st wx (H1.out.up HK.out.2 HK.out.2.size) (H2.out.up HK.out.2 HK.out.2.size) hn2 hn1).mono ?_
    rintro e w1 ⟨rfl, hb1⟩
    have HA := Lib.hid (HK.out.2.trans (hb1.mono HK.out.2.size))
    have c00 : w1.cell? ⟨w.heap.size, 0, none⟩ = some (.slice A1 n1 c1) := (HK.out.1.below hb1 HK.out.1.lt).cell 0
    have c01 : w1.cell? ⟨w.heap.size, 1, none⟩ = some (.slice A2 n2 c2) := (HK.out.1.below hb1 HK.out.1.lt).cell 1
    rw [HM.out]
    clear hb1
    show _
    simp only [errOf]
    go_wp2
    go_ret2
    exact ⟨rfl, HA.out⟩

set_option maxHeartbeats 4000000 in
set_option maxRecDepth 100000 in
theorem rank_ok (A1 A2 : Option Addr) (n1 c1 n2 c2 L1 L2 : Nat) (ls : List (Int × Int)) (st : List Int) (w : World)
    (h1 : Rd w L1 w.heap.size 2 A1 n1 (prs ls)) (h2 : Rd w L2 w.heap.size 1 A2 n2 (st.map (Value.int .i64))) (hm : may ls st = true) (hn1 : n1 ≤ 25) (hn2 : n2 ≤ 1) :
    Calls Try.prog 41 #[.agg #[.slice A1 n1 c1, .slice A2 n2 c2]] w fun e w' => e = .returned (.tuple #[.int .i64 (rkV ls st), .int .i64 (rkE ls st)]) ∧ Below w.heap.size w w' := by
  have l1 : ls.length = n1 := by have := h1.1; rw [prs_len] at this; omega
  have l2 : st.length = n2 := by have := h2.1; simpa using this
  have hrk : rkOk ls st = plainAll ls := by unfold rkOk; rw [hm, l1, l2, show decide (n1 ≤ 25) = true by simpa using hn1, show decide (n2 ≤ 1) = true by simpa using hn2]; simp
  have hok : ∀ p ∈ ls, lineOk p = true := by
    have := ((may_iff ls st).1 hm).2.2
    rwa [List.all_eq_true] at this
  have d1 : decide ((25 : Int) < (n1 : Int)) = false := by simp; omega
  have d2 : decide (25 < n1) = false := by simp; omega
  have d3 : decide ((1 : Int) < (n2 : Int)) = false := by simp; omega
  have d4 : decide (1 < n2) = false := by simp; omega
  have H1 := Lib.hid h1
  have H2 := Lib.hid h2
  have HM := Lib.hid hm
  have HRK := Lib.hid hrk
  have HL := Lib.hid l1
  have HOK := Lib.hid hok
  clear h1 h2 hm l1 l2 hrk hok
  refine Calls.mono (R := fun e w' => Hid (e = .returned (.tuple #[.int .i64 (rkV ls st), .int .i64 (rkE ls st)]) ∧ Below w.heap.size w w')) ?_ (fun e w' h => h.out)
  go_enter Try.func41, Try.ntmps41
  go_upto_region 1 with (fail)
  refine wp_abs (fun wx => Blk wx w.heap.size 26 #[.slice A1 n1 c1, .slice A2 n2 c2] ∧ Below w.heap.size w wx) ⟨Blk.new _ _ _, (Below.refl _ _).alloc (Nat.le_refl _) _⟩ ?_
  rintro wx ⟨k0, hb⟩
  have c00 : wx.cell? ⟨w.heap.size, 0, none⟩ = some (.slice A1 n1 c1) := k0.cell 0
  have c01 : wx.cell? ⟨w.heap.size, 1, none⟩ = some (.slice A2 n2 c2) := k0.cell 1
  have HK := Lib.hid (And.intro k0 hb)
  clear k0 hb
  go_wp2_with fail
  refine (check_any A1 A2 n1 c1 n2 c2 L1 L2 ls st wx (H1.out.up HK.out.2 HK.out.2.size) (H2.out.up HK.out.2 HK.out.2.size) (by unfold maxLen; omega) (by unfold maxLen; omega)).mono ?_
  rintro e w1 ⟨rfl, hb1⟩
  have HA := Lib.hid (And.intro (HK.out.1.below hb1 HK.out.1.lt) (HK.out.2.trans (hb1.mono HK.out.2.size)))
  clear hb1 HK c00 c01
  have c00 : w1.cell? ⟨w.heap.size, 0, none⟩ = some (.slice A1 n1 c1) := HA.out.1.cell 0
  have c01 : w1.cell? ⟨w.heap.size, 1, none⟩ = some (.slice A2 n2 c2) := HA.out.1.cell 1
  rw [HM.out]
  show _
  simp only [errOf]
  go_wp2_with fail
  refine (counts_any n1 w1 hn1).mono ?_
  rintro e w2 ⟨cs, rfl, ht, hb⟩
  have HB := Lib.hid (show Blk w2 w.heap.size 26 #[.slice A1 n1 c1, .slice A2 n2 c2] ∧ Below w.heap.size w w2 from ⟨HA.out.1.below hb HA.out.1.lt, HA.out.2.trans (hb.mono HA.out.2.size)⟩)
  have HT := Lib.hid ht
  clear hb ht HA c00 c01
  go_upto_region 5 with (refine wpList_store_row rfl 107 _ _ rfl w2.heap.size cs rfl rfl 107 Try.zeroCells107 (Blk.new _ _ _) (by rw [info107, HT.out.1]) (by rw [zero_size107, HT.out.1]) (tab_one HT.out) ?_)
  refine wp_abs (RkSt w (.slice A1 n1 c1) (.slice A2 n2 c2) w2.heap.size cs) ⟨HB.out.1.alloc _ |>.below (below_setRow (Below.refl _ _) (Nat.le_refl _) _) HB.out.1.lt, setRow_blk (Blk.new _ _ _), below_setRow (HB.out.2.alloc HB.out.2.size _) HB.out.2.size _⟩ ?_
  intro w3 hS
  have c00 : w3.cell? ⟨w.heap.size, 0, none⟩ = some (.slice A1 n1 c1) := hS.b1.cell 0
  have HS := Lib.hid (And.intro (show ∀ j, j < 0 → plB ls j = true from fun j hj => absurd hj (Nat.not_lt_zero _)) hS)
  clear hS HB
  generalize w2.heap.size = q at *
  go_wp2
  clear c00
  go_loopw [6, 7, 31] (fun rv cv iv wr => ∃ i : Nat, i ≤ n1 ∧ iv = .int .i64 i ∧ rv = .int .i64 (rkF ls i) ∧ cv = .int .i64 (clF ls i) ∧ Hid ((∀ j, j < i → plB ls j = true) ∧ RkSt w (.slice A1 n1 c1) (.slice A2 n2 c2) q cs wr)) (fun _ _ iv _ => n1 - (intOf iv).toNat)
  case atStart => exact ⟨0, Nat.zero_le _, rfl, rfl, rfl, HS⟩
  case round =>
    obtain ⟨i, hin, rfl, rfl, rfl, HR⟩ := hrel
    clear HS
    by_cases hlt : i < n1
    · obtain ⟨b, o, hl, rfl, hL, hB, p1, p2⟩ := (H1.out.up HR.out.2.below HR.out.2.below.size).two hlt
      have hok := HOK.out _ (List.getElem_mem hl)
      have hgd : ls.getD i (0, 0) = ls[i] := by rw [List.getD_eq_getElem?_getD, List.getElem?_eq_getElem hl]; rfl
      have hcs : clF ls (i + 1) = if (ls.getD i (0, 0)).1 = (clF ls i : Int) then clF ls i + 1 else clF ls i := rfl
      have hrs : rkF ls (i + 1) = IntKind.i64.wrap (rkF ls i + IntKind.i64.wrap ((ls.getD i (0, 0)).1 * tN (ls.length - 1 - i) (clF ls i))) := rfl
      have hpl : plB ls i = decide (0 ≤ (ls.getD i (0, 0)).1 ∧ (ls.getD i (0, 0)).1 ≤ clF ls i ∧ (ls.getD i (0, 0)).2 = 0) := rfl
      have hcl := clF_le ls i
      rw [hgd] at hcs hrs hpl
      rw [HL.out] at hrs
      have hcell : wr.cell? ⟨q, (n1 - 1 - i) * 27 + clF ls i, none⟩ = some (.int .i64 (tN (n1 - 1 - i) (clF ls i))) := (HR.out.2.b5.cell _).trans ((HT.out.2 _ _ (by omega) (by omega)).trans (by dsimp only; rw [if_pos (by omega)]))
      have hp := (lineOk_iff _).1 hok
      generalize clF ls i = k at *
      generalize rkF ls i = rk at *
      generalize tN (n1 - 1 - i) k = t at *
      generalize ls[i] = x at *
      obtain ⟨c, r⟩ := x
      dsimp only at *
      have hr0 : 0 ≤ r := by omega
      have HN := Lib.hid (And.intro hcs (And.intro hrs hpl))
      have HCE := Lib.hid hcell
      clear hok hgd hcs hrs hpl hp hL hB hcell
      go_upto_region 9 with (fail)
      refine wp_abs (fun wx => RkSt w (.slice (some ⟨b, o, none⟩) n1 c1) (.slice A2 n2 c2) q cs wx ∧ Blk wx wr.heap.size 66 #[.int .i64 c, .int .i64 r] ∧ wx.cell? ⟨q, (n1 - 1 - i) * 27 + k, none⟩ = some (.int .i64 t)) ⟨HR.out.2.on ((Below.refl _ _).alloc (Nat.le_refl _) _), Blk.new _ _ _, (((Below.refl _ _).alloc (Nat.le_refl _) _).cell (p := ⟨q, _, none⟩) HR.out.2.b5.lt).trans HCE.out⟩ ?_
      rintro wx ⟨hS, hB, hcell⟩
      have HPL := Lib.hid HR.out.1
      have l0 : wx.cell? ⟨wr.heap.size, 0, none⟩ = some (.int .i64 c) := hB.cell 0
      have l1 : wx.cell? ⟨wr.heap.size, 1, none⟩ = some (.int .i64 r) := hB.cell 1
      have HX := Lib.hid (And.intro hS hcell)
      clear hS hB HR HCE p1 p2 hcell
      by_cases hgood : 0 ≤ c ∧ c ≤ (k : Int) ∧ r = 0
      · obtain ⟨g1, g2, rfl⟩ := hgood
        obtain ⟨cn, rfl⟩ : ∃ cn : Nat, c = cn := ⟨c.toNat, by omega⟩
        have hcell := HX.out.2
        have e8 : ((n1 : Int) - 1 - (i : Int)).toNat = n1 - 1 - i := by omega
        have i1 : (n1 : Int) - 1 - (i : Int) < 26 := by omega
        have i2 : (k : Int) < 27 := by omega
        have hk1 : IntKind.i64.wrap ((k : Int) + 1) = (k : Int) + 1 := IntWalk.i64_in _ (by omega)
        have HPB := Lib.hid (show plB ls i = true by rw [HN.out.2.2]; simpa using g2)
        go_upto_region 11 with (fail)
        go_quiet (fail)
        clear hcell e8 i1 i2
        have m0 : (wx.drewN nq).cell? ⟨wr.heap.size, 0, none⟩ = some (.int .i64 cn) := l0
        by_cases hck : cn = k
        · subst hck
          go_wp2
          go_roundw
          case rel => exact ⟨i + 1, by omega, by go_num, by rw [HN.out.2.1, w64, w64], by rw [HN.out.1, if_pos rfl]; go_num, Lib.hid ⟨rk_next HPL.out HPB.out, ⟨HX.out.1.b1.drewN _, HX.out.1.b5.drewN _, bdrawn HX.out.1.below _⟩⟩⟩
          case measure => simp [intOf]; omega
        · have hb : ((cn : Int) == (k : Int)) = false := by simp; omega
          have hck' : ¬ ((cn : Int) = (k : Int)) := by omega
          go_wp2
          go_roundw
          case rel => exact ⟨i + 1, by omega, by go_num, by rw [HN.out.2.1, w64, w64], by rw [HN.out.1, if_neg hck'], Lib.hid ⟨rk_next HPL.out HPB.out, ⟨HX.out.1.b1.drewN _, HX.out.1.b5.drewN _, bdrawn HX.out.1.below _⟩⟩⟩
          case measure => simp [intOf]; omega
      · have HPB := Lib.hid (show plB ls i = false by rw [HN.out.2.2]; simpa using hgood)
        have hcase : c < 0 ∨ (¬ c < 0 ∧ (k : Int) < c) ∨ (¬ c < 0 ∧ ¬ (k : Int) < c ∧ 0 < r) := by omega
        clear hgood
        rcases hcase with h | ⟨h, h'⟩ | ⟨h, h', h''⟩
        all_goals
          go_wp2
          go_ret2
          exact Lib.hid ⟨rk_no (by rw [HRK.out]; exact pl_bad hl HPB.out) rfl, HX.out.1.below⟩
    · have hie : i = n1 := by omega
      subst hie
      go_wp2
      go_ret2
      refine Lib.hid ⟨?_, HR.out.2.below⟩
      unfold rkV rkE
      rw [HRK.out, pl_good (by rw [HL.out]; exact HR.out.1), HL.out]
      rfl
end Go.Proofs.Ytbjfbmienlojkaa
