/- The reference's Plain and Rank. -/
import Derived.Test.YtbjfbmienlojkaaT80
import Derived.Deep.RegionHeld3
namespace Go.Proofs.Ytbjfbmienlojkaa
open Go.RowKit

theorem ways_at (x : Int) (n c : Nat) (w : World) (hx : x = n) (h : n + c ≤ 25) : Calls Try.prog 59 #[.int .i64 x, .int .i64 c] w fun e w' => e = .returned (.int .i64 (tN n c)) ∧ Below w.heap.size w w' := by
  subst hx
  exact ways_any n c w h

def refPlainF (ls : List (Int × Int)) (st : List Int) : Bool := if ls.length = 0 then decide (st.length = 0) else plainAll ls && decide (st.length = 1)

/-- memory while Plain runs -/
structure BxSt (w0 : World) (v1 v2 : Value) (w : World) : Prop where
  b1 : Blk w w0.heap.size 26 #[v1, v2]
  below : Below w0.heap.size w0 w
theorem BxSt.on {w0 : World} {v1 v2 : Value} {w w' : World} (h : BxSt w0 v1 v2 w) (hb : Below w.heap.size w w') : BxSt w0 v1 v2 w' :=
  ⟨h.b1.below hb h.b1.lt, h.below.trans (hb.mono h.below.size)⟩
theorem BxSt.init (w : World) (v1 v2 : Value) : BxSt w v1 v2 (w.alloc (.cells #[v1, v2] 26)) := ⟨Blk.new _ _ _, (Below.refl _ _).alloc (Nat.le_refl _) _⟩

set_option maxHeartbeats 2000000 in
set_option maxRecDepth 100000 in
theorem refPlain_any (A1 A2 : Option Addr) (n1 c1 n2 c2 L1 : Nat) (ls : List (Int × Int)) (st : List Int) (w : World)
    (h1 : Rd w L1 w.heap.size 2 A1 n1 (prs ls)) (h2 : st.length = n2) (hn1 : n1 ≤ 512) (hok : ∀ p ∈ ls, lineOk p = true) :
    Calls Try.prog 42 #[.agg #[.slice A1 n1 c1, .slice A2 n2 c2]] w fun e w' => e = .returned (.bool (refPlainF ls st)) ∧ Below w.heap.size w w' := by
  have l1 : ls.length = n1 := by have := h1.1; rw [prs_len] at this; omega
  have H1 := Lib.hid h1
  have H2 := Lib.hid h2
  have HL := Lib.hid l1
  have HOK := Lib.hid hok
  clear h1 h2 l1 hok
  refine Calls.mono (R := fun e w' => Hid (e = .returned (.bool (refPlainF ls st)) ∧ Below w.heap.size w w')) ?_ (fun e w' h => h.out)
  by_cases h0 : n1 = 0
  · subst h0
    rcases Nat.eq_zero_or_pos n2 with hz | hz
    · subst hz
      go_enter Try.func42, Try.ntmps42
      go_upto_region 1 with (fail)
      refine wp_abs (BxSt w (.slice A1 0 c1) (.slice A2 0 c2)) (BxSt.init _ _ _) ?_
      intro wx hS
      have c00 : wx.cell? ⟨w.heap.size, 0, none⟩ = some (.slice A1 0 c1) := hS.b1.cell 0
      have c01 : wx.cell? ⟨w.heap.size, 1, none⟩ = some (.slice A2 0 c2) := hS.b1.cell 1
      have HS := Lib.hid hS
      clear hS
      go_wp2
      go_ret
      exact Lib.hid ⟨ret_bool (by unfold refPlainF; rw [if_pos HL.out, H2.out]; rfl), HS.out.below⟩
    · have hb : ((n2 : Int) == 0) = false := by simp; omega
      have hb2 : decide (n2 = 0) = false := by simp; omega
      go_enter Try.func42, Try.ntmps42
      go_upto_region 1 with (fail)
      refine wp_abs (BxSt w (.slice A1 0 c1) (.slice A2 n2 c2)) (BxSt.init _ _ _) ?_
      intro wx hS
      have c00 : wx.cell? ⟨w.heap.size, 0, none⟩ = some (.slice A1 0 c1) := hS.b1.cell 0
      have c01 : wx.cell? ⟨w.heap.size, 1, none⟩ = some (.slice A2 n2 c2) := hS.b1.cell 1
      have HS := Lib.hid hS
      clear hS
      go_wp2
      go_ret
      exact Lib.hid ⟨ret_bool (by unfold refPlainF; rw [if_pos HL.out, H2.out, hb2]), HS.out.below⟩
  · have hnb : ((n1 : Int) == 0) = false := by simp; omega
    have hrp : refPlainF ls st = (plainAll ls && decide (n2 = 1)) := by unfold refPlainF; rw [if_neg (by rw [HL.out]; exact h0), H2.out]
    have HRP := Lib.hid hrp
    clear hrp
    have h1n : 0 < n1 := by omega
    clear h0
    go_enter Try.func42, Try.ntmps42
    go_upto_region 1 with (fail)
    refine wp_abs (BxSt w (.slice A1 n1 c1) (.slice A2 n2 c2)) (BxSt.init _ _ _) ?_
    intro wx hS
    have c00 : wx.cell? ⟨w.heap.size, 0, none⟩ = some (.slice A1 n1 c1) := hS.b1.cell 0
    have HS := Lib.hid (And.intro (show ∀ j, j < 0 → plB ls j = true from fun j hj => absurd hj (Nat.not_lt_zero _)) hS)
    clear hS
    go_wp2
    clear c00
    go_loopw [3, 17] (fun tv iv wr => ∃ i : Nat, i ≤ n1 ∧ iv = .int .i64 i ∧ tv = .int .i64 ((clF ls i : Int) - 1) ∧ Hid ((∀ j, j < i → plB ls j = true) ∧ BxSt w (.slice A1 n1 c1) (.slice A2 n2 c2) wr)) (fun _ iv _ => n1 - (intOf iv).toNat)
    case atStart => exact ⟨0, Nat.zero_le _, rfl, rfl, HS⟩
    case round =>
      obtain ⟨i, hin, rfl, rfl, HR⟩ := hrel
      clear HS
      have hcl := clF_le ls i
      by_cases hlt : i < n1
      · obtain ⟨b, o, hl, rfl, hL, hB, p1, p2⟩ := (H1.out.up HR.out.2.below HR.out.2.below.size).two hlt
        have hok := HOK.out _ (List.getElem_mem hl)
        have hgd : ls.getD i (0, 0) = ls[i] := by rw [List.getD_eq_getElem?_getD, List.getElem?_eq_getElem hl]; rfl
        have hcs : clF ls (i + 1) = if (ls.getD i (0, 0)).1 = (clF ls i : Int) then clF ls i + 1 else clF ls i := rfl
        have hpl : plB ls i = decide (0 ≤ (ls.getD i (0, 0)).1 ∧ (ls.getD i (0, 0)).1 ≤ clF ls i ∧ (ls.getD i (0, 0)).2 = 0) := rfl
        rw [hgd] at hcs hpl
        have hp := (lineOk_iff _).1 hok
        generalize hk' : clF ls (i + 1) = k' at *
        generalize clF ls i = k at *
        generalize ls[i] = x at *
        obtain ⟨c, r⟩ := x
        dsimp only at *
        have hr0 : 0 ≤ r := by omega
        have hc25 : c < 25 := by omega
        have HN := Lib.hid hpl
        have HCS := Lib.hid hcs
        have HK' := Lib.hid hk'
        clear hok hgd hcs hpl hp hL hB hk'
        go_upto_region 7 with (fail)
        refine wp_abs (fun wx => BxSt w (.slice (some ⟨b, o, none⟩) n1 c1) (.slice A2 n2 c2) wx ∧ Blk wx wr.heap.size 66 #[.int .i64 c, .int .i64 r]) ⟨HR.out.2.on ((Below.refl _ _).alloc (Nat.le_refl _) _), Blk.new _ _ _⟩ ?_
        rintro wx ⟨hS, hB⟩
        have HPL := Lib.hid HR.out.1
        have l0 : wx.cell? ⟨wr.heap.size, 0, none⟩ = some (.int .i64 c) := hB.cell 0
        have l1 : wx.cell? ⟨wr.heap.size, 1, none⟩ = some (.int .i64 r) := hB.cell 1
        have HX := Lib.hid hS
        clear hS hB HR p1 p2
        by_cases hgood : 0 ≤ c ∧ c ≤ (k : Int) ∧ r = 0
        · obtain ⟨g1, g2, rfl⟩ := hgood
          have hmax : max ((k : Int) - 1) c = (k' : Int) - 1 := by
            have := HCS.out
            by_cases e : c = (k : Int)
            · rw [if_pos e] at this; omega
            · rw [if_neg e] at this; omega
          have HPB := Lib.hid (show plB ls i = true by rw [HN.out]; simpa using ⟨g1, g2⟩)
          go_wp2
          go_roundw
          case rel => exact ⟨i + 1, by omega, by go_num, by rw [HK'.out], Lib.hid ⟨fun j hj => (by
            rcases Nat.lt_or_ge j i with h | h
            · exact HPL.out j h
            · obtain rfl : j = i := by omega
              exact HPB.out), HX.out⟩⟩
          case measure => simp [intOf]; omega
        · have HPB := Lib.hid (show plB ls i = false by rw [HN.out]; simpa using hgood)
          have hcase : c < 0 ∨ (¬ c < 0 ∧ (k : Int) < c) ∨ (¬ c < 0 ∧ ¬ (k : Int) < c ∧ (r == 0) = false) := by
            by_cases hr : r = 0
            · omega
            · have : (r == 0) = false := by simpa using hr
              rw [this]
              simp; omega
          clear hgood
          rcases hcase with h | ⟨h, h'⟩ | ⟨h, h', h''⟩
          all_goals
            go_wp2
            go_ret
            exact Lib.hid ⟨ret_bool (by rw [HRP.out, pl_bad hl HPB.out]; rfl), HX.out.below⟩
      · obtain rfl : n1 = i := by omega
        have hpa := Lib.hid (pl_good (ls := ls) (by rw [HL.out]; exact HR.out.1))
        have c01 : wr.cell? ⟨w.heap.size, 1, none⟩ = some (.slice A2 n2 c2) := HR.out.2.b1.cell 1
        by_cases h2 : n2 = 1
        · subst h2
          go_wp2
          go_ret
          exact Lib.hid ⟨ret_bool (by rw [HRP.out, hpa.out]; rfl), HR.out.2.below⟩
        · have hb : ((n2 : Int) == 1) = false := by simp; omega
          have hb2 : decide (n2 = 1) = false := by simp; omega
          go_wp2
          go_ret
          exact Lib.hid ⟨ret_bool (by rw [HRP.out, hpa.out, hb2]; first | rfl | exact hb), HR.out.2.below⟩

theorem bool_or' (b : Bool) : b = false ∨ b = true := by cases b <;> simp
theorem left_one {left : Int} {st : List Int} (h : stanzasLeft left st = some 0) : (left = 0 ↔ st = []) ∨ left < 0 := by
  cases st with
  | nil => simp [stanzasLeft] at h; exact .inl ⟨fun _ => rfl, fun _ => h⟩
  | cons n t =>
    unfold stanzasLeft at h
    by_cases hc : n < 1 ∨ left < n
    · rw [if_pos hc] at h; cases h
    · left; simp; omega
/-- for what may be: the reference's Plain is what Rank takes -/
theorem rk_plain {ls : List (Int × Int)} {st : List Int} (hm : may ls st = true) (hl : ls.length ≤ 25) : rkOk ls st = refPlainF ls st := by
  have hs := ((may_iff ls st).1 hm).2.1
  have hz := left_one hs
  unfold rkOk refPlainF
  rw [hm, show decide (ls.length ≤ 25) = true by simpa using hl]
  by_cases h0 : ls.length = 0
  · have he : st = [] := by
      rcases hz with h | h
      · exact h.1 (by omega)
      · omega
    subst he
    rw [if_pos h0]
    have : plainAll ls = true := pl_good (fun j hj => absurd hj (by omega))
    rw [this]; rfl
  · rw [if_neg h0]
    have he : st.length ≠ 0 := fun e => by
      have : st = [] := List.eq_nil_of_length_eq_zero e
      rcases hz with h | h
      · exact h0 (by have := h.2 this; omega)
      · omega
    rw [show decide (st.length ≤ 1) = decide (st.length = 1) by rw [decide_eq_decide]; omega]
    cases plainAll ls <;> simp
theorem rk_false {ls : List (Int × Int)} {st : List Int} (h : may ls st = false ∨ refPlainF ls st = false ∨ 25 < ls.length) : rkOk ls st = false := by
  rcases bool_or' (may ls st) with hm | hm
  · unfold rkOk; rw [hm]; rfl
  · by_cases hl : ls.length ≤ 25
    · rw [rk_plain hm hl]
      rcases h with h | h | h
      · rw [hm] at h; cases h
      · exact h
      · omega
    · unfold rkOk; rw [show decide (ls.length ≤ 25) = false by simp; omega]; simp

set_option maxHeartbeats 2000000 in
set_option maxRecDepth 100000 in
theorem refRank_any (A1 A2 : Option Addr) (n1 c1 n2 c2 L1 : Nat) (ls : List (Int × Int)) (w : World)
    (h1 : Rd w L1 w.heap.size 2 A1 n1 (prs ls)) (hn1 : n1 ≤ 25) (hpl : plainAll ls = true) :
    Calls Try.prog 43 #[.agg #[.slice A1 n1 c1, .slice A2 n2 c2]] w fun e w' => e = .returned (.int .i64 (rkF ls ls.length)) ∧ Below w.heap.size w w' := by
  have l1 : ls.length = n1 := by have := h1.1; rw [prs_len] at this; omega
  have H1 := Lib.hid h1
  have HL := Lib.hid l1
  have hall : ∀ j, j < n1 → plB ls j = true := fun j hj => by
    unfold plainAll at hpl
    rw [List.all_eq_true] at hpl
    exact hpl j (List.mem_range.2 (by omega))
  have HOK := Lib.hid hall
  clear h1 l1 hpl hall
  refine Calls.mono (R := fun e w' => Hid (e = .returned (.int .i64 (rkF ls ls.length)) ∧ Below w.heap.size w w')) ?_ (fun e w' h => h.out)
  go_enter Try.func43, Try.ntmps43
  go_upto_region 1 with (fail)
  refine wp_abs (BxSt w (.slice A1 n1 c1) (.slice A2 n2 c2)) (BxSt.init _ _ _) ?_
  intro wx hS
  have c00 : wx.cell? ⟨w.heap.size, 0, none⟩ = some (.slice A1 n1 c1) := hS.b1.cell 0
  have HS := Lib.hid hS
  clear hS
  go_wp2
  clear c00
  go_loopw [3, 4, 11] (fun rv cv iv wr => ∃ i : Nat, i ≤ n1 ∧ iv = .int .i64 i ∧ rv = .int .i64 (rkF ls i) ∧ cv = .int .i64 (clF ls i) ∧ Hid (BxSt w (.slice A1 n1 c1) (.slice A2 n2 c2) wr)) (fun _ _ iv _ => n1 - (intOf iv).toNat)
  case atStart => exact ⟨0, Nat.zero_le _, rfl, rfl, rfl, HS⟩
  case round =>
    obtain ⟨i, hin, rfl, rfl, rfl, HR⟩ := hrel
    clear HS
    by_cases hlt : i < n1
    · obtain ⟨b, o, hl, rfl, hL, hB, p1, p2⟩ := (H1.out.up HR.out.below HR.out.below.size).two hlt
      have hpb := HOK.out i hlt
      have hgd : ls.getD i (0, 0) = ls[i] := by rw [List.getD_eq_getElem?_getD, List.getElem?_eq_getElem hl]; rfl
      have hcs : clF ls (i + 1) = if (ls.getD i (0, 0)).1 = (clF ls i : Int) then clF ls i + 1 else clF ls i := rfl
      have hrs : rkF ls (i + 1) = IntKind.i64.wrap (rkF ls i + IntKind.i64.wrap ((ls.getD i (0, 0)).1 * tN (ls.length - 1 - i) (clF ls i))) := rfl
      unfold plB at hpb
      rw [decide_eq_true_eq] at hpb
      have hcl := clF_le ls i
      rw [hgd] at hcs hrs hpb
      rw [HL.out] at hrs
      generalize hk' : clF ls (i + 1) = k' at *
      generalize clF ls i = k at *
      generalize rkF ls i = rk at *
      generalize ht : tN (n1 - 1 - i) k = t at *
      generalize ls[i] = x at *
      obtain ⟨c, r⟩ := x
      dsimp only at *
      obtain ⟨g1, g2, rfl⟩ := hpb
      have hmax : max (k : Int) (c + 1) = (k' : Int) := by
        by_cases e : c = (k : Int)
        · rw [if_pos e] at hcs; omega
        · rw [if_neg e] at hcs; omega
      have HK' := Lib.hid hk'
      have HT := Lib.hid ht
      have HRS := Lib.hid hrs
      clear hgd hcs hrs hL hB hk' ht
      have c00 : wr.cell? ⟨w.heap.size, 0, none⟩ = some (.slice (some ⟨b, o, none⟩) n1 c1) := HR.out.b1.cell 0
      go_upto_region 5 with (fail)
      refine wp_abs (fun wx => BxSt w (.slice (some ⟨b, o, none⟩) n1 c1) (.slice A2 n2 c2) wx ∧ Blk wx wr.heap.size 66 #[.int .i64 c, .int .i64 0]) ⟨HR.out.on ((Below.refl _ _).alloc (Nat.le_refl _) _), Blk.new _ _ _⟩ ?_
      rintro wx ⟨hS, hB⟩
      have c00 : wx.cell? ⟨w.heap.size, 0, none⟩ = some (.slice (some ⟨b, o, none⟩) n1 c1) := hS.b1.cell 0
      have l0 : wx.cell? ⟨wr.heap.size, 0, none⟩ = some (.int .i64 c) := hB.cell 0
      have HX := Lib.hid (And.intro hS hB)
      clear hS hB HR p1 p2
      go_upto_region 6 with (fail)
      have KB : ∀ W, Below wx.heap.size wx W → W.cell? ⟨wr.heap.size, 0, none⟩ = some (.int .i64 c) := fun W hb => (HX.out.2.below hb HX.out.2.lt).cell 0
      have HKB := Lib.hid KB
      clear KB
      go_region_held3 (fun W => W.cell? ⟨wr.heap.size, 0, none⟩ = some (.int .i64 c))
        ((refine HKB.out _ ?_; first | exact HR1.out | exact ⟨rfl, rfl, rfl, Nat.le_refl _, fun _ _ => rfl⟩))
        (first
          | (go_at_call 59
             refine (ways_at _ (n1 - 1 - i) k _ (by omega) (by omega)).mono ?_
             rw [HT.out]
             rintro e v1 ⟨rfl, hb⟩
             have hbx : Below wx.heap.size wx v1 := ⟨hb.os, hb.tape, hb.output, hb.size, hb.block⟩
             have HR1 := Lib.hid hbx
             clear hb hbx))
      have HY := Lib.hid (HX.out.1.on HR1.out)
      have l1 : v1.cell? ⟨wr.heap.size, 0, none⟩ = some (.int .i64 c) := HKB.out _ HR1.out
      clear HKB HX HR1 c00 l0
      go_wp2
      go_roundw
      case rel => exact ⟨i + 1, by omega, by go_num, by rw [HRS.out], by rw [HK'.out], HY⟩
      case measure => simp [intOf]; omega
    · obtain rfl : n1 = i := by omega
      go_wp2
      go_ret
      exact Lib.hid ⟨by rw [HL.out]; rfl, HR.out.below⟩
end Go.Proofs.Ytbjfbmienlojkaa
