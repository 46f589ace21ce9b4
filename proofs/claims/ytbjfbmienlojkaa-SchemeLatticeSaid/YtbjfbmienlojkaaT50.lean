/- texts and stayed: a list of strings with room behind it, and whether it is as it was. -/
import Derived.Test.YtbjfbmienlojkaaT44
import Derived.Deep.DeepMust
import Derived.Deep.QuietTactic
import Derived.BigQuiet
import Derived.Test.YtbjfbmienlojkaaT15
namespace Go.Proofs.Ytbjfbmienlojkaa
open Go.RowKit

def tilde : ByteArray := ⟨#[126]⟩
/-- keys with twenty tildes behind them -/
def padded (ks : List ByteArray) (j : Nat) : List ByteArray := ks ++ List.replicate j tilde
theorem padded_succ (ks : List ByteArray) (j : Nat) : padded ks (j + 1) = padded ks j ++ [tilde] := by
  unfold padded
  rw [List.replicate_succ', List.append_assoc]
theorem padded_len (ks : List ByteArray) (j : Nat) : (padded ks j).length = ks.length + j := by simp [padded]
theorem padded_back {ks : List ByteArray} {i : Nat} (h : ks.length ≤ i) (hl : i < (padded ks 20).length) : (padded ks 20)[i] = ⟨#[126]⟩ := by
  have h2 : (padded ks 20)[i]? = some ⟨#[126]⟩ := by
    have h3 := padded_len ks 20
    unfold padded
    rw [List.getElem?_append_right h, List.getElem?_replicate, if_pos (by omega)]
    rfl
  rw [List.getElem?_eq_getElem hl] at h2
  injection h2
theorem padded_rd {w : World} {L B n : Nat} {X : Option Addr} {ks : List ByteArray} (h : Rd w L B 1 X (n + 20) (strs (padded ks 20))) : Rd w L B 1 X n (strs ks) := by
  have hl := h.slen
  rw [padded_len] at hl
  refine ⟨by rw [strs_len]; omega, fun hn => ?_⟩
  obtain ⟨b, o, e, hL, hB, hc⟩ := h.2 (by omega)
  refine ⟨b, o, e, hL, hB, fun j u hu => hc j u ?_⟩
  have hj : j < (strs ks).length := (List.getElem?_eq_some_iff.1 hu).1
  unfold strs padded at *
  rw [List.map_append, List.getElem?_append_left hj]
  exact hu
theorem strs_append (a b : List ByteArray) : strs (a ++ b) = strs a ++ strs b := by simp [strs]
theorem rd_newS (w : World) (t : TypeId) (v : Value) : Rd (w.alloc (.cells #[v] t)) w.heap.size (w.heap.size + 1) 1 (some ⟨w.heap.size, 0, none⟩) 1 [v] := by
  refine ⟨rfl, fun _ => ⟨w.heap.size, 0, rfl, Nat.le_refl _, Nat.lt_succ_self _, fun j u hu => ?_⟩⟩
  rw [Nat.zero_add, (Blk.new w t #[v]).cell]
  simpa using hu

set_option maxHeartbeats 2000000 in
set_option maxRecDepth 100000 in
theorem texts_any (A : Option Addr) (n c L B : Nat) (ks : List ByteArray) (w : World) (h : Rd w L B 1 A n (strs ks)) (hB : B ≤ w.heap.size) (hnc : n ≤ c) (hc : c * 16 ≤ 140737488351232) :
    Calls Try.prog 32 #[.slice A n c] w fun e w' => ∃ X C, e = .returned (.slice X (n + 20) C) ∧ w'.ownsRow w.heap.size 9 1 (.slice X (n + 20) C) (n + 20) (strs (padded ks 20)) ∧ Below w.heap.size w w' := by
  have H := Lib.hid h
  clear h
  have hn : n * 16 ≤ 140737488351232 := by omega
  clear hnc hc
  have hinfo : (Try.prog.info? 9).map (fun i => (i.zero, i.size, i.bytes)) = some (some (.string ⟨#[]⟩), 1, 16) := by kernel_rfl
  obtain ⟨i0, hi, hz0, hz1, hz2⟩ := info_parts hinfo
  have HI := Lib.hid (And.intro hi (And.intro hz0 (And.intro hz1 hz2)))
  obtain ⟨Z1, hZ1, m1⟩ := made_eq 53 9 i0 _ 1 Try.underlying53 hi hz0 hz1 (n + 20) (by rw [hz2]; omega) (by unfold maxLen; omega)
  have hC1 : ((n + 20 : Nat) : Int) = (n : Int) + 20 := by omega
  rw [hC1] at m1
  have HZ1 := Lib.hid hZ1
  clear hi hz0 hz1 hz2 hinfo hZ1 hC1
  go_enter Try.func32, Try.ntmps32
  go_upto_region 2 with (fail)
  refine wp_abs (fun wx => wx.ownsRow w.heap.size 9 1 (.slice (some ⟨w.heap.size, 0, none⟩) 0 (n + 20)) 0 [] ∧ Below w.heap.size w wx) ⟨own_made HZ1.out (by unfold maxLen; omega) (Nat.le_refl _) (Blk.new _ _ _), (Below.refl _ _).alloc (Nat.le_refl _) _⟩ ?_
  rintro w1 ⟨o1, hb1⟩
  have HA := Lib.hid (And.intro o1 hb1)
  have bw := hb1.size
  clear o1 hb1 m1
  go_upto_region 3 with (at_builtin; go_must (refine wpList_append_rd _ rfl _ _ 53 rfl w.heap.size 9 i0 (.string ⟨#[]⟩) 1 16 Try.underlying53 HI.out.1 HI.out.2.1 HI.out.2.2.1 HI.out.2.2.2 rfl (by decide) _ _ _ rfl HA.out.1 L B A n c (strs ks) rfl (H.out.below HA.out.2 hB) (strs_one ks) (by unfold maxLen; omega) (by omega) (by omega) ?_; intro v2 w2 _ hown hgrow _; have HN := Lib.hid (And.intro hown (HA.out.2.grown hgrow HA.out.2.size (fun g hg => (HA.out.1.lt g hg).1))); clear hown hgrow))
  refine wp_abs (fun wx => wx.ownsRow w.heap.size 9 1 v2 (n + 0) (strs (padded ks 0)) ∧ Below w.heap.size w wx) ⟨by have := HN.out.1; simpa [padded] using this, HN.out.2⟩ ?_
  rintro w3 ⟨o3, hb3⟩
  have HS := Lib.hid (And.intro o3 hb3)
  clear o3 hb3 HN
  go_wp2
  go_loopw [3, 4] (fun lv jv wr => ∃ j : Nat, j ≤ 20 ∧ jv = .int .i64 j ∧ Hid (wr.ownsRow w.heap.size 9 1 lv (n + j) (strs (padded ks j)) ∧ Below w.heap.size w wr)) (fun _ jv _ => 20 - (intOf jv).toNat)
  case atStart => exact ⟨0, by omega, rfl, HS⟩
  case round =>
    obtain ⟨j, hj, rfl, HS⟩ := hrel
    obtain ⟨XV, XC, rfl⟩ := own_slice HS.out.1
    have bw3 := HS.out.2.size
    by_cases hlt : j < 20
    · go_wp2_with (at_builtin; go_must (refine wpList_append_rd _ rfl _ _ 53 rfl w.heap.size 9 i0 (.string ⟨#[]⟩) 1 16 Try.underlying53 HI.out.1 HI.out.2.1 HI.out.2.2.1 HI.out.2.2.2 rfl (by decide) _ _ _ rfl (HS.out.1.alloc _) _ _ _ 1 1 _ rfl (rd_newS _ _ _) (by simp [Value.oneCell']) (by unfold maxLen; omega) (by omega) (by simp; omega) ?_; intro v4 w4 _ hown hgrow _; have HN := Lib.hid (And.intro hown ((HS.out.2.alloc HS.out.2.size _).grown hgrow (by simp; omega) (fun g hg => (HS.out.1.lt g hg).1))); clear hown hgrow))
      go_roundw
      case rel => exact ⟨j + 1, by omega, by go_num, Lib.hid ⟨by rw [padded_succ, strs_append]; exact HN.out.1, HN.out.2⟩⟩
      case measure => simp [intOf]; omega
    · have hj20 : j = 20 := by omega
      subst hj20
      go_wp2
      go_ret
      exact ⟨XV, XC, rfl, HS.out.1, HS.out.2⟩

set_option maxHeartbeats 2000000 in
set_option maxRecDepth 100000 in
theorem stayed_any (A A' : Option Addr) (n c c' L L' B B' : Nat) (ks : List ByteArray) (w : World) (h : Rd w L B 1 A (n + 20) (strs (padded ks 20))) (h' : Rd w L' B' 1 A' n (strs ks)) (hB : B ≤ w.heap.size) (hB' : B' ≤ w.heap.size) (hn : n * 16 ≤ 140737488351232) :
    Calls Try.prog 35 #[.slice A (n + 20) c, .slice A' n c'] w fun e w' => e = .returned (.bool true) ∧ Below w.heap.size w w' := by
  have hkn := h'.slen
  have H := Lib.hid h
  have H' := Lib.hid h'
  have HKN := Lib.hid hkn
  clear h h' hkn
  go_enter Try.func35, Try.ntmps35
  go_wp2
  go_loopw [8] (fun iv wr => ∃ i : Nat, i ≤ n + 20 ∧ iv = .int .i64 i ∧ Hid (Below w.heap.size w wr)) (fun iv _ => n + 20 - (intOf iv).toNat)
  case atStart => exact ⟨0, by omega, rfl, Lib.hid (Below.refl _ _)⟩
  case round =>
    obtain ⟨i, hi, rfl, HS⟩ := hrel
    by_cases hlt : i < n + 20
    · obtain ⟨b, o, hil, rfl, hL, hb, hc⟩ := (H.out.below HS.out hB).str hlt
      have i1 : (0 : Int) ≤ (i : Int) := by omega
      have i2 : (i : Int) < (n : Int) + 20 := by omega
      have i3 : (i : Int) < ((n + 20 : Nat) : Int) := by omega
      by_cases hin : i < n
      · obtain ⟨b', o', hil', rfl, hL', hb', hc'⟩ := (H'.out.below HS.out hB').str hin
        have he : (padded ks 20)[i] = ks[i] := List.getElem_append_left hil'
        rw [he] at hc
        generalize ks[i] = s at hc hc'
        have hd1 : decide ((i : Int) < (n : Int)) = true := by simpa using hin
        have hd2 : decide ((n : Int) ≤ (i : Int)) = false := by simp; omega
        have hd3 : decide (i < n) = true := by simpa using hin
        have hd4 : decide (n ≤ i) = false := by simp; omega
        have i4 : (i : Int) < (n : Int) := by omega
        clear he hil hil'
        go_wp2
        go_quiet (fail)
        go_wp2
        go_roundw
        case rel => exact ⟨i + 1, by omega, by go_num, Lib.hid (bdrawn HS.out _)⟩
        case measure => simp [intOf]; omega
      · have he := padded_back (ks := ks) (i := i) (by rw [HKN.out]; omega) hil
        rw [he] at hc
        have hd1 : decide ((i : Int) < (n : Int)) = false := by simp; omega
        have hd2 : decide ((n : Int) ≤ (i : Int)) = true := by simp; omega
        have hd3 : decide (i < n) = false := by simp; omega
        have hd4 : decide (n ≤ i) = true := by simp; omega
        clear he hil
        go_wp2
        go_quiet (fail)
        go_wp2
        go_roundw
        case rel => exact ⟨i + 1, by omega, by go_num, Lib.hid (bdrawn HS.out _)⟩
        case measure => simp [intOf]; omega
    · go_wp2
      go_ret
      exact ⟨rfl, HS.out⟩
end Go.Proofs.Ytbjfbmienlojkaa
