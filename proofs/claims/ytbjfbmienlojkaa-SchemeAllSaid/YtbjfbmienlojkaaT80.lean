/- The reference's ways, Count, Plain, Rank. -/
import Derived.Test.YtbjfbmienlojkaaT79
namespace Go.Proofs.Ytbjfbmienlojkaa
open Go.RowKit

theorem made_both {P : Program} (t e : TypeId) (i : TypeInfo) (z : Value) (size : Nat) (ht : P.underlying t = some (.slice e)) (hi : P.info? e = some i) (hz : i.zero = some z) (hsize : i.size = size)
    (c : Nat) (hbytes : i.bytes * c ≤ 281474976710656) (h63 : c ≤ maxLen) : ∃ Z : Array Value, Z.size = c * size ∧ ∀ w, (Instr.makeSlice t (.int .i64 (c : Int)) (.int .i64 (c : Int))).run P w = .ok (.slice (some ⟨w.heap.size, 0, none⟩) c c) (w.alloc (.cells Z e)) := by
  subst hsize
  refine ⟨madeCells z.cells (c * i.size), size_madeCells _ _, fun w => ?_⟩
  have h63' : (c : Int) ≤ 9223372036854775807 := by
    have h := h63
    simp [maxLen] at h
    omega
  have hb' : (i.bytes : Int) * (c : Int) ≤ 281474976710656 := by
    have h : ((i.bytes * c : Nat) : Int) ≤ 281474976710656 := by omega
    rwa [Int.natCast_mul] at h
  have hr := run_make (P := P) w t e i z ht hi hz .i64 .i64 c c (by omega) (Int.le_refl _) hb' h63'
  simpa using hr
theorem info3' : (Try.prog.info? 3).map (fun i => (i.zero, i.size, i.bytes)) = some (some (.int .i64 0), 1, 8) := by kernel_rfl

/-- memory while ways runs: the row -/
structure WaySt (w0 : World) (L : Nat) (F : Nat → Int) (lo : Nat) (w : World) : Prop where
  row : ∃ cs : Array Value, Blk w w0.heap.size 3 cs ∧ cs.size = L ∧ ∀ j, j < lo → cs[j]? = some (.int .i64 (F j))
  below : Below w0.heap.size w0 w
theorem WaySt.cell {w0 w : World} {L : Nat} {F : Nat → Int} {lo : Nat} (h : WaySt w0 L F lo w) {j : Nat} (hj : j < lo) : w.cell? ⟨w0.heap.size, j, none⟩ = some (.int .i64 (F j)) := by
  obtain ⟨cs, hb, _, hc⟩ := h.row
  exact (hb.cell j).trans (hc j hj)
theorem WaySt.free {w0 w : World} {L : Nat} {F : Nat → Int} {lo : Nat} (h : WaySt w0 L F lo w) (j : Nat) : w.frozen? ⟨w0.heap.size, j, none⟩ = false := by
  obtain ⟨cs, hb, _, hc⟩ := h.row
  exact hb.frozen j
theorem WaySt.some {w0 w : World} {L : Nat} {F : Nat → Int} {lo : Nat} (h : WaySt w0 L F lo w) {j : Nat} (hj : j < L) : ∃ v, w.cell? ⟨w0.heap.size, j, none⟩ = some v := by
  obtain ⟨cs, hb, hs, hc⟩ := h.row
  exact ⟨cs[j]'(by omega), (hb.cell j).trans (Array.getElem?_eq_getElem _)⟩
theorem WaySt.set {w0 w : World} {L : Nat} {F G : Nat → Int} {lo lo' : Nat} (h : WaySt w0 L F lo w) {j : Nat} (hj : j < L) {v : Int} (hG : ∀ i, i < lo' → (i = j ∧ G i = v) ∨ (i ≠ j ∧ i < lo ∧ G i = F i)) : WaySt w0 L G lo' (w.setCell ⟨w0.heap.size, j, none⟩ (.int .i64 v)) := by
  obtain ⟨cs, hb, hs, hc⟩ := h.row
  refine ⟨⟨_, hb.set_ j _, by simpa using hs, fun i hi => ?_⟩, h.below.setCell (by simp) _⟩
  rw [Array.getElem?_setIfInBounds]
  rcases hG i hi with ⟨rfl, e⟩ | ⟨h1, h2, e⟩
  · rw [if_pos rfl, if_pos (by omega), e]
  · rw [if_neg (fun h => h1 h.symm), hc i h2, e]
theorem WaySt.less {w0 w : World} {L : Nat} {F G : Nat → Int} {lo lo' : Nat} (h : WaySt w0 L F lo w) (hG : ∀ i, i < lo' → i < lo ∧ G i = F i) : WaySt w0 L G lo' w := by
  obtain ⟨cs, hb, hs, hc⟩ := h.row
  exact ⟨⟨cs, hb, hs, fun i hi => by rw [hc i (hG i hi).1, (hG i hi).2]⟩, h.below⟩
theorem WaySt.drew {w0 w : World} {L : Nat} {F : Nat → Int} {lo : Nat} (h : WaySt w0 L F lo w) : WaySt w0 L F lo w.drew := ⟨h.row, h.below.drew⟩

set_option maxHeartbeats 4000000 in
set_option maxRecDepth 100000 in
theorem ways_any (n c : Nat) (w : World) (h : n + c ≤ 25) : Calls Try.prog 59 #[.int .i64 n, .int .i64 c] w fun e w' => e = .returned (.int .i64 (tN n c)) ∧ Below w.heap.size w w' := by
  obtain ⟨i0, hi, hz0, hz1, hz2⟩ := info_parts info3'
  obtain ⟨Z, hZ, hm⟩ := made_both (P := Try.prog) 24 3 i0 _ 1 Try.underlying24 hi hz0 hz1 (c + n + 2) (by rw [hz2]; omega) (by unfold maxLen; omega)
  have hL : c + n + 2 ≤ 27 := by omega
  have hlc : (((c + n + 2 : Nat)) : Int) = (c : Int) + (n : Int) + 2 := by omega
  rw [hlc] at hm
  have hfin := wN_le (k := n) (c := c) (by omega)
  have HW := Lib.hid hfin
  have HZ := Lib.hid hZ
  generalize hLL : c + n + 2 = L at *
  have HLL := Lib.hid hLL
  have hcL : c < L := by omega
  have hcn : c + n < L := by omega
  clear hi hz0 hz1 hz2 hfin hZ hLL hlc
  go_enter Try.func59, Try.ntmps59
  go_upto_region 2 with (fail)
  refine wp_abs (WaySt w L (fun _ => 1) 0) ⟨⟨Z, Blk.new _ _ _, by rw [HZ.out]; omega, fun j hj => absurd hj (Nat.not_lt_zero _)⟩, (Below.refl _ _).alloc (Nat.le_refl _) _⟩ ?_
  intro w1 hS
  have HS := Lib.hid hS
  clear hS hm
  go_wp2
  go_loopw [16] (fun iv wr => ∃ i : Nat, i ≤ L ∧ iv = .int .i64 i ∧ Hid (WaySt w L (fun _ => 1) i wr)) (fun iv _ => L - (intOf iv).toNat)
  case atStart => exact ⟨0, Nat.zero_le _, rfl, HS⟩
  case round =>
    obtain ⟨i, hi, rfl, HR⟩ := hrel
    clear HS
    by_cases hlt : i < L
    · obtain ⟨v, hv⟩ := HR.out.some hlt
      have hf := HR.out.free i
      have HN := Lib.hid (HR.out.set (G := fun _ => 1) (lo' := i + 1) hlt (v := 1) (fun j hj => by
        by_cases e : j = i
        · exact .inl ⟨e, rfl⟩
        · exact .inr ⟨e, by omega, rfl⟩))
      go_wp2
      go_roundw
      case rel => exact ⟨i + 1, by omega, by go_num, HN⟩
      case measure => simp [intOf]; omega
    · obtain rfl : L = i := by omega
      go_wp2
      refine wp_abs (WaySt w L (wN 0) (L - 0)) (HR.out.less (fun j hj => ⟨by omega, IntWalk.i64_in 1 (by omega)⟩)) ?_
      intro w2 hS
      have HS := Lib.hid hS
      clear hS HR
      go_loopw [7] (fun kv wr => ∃ k : Nat, k ≤ n ∧ kv = .int .i64 k ∧ Hid (WaySt w L (wN k) (L - k) wr)) (fun kv _ => n - (intOf kv).toNat)
      case atStart => exact ⟨0, Nat.zero_le _, rfl, HS⟩
      case round =>
        obtain ⟨k, hk, rfl, HK⟩ := hrel
        clear HS
        by_cases hkn : k < n
        · obtain ⟨wo, hwo⟩ : ∃ wo : World, wo = wr := ⟨_, rfl⟩
          subst hwo
          go_wp2
          go_loopw [8] (fun xv wr => ∃ x : Nat, x + k + 1 ≤ L ∧ xv = .int .i64 x ∧ Hid (WaySt w L (fun j => if j < x then wN (k + 1) j else wN k j) (L - k) wr)) (fun xv _ => L - (intOf xv).toNat)
          case atStart => exact ⟨0, by omega, rfl, Lib.hid (HK.out.less (fun j hj => ⟨hj, by rw [if_neg (by omega)]⟩))⟩
          case round =>
            obtain ⟨x, hxL, rfl, HX⟩ := hrel
            clear HK
            by_cases hx : x + 1 + k < L
            · have d1 : decide ((x : Int) + 1 < (L : Int) - (k : Int)) = true := by simp; omega
              have c1 : wr.cell? ⟨w.heap.size, x, none⟩ = some (.int .i64 (wN k x)) := (HX.out.cell (j := x) (by omega)).trans (by rw [if_neg (by omega)])
              have c2 : wr.cell? ⟨w.heap.size, x + 1, none⟩ = some (.int .i64 (wN k (x + 1))) := (HX.out.cell (j := x + 1) (by omega)).trans (by rw [if_neg (by omega)])
              have f1 := HX.out.free x
              have e4 := wN_step k x
              have HN := Lib.hid (HX.out.set (G := fun j => if j < x + 1 then wN (k + 1) j else wN k j) (lo' := L - k) (j := x) (by omega) (v := wN (k + 1) x) (fun j hj => by
                by_cases e : j = x
                · subst e; exact .inl ⟨rfl, by rw [if_pos (by omega)]⟩
                · refine .inr ⟨e, hj, ?_⟩
                  by_cases h' : j < x
                  · rw [if_pos h', if_pos (by omega)]
                  · rw [if_neg h', if_neg (by omega)]))
              generalize wN k x = v1 at *
              generalize wN k (x + 1) = v2 at *
              generalize wN (k + 1) x = v3 at *
              have e2 : IntKind.i64.wrap ((x : Int) + 1) = (x : Int) + 1 := IntWalk.i64_in _ (by omega)
              have e7 : ((x : Int) + 1).toNat = x + 1 := by omega
              have i3 : (x : Int) + 1 < (L : Int) := by omega
              have i4 : (x : Int) < (L : Int) := by omega
              have i6 : (0 : Int) ≤ (x : Int) + 1 := by omega
              go_wp2
              go_still_tail 15, (by kernel_rfl)
              change wpList _ _ _ _ _ wr.drew
              clear e4 e2 e7
              go_wp2
              go_roundw
              case rel => exact ⟨x + 1, by omega, by go_num, Lib.hid HN.out.drew⟩
              case measure => simp [intOf]; omega
            · have d1 : decide ((x : Int) + 1 < (L : Int) - (k : Int)) = false := by simp; omega
              have hxe : x + 1 + k = L := by omega
              have HN := Lib.hid (HX.out.less (G := wN (k + 1)) (lo' := L - (k + 1)) (fun j hj => ⟨by omega, by rw [if_pos (by omega)]⟩))
              clear HX hxe
              go_wp2
              go_roundw
              case rel => exact ⟨k + 1, by omega, by go_num, HN⟩
              case measure => simp [intOf]; omega
        · obtain rfl : n = k := by omega
          have c1 := HK.out.cell (j := c) (by omega)
          rw [HW.out] at c1
          go_wp2
          go_ret
          exact ⟨rfl, HK.out.below⟩

/-- the reference's Count -/
theorem refCount_any (n : Nat) (w : World) (h : n ≤ 25) : Calls Try.prog 19 #[.int .i64 n] w fun e w' => e = .returned (.int .i64 (tN n 0)) ∧ Below w.heap.size w w' := by
  have hw := ways_any n 0 w (by omega)
  go_enter Try.func19, Try.ntmps19
  go_wp2_with fail
  refine hw.mono ?_
  rintro e w1 ⟨rfl, hb⟩
  have HB := Lib.hid hb
  clear hb
  go_wp2
  go_ret
  exact ⟨rfl, HB.out⟩
end Go.Proofs.Ytbjfbmienlojkaa
