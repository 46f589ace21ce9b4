/- Map.last: the last place whose number is not above. -/
import Derived.Test.YtialpfmaekagjaaN6
namespace Go.Proofs.Ytialpfmaekagjaa
open Go.RowKit

set_option maxHeartbeats 8000000 in
set_option maxRecDepth 100000 in
theorem last1_byte (w : World) (M : Nat) (s : ByteArray) (X Y : Option Addr) (C D : Nat) (pl : List Pl) (fl : List Ln) (h : MpSt w M s X C Y D pl fl) (q5 q3 q4 n : Nat) (c5 : w.cell? ⟨q5, 0, none⟩ = some (.func (.func 23) #[] #[])) (c3 : w.cell? ⟨q3, 0, none⟩ = some (.pointer (some ⟨M, 0, none⟩))) (c4 : w.cell? ⟨q4, 0, none⟩ = some (.int .i64 n)) (hq4 : q4 < w.heap.size) (i : Nat) (hi : i < pl.length) :
    Calls Try.prog 34 #[.int .i64 i, .pointer (some ⟨q5, 0, none⟩), .pointer (some ⟨q3, 0, none⟩), .pointer (some ⟨q4, 0, none⟩)] w fun e w' => e = .returned (.bool (decide (n < pl[i].b))) ∧ Below w.heap.size w w' := by
  obtain ⟨b, o, rfl, hlt, p0, p1, p2, p3, p4⟩ := h.place hi
  have x1 : w.cell? ⟨M, 1, none⟩ = some (.slice (some ⟨b, o, none⟩) pl.length C) := h.blk.cell 1
  have HQ := Lib.hid hq4
  generalize pl[i] = p at *
  clear h hlt hq4
  obtain ⟨len, hlen⟩ : ∃ len, pl.length = len := ⟨_, rfl⟩
  rw [hlen] at hi x1
  have HC4 := Lib.hid c4
  clear hlen
  go_enter Try.func34, Try.ntmps34
  go_upto_region 1 with (fail)
  go_region_law (first
    | (go_simp
       go_at_call 23
       refine (byte1_any p _).mono ?_
       rintro e wt ⟨rfl, hb⟩
       have HB : Hid (Below w.heap.size w wt) := Lib.hid (show Below w.heap.size w wt from (bdrew (Below.refl _ w)).trans hb)
       have c4 : wt.cell? ⟨q4, 0, none⟩ = some (.int .i64 n) := ((Only.of_below HB.out (fun _ => False)).cell HQ.out id).trans HC4.out
       clear hb))
  all_goals
    go_wp2
    go_ret
    exact ⟨rfl, HB.out⟩

set_option maxHeartbeats 8000000 in
set_option maxRecDepth 100000 in
theorem last1_unit (w : World) (M : Nat) (s : ByteArray) (X Y : Option Addr) (C D : Nat) (pl : List Pl) (fl : List Ln) (h : MpSt w M s X C Y D pl fl) (q5 q3 q4 n : Nat) (c5 : w.cell? ⟨q5, 0, none⟩ = some (.func (.func 32) #[] #[])) (c3 : w.cell? ⟨q3, 0, none⟩ = some (.pointer (some ⟨M, 0, none⟩))) (c4 : w.cell? ⟨q4, 0, none⟩ = some (.int .i64 n)) (hq4 : q4 < w.heap.size) (i : Nat) (hi : i < pl.length) :
    Calls Try.prog 34 #[.int .i64 i, .pointer (some ⟨q5, 0, none⟩), .pointer (some ⟨q3, 0, none⟩), .pointer (some ⟨q4, 0, none⟩)] w fun e w' => e = .returned (.bool (decide (n < pl[i].u))) ∧ Below w.heap.size w w' := by
  obtain ⟨b, o, rfl, hlt, p0, p1, p2, p3, p4⟩ := h.place hi
  have x1 : w.cell? ⟨M, 1, none⟩ = some (.slice (some ⟨b, o, none⟩) pl.length C) := h.blk.cell 1
  have HQ := Lib.hid hq4
  generalize pl[i] = p at *
  clear h hlt hq4
  obtain ⟨len, hlen⟩ : ∃ len, pl.length = len := ⟨_, rfl⟩
  rw [hlen] at hi x1
  have HC4 := Lib.hid c4
  clear hlen
  go_enter Try.func34, Try.ntmps34
  go_upto_region 1 with (fail)
  go_region_law (first
    | (go_simp
       go_at_call 32
       refine (unit1_any p _).mono ?_
       rintro e wt ⟨rfl, hb⟩
       have HB : Hid (Below w.heap.size w wt) := Lib.hid (show Below w.heap.size w wt from (bdrew (Below.refl _ w)).trans hb)
       have c4 : wt.cell? ⟨q4, 0, none⟩ = some (.int .i64 n) := ((Only.of_below HB.out (fun _ => False)).cell HQ.out id).trans HC4.out
       clear hb))
  all_goals
    go_wp2
    go_ret
    exact ⟨rfl, HB.out⟩
end Go.Proofs.Ytialpfmaekagjaa
