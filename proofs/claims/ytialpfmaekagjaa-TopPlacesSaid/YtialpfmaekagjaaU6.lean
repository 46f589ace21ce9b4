/- TopPlaces: the whole law: true. -/
import Derived.Test.YtialpfmaekagjaaU5
namespace Go.Proofs.Ytialpfmaekagjaa
open Go.RowKit

set_option maxHeartbeats 8000000 in
set_option maxRecDepth 100000 in
theorem top_long (s : ByteArray) (hs : 65536 < s.size) (at_ : Int) (w : World) :
    Calls Try.prog 3 #[.string s, .int .i64 at_] w fun e w' => e = .returned (.bool true) ∧ Below w.heap.size w w' := by
  have hd0 : decide ((65536 : Int) < (s.size : Int)) = true := decide_eq_true (by omega)
  have HS := Lib.hid hs
  clear hs
  go_enter Try.func3, Try.ntmps3
  go_wp2_with fail
  refine (wakes_any _).mono ?_
  rintro e w1 ⟨rfl, hb⟩
  have HB1 := Lib.hid hb
  clear hb
  go_wp2_with fail
  refine (new_long s HS.out _).mono ?_
  rintro e w2 ⟨rfl, ew⟩
  subst w2
  go_wp2
  go_ret
  exact ⟨rfl, HB1.out⟩
theorem topPlaces_any (s : ByteArray) (at_ : Int) (w : World) :
    Calls Try.prog 3 #[.string s, .int .i64 at_] w fun e w' => e = .returned (.bool true) ∧ Below w.heap.size w w' := by
  rcases Nat.lt_or_ge 65536 s.size with h | h
  · exact top_long s h at_ w
  · exact top_short s h at_ w
end Go.Proofs.Ytialpfmaekagjaa
