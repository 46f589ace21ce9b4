import Derived.Test.YtbjfbmienlojkaaT3
namespace Go.Proofs.Ytbjfbmienlojkaa
open Go.RowKit

set_option maxHeartbeats 400000 in
theorem at_any (p q : Nat) (s t : ByteArray) (w : World) (hp : w.cell? ⟨p, 0, none⟩ = some (.string s)) (hq : w.cell? ⟨q, 0, none⟩ = some (.string t)) (h1 : t.size ≤ s.size) (h2 : s.size ≤ 65536) :
    Calls Try.prog 53 #[.pointer (some ⟨p, 0, none⟩), .pointer (some ⟨q, 0, none⟩)] w fun e w' => e = .returned (.int .i64 (s.size - t.size)) ∧ w = w' := by
  go_enter Try.func53, Try.ntmps53
  go_wp2
  go_ret
  exact ⟨rfl, rfl⟩

end Go.Proofs.Ytbjfbmienlojkaa
