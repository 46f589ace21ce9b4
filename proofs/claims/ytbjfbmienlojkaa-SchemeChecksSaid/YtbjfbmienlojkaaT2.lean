import Derived.Test.YtbjfbmienlojkaaChecked
import Derived.Test.YtbjfbmienlojkaaMem
namespace Go.Proofs.Ytbjfbmienlojkaa
open Go.RowKit

def placeF : List UInt8 → Int → Nat → Int
  | [], _, _ => -1
  | c :: t, r, i => if (c.toNat : Int) = r then i else placeF t r (i + 1)


set_option maxHeartbeats 400000 in
theorem place_any (s : ByteArray) (r : Int) (w : World) (hs : ∀ i, (h : i < s.size) → (s[i]'h).toNat < 128) (hz : s.size ≤ 1000) :
    Calls Try.prog 54 #[.string s, .int .i32 r] w fun e w' => e = .returned (.int .i64 (placeF s.data.toList r 0)) ∧ Below w.heap.size w w' := by
  go_enter Try.func54, Try.ntmps54
  go_wp2
  go_loopw [] (fun wr => ∃ pos : Nat, pos ≤ s.size ∧ wr = w.iter s pos ∧ Hid (placeF s.data.toList r 0 = placeF (s.data.toList.drop pos) r pos)) (fun w' => s.size - w'.iterPos w.heap.size)
  case atStart => exact ⟨0, by omega, rfl, rfl⟩
  case round =>
    obtain ⟨pos, hpos, rfl, H⟩ := hrel
    by_cases hp : pos < s.size
    · have hd : s.data.toList.drop pos = s[pos] :: s.data.toList.drop (pos + 1) := by
        rw [List.drop_eq_getElem_cons (by simpa using hp)]; rfl
      have HD := Lib.hid hd
      clear hd
      have hs1 := hs pos hp
      have hnx : ∀ ty, (Instr.next (.pointer (some ⟨w.heap.size, 0, none⟩)) true ty).run Try.prog (w.iter s pos) = _ := fun ty => run_next_ascii w s pos ty hp hs1
      go_wp2
      · go_ret
        have : (s[pos].toNat : Int) = r := beq_iff_eq.1 (by assumption)
        exact ⟨ret_int (by rw [H.out, HD.out]; simp [placeF, this]), iter_below _ _ _⟩
      · have : ¬ (s[pos].toNat : Int) = r := beq_eq_false_iff_ne.1 (by assumption)
        go_roundw
        case rel => exact ⟨pos + 1, by omega, rfl, by rw [H.out, HD.out, placeF, if_neg this]; rfl⟩
        case measure => simp; omega
    · have hnx : ∀ ty, (Instr.next (.pointer (some ⟨w.heap.size, 0, none⟩)) true ty).run Try.prog (w.iter s pos) = _ := fun ty => run_next_end w s pos ty hp
      have hd : s.data.toList.drop pos = [] := List.drop_of_length_le (by simp; omega)
      have HD := Lib.hid hd
      clear hd
      go_wp2
      go_ret
      exact ⟨ret_int (by rw [H.out, HD.out]; rfl), iter_below _ _ _⟩
end Go.Proofs.Ytbjfbmienlojkaa
