/- runes: the pieces, one behind another; Count, At. -/
import Derived.Test.YtialpfmaekagjaaR1
import Derived.Test.YtialpfmaekagjaaT0
import Derived.Test.YtialpfmaekagjaaD1
import Derived.Stop.RegionWithIn
import Derived.TacticsInMore
import Derived.Shelf.RegionOpen
import Derived.Deep.DeepMust
namespace Go.Proofs.Ytialpfmaekagjaa
open Go.RowKit
attribute [local go_sem] Oper.semAt_some

def pcsGo (s : ByteArray) : Nat → Nat → List Pc
  | 0, _ => []
  | f + 1, pos => if pos < s.size then readF s pos :: pcsGo s f (pos + (Utf8.decode s pos).2) else []
def pcs (s : ByteArray) : List Pc := pcsGo s (s.size + 1) 0
def pcA (l : List Pc) : List (Array Value) := l.map fun p => #[pcV p]
theorem pcsGo_end (s : ByteArray) (f pos : Nat) (h : ¬ pos < s.size) : pcsGo s f pos = [] := by
  cases f with
  | zero => rfl
  | succ f => unfold pcsGo; rw [if_neg h]
theorem pcsGo_more (s : ByteArray) (f pos : Nat) (h : pos < s.size) (hf : s.size - pos < f) : ∃ f', s.size - (pos + (Utf8.decode s pos).2) < f' ∧ pcsGo s f pos = readF s pos :: pcsGo s f' (pos + (Utf8.decode s pos).2) := by
  cases f with
  | zero => omega
  | succ f =>
    have := width_pos s pos h
    exact ⟨f, by omega, by conv => lhs; unfold pcsGo; rw [if_pos h]⟩

theorem pieces_call (s : ByteArray) (w : World) : Calls Try.prog 24 #[.string s] w fun e w' => e = .returned (.func (.func 35) #[] #[.pointer (some ⟨w.heap.size, 0, none⟩)]) ∧ w' = w.alloc (.cells #[.string s] 9) := by
  go_enter Try.func24, Try.ntmps24
  go_wp2
  go_ret
  exact ⟨rfl, rfl⟩
theorem iterPos_of {w : World} {b pos : Nat} {s : ByteArray} (h : w.heap[b]? = some (.stringIter s pos)) : w.iterPos b = pos := by unfold World.iterPos; rw [h]

set_option maxHeartbeats 4000000 in
theorem pieces_gives (s : ByteArray) (sb : Nat) (W : World) (hsb : Blk W sb 9 #[.string s]) (hz : s.size ≤ 70000) : GivesT Try.prog 35 #[.pointer (some ⟨sb, 0, none⟩)] (pcA (pcs s)) (fun b => b = sb) W := by
  intro l J hJ hY h0
  show Calls Try.prog 35 #[.func (.yield l) #[] #[], .pointer (some ⟨sb, 0, none⟩)] W _
  have HJ := Lib.hid (And.intro hJ h0)
  have HY := Lib.hid hY
  have HB := Lib.hid hsb
  have hlt := hsb.lt
  have hne : sb ≠ W.heap.size := by omega
  have cs0 : W.cell? ⟨sb, 0, none⟩ = some (.string s) := hsb.cell 0
  have HZ := Lib.hid hz
  clear hJ hY h0 hsb
  go_enter Try.func35, Try.ntmps35
  go_wp2
  go_loopw [3] (fun _ wr => ∃ (pos f : Nat) (S : Nat → Prop), pos ≤ s.size ∧ Hid (J (pcA (pcsGo s f pos)) S wr ∧ wr.heap[W.heap.size]? = some (.stringIter s pos) ∧ Blk wr sb 9 #[.string s] ∧ W.heap.size + 1 ≤ wr.heap.size ∧ s.size - pos < f ∧ (∀ b, S b → W.heap.size + 1 ≤ b ∧ b < wr.heap.size))) (fun _ w' => s.size - w'.iterPos W.heap.size)
  case atStart => exact ⟨0, s.size + 1, fun _ => False, by omega, Lib.hid ⟨HJ.out.1 _ _ _ _ HJ.out.2 (Only.of_below (iter_below _ _ _) _), World.iter_heap _ _ _, HB.out.iter _ _, by simp [World.iter], by omega, fun _ h => h.elim⟩⟩
  case round =>
    obtain ⟨pos, f, S, hpos, HR⟩ := hrel
    by_cases hp : pos < s.size
    · have hnx : ∀ ty, (Instr.next (.pointer (some ⟨W.heap.size, 0, none⟩)) true ty).run Try.prog wr = _ := fun ty => Lib.run_next_any_at wr W.heap.size s pos ty HR.out.2.1 hp
      obtain ⟨f', hf1, hf2⟩ := pcsGo_more s f pos hp HR.out.2.2.2.2.1
      have hd := decode_le s pos
      have hd2 := decode_fit s pos hp
      have hw1 := width_pos s pos hp
      generalize (Utf8.decode s pos).1 = r at *
      generalize (Utf8.decode s pos).2 = dw at *
      have hnS : ¬ S W.heap.size := fun h => by have := (HR.out.2.2.2.2.2 _ h).1; omega
      have hj : J (#[pcV (readF s pos)] :: pcA (pcsGo s f' (pos + dw))) S (wr.iterAt W.heap.size s (pos + dw)) := by
        have h := HJ.out.1 _ _ _ _ HR.out.1 (show Only (fun b => W.heap.size ≤ b ∧ ¬ S b) wr (wr.iterAt W.heap.size s (pos + dw)) from Only.iterAt (Only.refl _ wr) (.inl ⟨Nat.le_refl _, hnS⟩) s (pos + dw))
        rw [hf2] at h
        exact h
      have HS := Lib.hid (And.intro hj (And.intro (Lib.iterAt_heap wr W.heap.size s pos (pos + dw) HR.out.2.1) (And.intro (HR.out.2.2.1.iterAt hne s (pos + dw)) (And.intro (show W.heap.size + 1 ≤ (wr.iterAt W.heap.size s (pos + dw)).heap.size by rw [Lib.iterAt_size]; exact HR.out.2.2.2.1) (show ∀ b, S b → W.heap.size + 1 ≤ b ∧ b < (wr.iterAt W.heap.size s (pos + dw)).heap.size by rw [Lib.iterAt_size]; exact HR.out.2.2.2.2.2)))))
      have HF := Lib.hid hf1
      clear hj hf1 hf2 hnS
      go_upto_region 3 with (fail)
      refine wp_abs (fun wx => J (#[pcV (readF s pos)] :: pcA (pcsGo s f' (pos + dw))) S wx ∧ wx.heap[W.heap.size]? = some (.stringIter s (pos + dw)) ∧ Blk wx sb 9 #[.string s] ∧ W.heap.size + 1 ≤ wx.heap.size ∧ ∀ b, S b → W.heap.size + 1 ≤ b ∧ b < wx.heap.size) HS.out ?_
      clear hnx HS
      rintro wx ⟨hj, hi, hb, hsz⟩
      have cs : wx.cell? ⟨sb, 0, none⟩ = some (.string s) := hb.cell 0
      have HX := Lib.hid (And.intro hj (And.intro hi (And.intro hb hsz)))
      clear hj hi hb hsz
      refine (wpIn_wide (n := 0)).1 ?_
      have wf : ∀ k, Fence.wide.fn k := fun _ => trivial
      have wd : Fence.wide.depth = none := rfl
      gi_wp2_with fail
      refine callsIn_wide.2 ((read_any s pos hp HZ.out wx).mono ?_)
      rintro e w2 ⟨rfl, hb⟩
      have hSb : ∀ b, S b → W.heap.size + 1 ≤ b ∧ b < w2.heap.size := fun b h => ⟨(HX.out.2.2.2.2 b h).1, Nat.lt_of_lt_of_le (HX.out.2.2.2.2 b h).2 hb.size⟩
      have hY1 := HY.out _ _ S w2 (fun b h => by have := hSb b h; omega) (by have := HX.out.2.2.2.1; have := hb.size; omega) (HJ.out.1 _ _ _ _ HX.out.1 (Only.of_below hb _))
      have HW := Lib.hid (And.intro ((hb.block _ (Array.getElem?_eq_some_iff.1 HX.out.2.1).1).trans HX.out.2.1) (And.intro (HX.out.2.2.1.below hb HX.out.2.2.1.lt) (And.intro (Nat.le_trans HX.out.2.2.2.1 hb.size) hSb)))
      clear hb HX cs hSb
      obtain ⟨fn, tmps, assign, body, hy, hR⟩ := hY1
      have HRR := Lib.hid hR
      clear hR
      rw [show pcV (readF s pos) = .agg #[.int .i64 (readF s pos).1, .int .i64 (readF s pos).2.1, .int .i32 (readF s pos).2.2.1, .bool (readF s pos).2.2.2] from rfl] at *
      generalize readF s pos = p at *
      gi_wp2_with (with_reducible refine HRR.out.mono ?_)
      rintro e w3 ⟨rfl, S', hq, hS', ho⟩
      have HQ := Lib.hid (And.intro hq (And.intro ((ho.block _ (Array.getElem?_eq_some_iff.1 HW.out.1).1 (fun h => by rcases h with h | h; omega; have := HW.out.2.2.2 _ h; omega)).trans HW.out.1) (And.intro (HW.out.2.1.only ho (fun h => by rcases h with h | h; exact h.2 rfl; have := HW.out.2.2.2 _ h; omega)) (And.intro (Nat.le_trans HW.out.2.2.1 ho.size) (show ∀ b, S' b → W.heap.size + 1 ≤ b ∧ b < w3.heap.size from fun b h => by
        have := ho.size
        rcases hS' b h with h | h
        · have := HW.out.2.2.2 _ h; omega
        · have := HW.out.2.2.1; omega)))))
      clear hq ho HW HRR hy hS'
      gi_wp2
      go_wp2
      go_roundw
      case rel => exact ⟨pos + dw, f', S', by omega, Lib.hid ⟨HQ.out.1, HQ.out.2.1, HQ.out.2.2.1, HQ.out.2.2.2.1, HF.out, HQ.out.2.2.2.2⟩⟩
      case measure => exact Nat.lt_of_le_of_lt (Nat.le_of_eq (congrArg (s.size - ·) (iterPos_of HQ.out.2.1))) (by rw [iterPos_of HR.out.2.1]; omega)
    · have hdone : ∀ ty, (Instr.next (.pointer (some ⟨W.heap.size, 0, none⟩)) true ty).run Try.prog wr = _ := fun ty => Lib.run_next_end_at wr W.heap.size s pos ty HR.out.2.1 hp
      have he := pcsGo_end s f pos hp
      have HJ3 := Lib.hid (show J [] S wr by have h := HR.out.1; rw [he] at h; exact h)
      have HS3 := Lib.hid HR.out.2.2.2.2.2
      clear he HR
      go_wp2
      go_end0
      exact ⟨⟨_, rfl⟩, S, fun b h => by have := HS3.out b h; omega, HJ3.out⟩
end Go.Proofs.Ytialpfmaekagjaa
