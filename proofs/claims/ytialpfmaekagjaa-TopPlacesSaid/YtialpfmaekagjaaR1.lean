/- runes: Width, read, Pieces, At, Count. -/
import Derived.Test.YtialpfmaekagjaaT0
import Derived.BigQuiet
namespace Go.Proofs.Ytialpfmaekagjaa
open Go.RowKit

/-- how many bytes a rune's form has -/
def widF (r : Int) : Nat := if (r != 65533) && ((Utf8.encode r).toList == [239, 191, 189]) then 0 else (Utf8.encode r).size
theorem width_any (r : Int) (w : World) : Calls Try.prog 36 #[.int .i32 r] w fun e w' => e = .returned (.int .i64 (widF r)) ∧ w' = w := by
  have HV := Lib.hid (show widF r = if (r != 65533) && ((Utf8.encode r).toList == [239, 191, 189]) then 0 else (Utf8.encode r).size from rfl)
  cases h1 : (r != 65533) with
  | false =>
    obtain rfl : r = 65533 := by simpa using h1
    clear h1
    rw [show widF 65533 = 3 from by decide +kernel]
    clear HV
    go_enter Try.func36, Try.ntmps36
    go_wp2
    go_ret
    exact ⟨by rw [show (Utf8.encode 65533).size = 3 from by decide +kernel]; rfl, rfl⟩
  | true =>
    have hn : ¬ r = 65533 := by simpa using h1
    cases h2 : ((Utf8.encode r).toList == [239, 191, 189]) with
    | true =>
      rw [h1, h2] at HV
      go_enter Try.func36, Try.ntmps36
      go_wp2
      go_ret
      exact ⟨by rw [HV.out]; rfl, rfl⟩
    | false =>
      rw [h1, h2] at HV
      go_enter Try.func36, Try.ntmps36
      go_wp2
      go_ret
      exact ⟨by rw [HV.out]; rfl, rfl⟩

/-- a piece: its place, its bytes, its rune, whether it is broken -/
abbrev Pc : Type := Int × Int × Int × Bool
def pcV (p : Pc) : Value := .agg #[.int .i64 p.1, .int .i64 p.2.1, .int .i32 p.2.2.1, .bool p.2.2.2]
def pcC (p : Pc) : Array Value := #[.int .i64 p.1, .int .i64 p.2.1, .int .i32 p.2.2.1, .bool p.2.2.2]
def readF (s : ByteArray) (k : Nat) : Pc :=
  let r : Int := ((Utf8.decode (s.extract k s.size) 0).1 : Int)
  if (r == 65533) && (decide (s.size < k + 3) || !((s.extract k (k + 3)).toList == [239, 191, 189])) then (k, 1, 65533, true) else (k, widF r, r, false)

set_option maxHeartbeats 1000000 in
theorem read_any (s : ByteArray) (k : Nat) (hk : k < s.size) (hs : s.size ≤ 70000) (w : World) : Calls Try.prog 25 #[.string s, .int .i64 k] w fun e w' => e = .returned (pcV (readF s k)) ∧ Below w.heap.size w w' := by
  have HV := Lib.hid (show readF s k = if (((Utf8.decode (s.extract k s.size) 0).1 : Int) == 65533) && (decide (s.size < k + 3) || !((s.extract k (k + 3)).toList == [239, 191, 189])) then ((k : Int), 1, 65533, true) else ((k : Int), (widF ((Utf8.decode (s.extract k s.size) 0).1 : Int) : Int), ((Utf8.decode (s.extract k s.size) 0).1 : Int), false) from rfl)
  have ht : 0 < (s.extract k s.size).size := by simp; omega
  go_enter Try.func25, Try.ntmps25
  go_wp2
  generalize hT : s.extract k s.size = T at *
  go_loopw [6] (fun _ wr => wr = (w.alloc (.cells #[.int .i64 0, .int .i64 0, .int .i32 0, .bool false] 33)).iter T 0) (fun _ _ => 0)
  case atStart => rfl
  case round =>
    subst hrel
    have hit : ((w.alloc (.cells #[.int .i64 0, .int .i64 0, .int .i32 0, .bool false] 33)).iter T 0).heap[w.heap.size + 1]? = some (.stringIter T 0) := by have := World.iter_heap (w.alloc (.cells #[.int .i64 0, .int .i64 0, .int .i32 0, .bool false] 33)) T 0; simpa using this
    have hnx : ∀ ty, (Instr.next (.pointer (some ⟨w.heap.size + 1, 0, none⟩)) true ty).run Try.prog ((w.alloc (.cells #[.int .i64 0, .int .i64 0, .int .i32 0, .bool false] 33)).iter T 0) = _ := fun ty => Lib.run_next_any_at _ (w.heap.size + 1) T 0 ty hit ht
    generalize hr : (Utf8.decode T 0).1 = r at *
    generalize (Utf8.decode T 0).2 = dw at *
    clear hT ht hr
    go_upto_region 4 with (fail)
    refine wp_abs (fun wx => Below w.heap.size w wx ∧ Blk wx w.heap.size 33 #[.int .i64 0, .int .i64 0, .int .i32 0, .bool false]) ⟨?_, ?_⟩ ?_
    · exact (((Below.refl _ w).alloc (Nat.le_refl _) _).trans ((iter_below _ _ _).mono (by simp))).trans ((Only.iterAt (S := fun b => b = w.heap.size + 1) (Only.refl _ _) (.inl rfl) T _).below (by simp [World.iter]; omega) (fun b hb e => by omega))
    · exact ((Blk.new w 33 _).iter T 0).iterAt (by omega) T _
    clear hit hnx
    rintro wx ⟨hb, hblk⟩
    have c0 : wx.cell? ⟨w.heap.size, 0, none⟩ = some (.int .i64 0) := hblk.cell 0
    have c1 : wx.cell? ⟨w.heap.size, 1, none⟩ = some (.int .i64 0) := hblk.cell 1
    have c2 : wx.cell? ⟨w.heap.size, 2, none⟩ = some (.int .i32 0) := hblk.cell 2
    have c3 : wx.cell? ⟨w.heap.size, 3, none⟩ = some (.bool false) := hblk.cell 3
    have f0 : wx.frozen? ⟨w.heap.size, 0, none⟩ = false := hblk.frozen 0
    have f1 : wx.frozen? ⟨w.heap.size, 1, none⟩ = false := hblk.frozen 1
    have f2 : wx.frozen? ⟨w.heap.size, 2, none⟩ = false := hblk.frozen 2
    have f3 : wx.frozen? ⟨w.heap.size, 3, none⟩ = false := hblk.frozen 3
    have HX := Lib.hid (And.intro hb hblk)
    clear hb hblk
    go_wp2_with fail
    refine (width_any (r : Int) _).mono ?_
    rintro e w' ⟨rfl, ew⟩
    subst ew
    cases h1 : ((r : Int) == 65533) with
    | false =>
      rw [h1] at HV
      go_wp2
      refine bodyPost_ret (v := pcV (readF s k)) ?_ rfl ⟨rfl, ?_⟩
      · rw [HV.out]
        simp [results, Try.results25, go_sem, pcV, *]
      · exact (HX.out.1.setCell (by simp) _).setCell (by simp) _ |>.setCell (by simp) _ |>.setCell (by simp) _
    | true =>
      rw [h1] at HV
      have hsub : IntKind.i64.wrap ((s.size : Int) - (k : Int)) = ((s.size - k : Nat) : Int) := by rw [IntWalk.i64_in _ (by omega)]; omega
      cases h2 : decide (s.size < k + 3) with
      | true =>
        rw [h2] at HV
        have h2a : decide (((s.size - k : Nat) : Int) < 3) = true := by simp at h2 ⊢; omega
        go_wp2
        refine bodyPost_ret (v := pcV (readF s k)) ?_ rfl ⟨rfl, ?_⟩
        · rw [HV.out]
          simp [results, Try.results25, go_sem, pcV, *]
        · exact (HX.out.1.setCell (by simp) _).setCell (by simp) _ |>.setCell (by simp) _ |>.setCell (by simp) _
      | false =>
        rw [h2] at HV
        have h2a : decide (((s.size - k : Nat) : Int) < 3) = false := by simp at h2 ⊢; omega
        have h2b : (0 : Int) ≤ (k : Int) + 3 ∧ (k : Int) + 3 ≤ (s.size : Int) := by simp at h2; omega
        have h2c : k + 3 ≤ s.size := by simp at h2; omega
        clear h2
        cases h3 : ((s.extract k (k + 3)).toList == [239, 191, 189]) with
        | true =>
          rw [h3] at HV
          go_wp2
          refine bodyPost_ret (v := pcV (readF s k)) ?_ rfl ⟨rfl, ?_⟩
          · rw [HV.out]
            simp [results, Try.results25, go_sem, pcV, *]
          · exact (HX.out.1.setCell (by simp) _).setCell (by simp) _ |>.setCell (by simp) _ |>.setCell (by simp) _
        | false =>
          rw [h3] at HV
          go_wp2
          refine bodyPost_ret (v := pcV (readF s k)) ?_ rfl ⟨rfl, ?_⟩
          · rw [HV.out]
            simp [results, Try.results25, go_sem, pcV, *]
          · exact (HX.out.1.setCell (by simp) _).setCell (by simp) _ |>.setCell (by simp) _ |>.setCell (by simp) _
end Go.Proofs.Ytialpfmaekagjaa
