import Derived.Test.YtbjfbmienlojkaaT2
namespace Go.Proofs.Ytbjfbmienlojkaa
open Go.RowKit

/-- what 'take' takes off a text: the rune, and what is left -/
def tookR (s : ByteArray) : Int := if s.size = 0 then 0 else (Utf8.decode s 0).1
def tookS (s : ByteArray) : ByteArray := s.extract (Utf8.decode s 0).2 s.size

theorem extract_past (s : ByteArray) (a b : Nat) (h : s.size ≤ a) : s.extract a b = ⟨#[]⟩ := by
  apply ByteArray.ext
  rw [ByteArray.data_extract]
  apply Array.ext'
  simp
  omega

set_option maxHeartbeats 400000 in
theorem take_any (p q : Nat) (s : ByteArray) (r0 : Int) (w : World) (hp : Blk w p 9 #[.string s]) (hq : Blk w q 21 #[.int .i32 r0]) (hpq : p ≠ q) (hsz : s.size ≤ 65536) :
    Calls Try.prog 52 #[.pointer (some ⟨p, 0, none⟩), .pointer (some ⟨q, 0, none⟩)] w fun e w' =>
      e = .returned (.int .i32 (tookR s)) ∧ Blk w' p 9 #[.string (tookS s)] ∧ Blk w' q 21 #[.int .i32 (tookR s)] ∧ Only (fun k => k = p ∨ k = q) w w' := by
  have HP := Lib.hid hp
  have HQ := Lib.hid hq
  have lp := hp.lt
  have lq := hq.lt
  have npq' : q ≠ p := Ne.symm hpq
  have npq : (q = p) = False := by simp; omega
  have npI : p ≠ w.heap.size := by omega
  have nqI : q ≠ w.heap.size := by omega
  clear hp hq
  go_enter Try.func52, Try.ntmps52
  have hc0 : w.cell? ⟨p, 0, none⟩ = some (.string s) := HP.out.cell 0
  go_wp2
  refine wp_abs (fun w1 => Blk w1 p 9 #[.string s] ∧ Blk w1 q 21 #[.int .i32 r0] ∧ w1.heap[w.heap.size]? = some (.stringIter s 0) ∧ Only (fun k => k = p ∨ k = q) w w1) ⟨HP.out.iter _ _, HQ.out.iter _ _, World.iter_heap _ _ _, (Only.refl _ _).iter _ _⟩ ?_
  clear hc0
  rintro w1 ⟨hp1, hq1, hi1, ho1⟩
  have c1 : w1.cell? ⟨p, 0, none⟩ = some (.string s) := hp1.cell 0
  have c2 : w1.cell? ⟨q, 0, none⟩ = some (.int .i32 r0) := hq1.cell 0
  have f1 := hp1.frozen 0
  have f2 := hq1.frozen 0
  have H1 := Lib.hid (And.intro hp1 (And.intro hq1 hi1))
  clear hp1 hq1 hi1
  have j1 : ∀ x, (w1.iterAt w.heap.size s x).cell? ⟨p, 0, none⟩ = some (.string s) := fun x => (cell_iterAt w1 _ s x p 0 npI).trans c1
  have j2 : ∀ x, (w1.iterAt w.heap.size s x).cell? ⟨q, 0, none⟩ = some (.int .i32 r0) := fun x => (cell_iterAt w1 _ s x q 0 nqI).trans c2
  have j3 : ∀ x, (w1.iterAt w.heap.size s x).frozen? ⟨p, 0, none⟩ = false := fun x => (frozen_iterAt w1 _ s x p 0 npI).trans f1
  have j4 : ∀ x, (w1.iterAt w.heap.size s x).frozen? ⟨q, 0, none⟩ = false := fun x => (frozen_iterAt w1 _ s x q 0 nqI).trans f2
  by_cases h0 : 0 < s.size
  · have hl1 := (str_ne s h0).1
    have hl2 := (str_ne s h0).2
    have hr0 : tookR s = (Utf8.decode s 0).1 := by unfold tookR; rw [if_neg (by omega)]
    have hs0 : tookS s = s.extract (Utf8.decode s 0).2 s.size := rfl
    have hd1 : 1 ≤ (Utf8.decode s 0).2 := width_pos s 0 h0
    have hnx : ∀ ty, (Instr.next (.pointer (some ⟨w.heap.size, 0, none⟩)) true ty).run Try.prog w1 = _ := fun ty => Lib.run_next_any_at w1 w.heap.size s 0 ty H1.out.2.2 h0
    have HR0 := Lib.hid hr0
    have HS0 := Lib.hid hs0
    clear hr0 hs0
    generalize hd : (Utf8.decode s 0).2 = d at hnx HS0 hd1
    generalize hr : (Utf8.decode s 0).1 = r at hnx HR0
    have HD := Lib.hid hd
    have HR := Lib.hid hr
    clear hd hr
    simp only [Nat.zero_add] at hnx
    refine wp_loop_rounds 2 ?_
    rw [rounds_succ]
    go_wp2
    refine rounds_abs (fun w2 => Blk w2 p 9 #[.string s] ∧ Blk w2 q 21 #[.int .i32 r] ∧ w2.heap[w.heap.size]? = some (.stringIter s d) ∧ Only (fun k => k = p ∨ k = q) w w2)
      ⟨(H1.out.1.iterAt npI _ _).far (by simpa using Ne.symm npq') _, (H1.out.2.1.iterAt nqI _ _).set_ 0 _, (Below.heap_setCell _ _ _ _ (Ne.symm nqI)).trans (Lib.iterAt_heap _ _ _ _ _ H1.out.2.2), (ho1.iterAt (.inr (Nat.le_refl _)) _ _).setCell (.inl (.inr rfl)) _⟩ ?_
    clear hnx c1 c2 f1 f2 j1 j2 j3 j4
    rintro w2 ⟨hp2, hq2, hi2, ho2⟩
    have c1 : w2.cell? ⟨p, 0, none⟩ = some (.string s) := hp2.cell 0
    have c2 : w2.cell? ⟨q, 0, none⟩ = some (.int .i32 r) := hq2.cell 0
    have f1 := hp2.frozen 0
    have f2 := hq2.frozen 0
    have H2 := Lib.hid (And.intro hp2 (And.intro hq2 hi2))
    clear hp2 hq2 hi2
    have j1 : ∀ x, (w2.iterAt w.heap.size s x).cell? ⟨p, 0, none⟩ = some (.string s) := fun x => (cell_iterAt w2 _ s x p 0 npI).trans c1
    have j2 : ∀ x, (w2.iterAt w.heap.size s x).cell? ⟨q, 0, none⟩ = some (.int .i32 r) := fun x => (cell_iterAt w2 _ s x q 0 nqI).trans c2
    have j3 : ∀ x, (w2.iterAt w.heap.size s x).frozen? ⟨p, 0, none⟩ = false := fun x => (frozen_iterAt w2 _ s x p 0 npI).trans f1
    have j4 : ∀ x, (w2.iterAt w.heap.size s x).frozen? ⟨q, 0, none⟩ = false := fun x => (frozen_iterAt w2 _ s x q 0 nqI).trans f2
    by_cases h1 : d < s.size
    · have hnx : ∀ ty, (Instr.next (.pointer (some ⟨w.heap.size, 0, none⟩)) true ty).run Try.prog w2 = _ := fun ty => Lib.run_next_any_at w2 w.heap.size s d ty H2.out.2.2 h1
      have hdp : (0 : Int) < d := by omega
      rw [rounds_succ]
      go_wp2
      go_ret
      refine ⟨ret_int HR0.out.symm, ?_, ?_, (ho2.iterAt (.inr (Nat.le_refl _)) _ _).setCell (.inl (.inl rfl)) _⟩
      · rw [HS0.out]; exact (H2.out.1.iterAt npI _ _).set_ 0 _
      · rw [HR0.out]; exact (H2.out.2.1.iterAt nqI _ _).far npq' _
    · have hnx : ∀ ty, (Instr.next (.pointer (some ⟨w.heap.size, 0, none⟩)) true ty).run Try.prog w2 = _ := fun ty => Lib.run_next_end_at w2 w.heap.size s d ty H2.out.2.2 h1
      rw [rounds_succ]
      go_wp2
      go_ret
      refine ⟨ret_int HR0.out.symm, ?_, ?_, ho2.setCell (.inl (.inl rfl)) _⟩
      · rw [HS0.out, extract_past s d s.size (by omega)]; exact H2.out.1.set_ 0 _
      · rw [HR0.out]; exact H2.out.2.1.far npq' _
  · have hl1 := str_eq s (by omega)
    have hnx : ∀ ty, (Instr.next (.pointer (some ⟨w.heap.size, 0, none⟩)) true ty).run Try.prog w1 = _ := fun ty => Lib.run_next_end_at w1 w.heap.size s 0 ty H1.out.2.2 h0
    refine wp_loop_rounds 1 ?_
    rw [rounds_succ]
    go_wp2
    go_ret
    have e0 : tookR s = 0 := by unfold tookR; rw [if_pos (by omega)]
    have e1 : tookS s = ⟨#[]⟩ := extract_past s _ s.size (by omega)
    refine ⟨ret_int e0.symm, ?_, ?_, (ho1.setCell (.inl (.inr rfl)) _).setCell (.inl (.inl rfl)) _⟩
    · rw [e1]; exact (H1.out.1.far (p := ⟨q, 0, none⟩) hpq _).set_ 0 _
    · rw [e0]; exact (H1.out.2.1.set_ 0 _).far npq' _
end Go.Proofs.Ytbjfbmienlojkaa
