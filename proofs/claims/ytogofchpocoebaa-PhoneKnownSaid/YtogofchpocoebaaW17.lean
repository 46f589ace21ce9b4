/- The law SyllableBack, walked. -/
import Derived.Test.YtogofchpocoebaaU1
import Derived.Test.YtogofchpocoebaaW10
import Derived.Test.YtogofchpocoebaaW11
import Derived.Test.YtogofchpocoebaaW13
namespace Go.Proofs.Ytogofchpocoebaa
open Go.RowKit Go.Maps

/-- memory while the law SyllableBack runs: its arguments -/
structure SbSt (w0 : World) (A D : Option Addr) (n m : Nat) (l : List Ph) (ss : List Sy) (W : World) : Prop where
  below : Below w0.heap.size w0 W
  r0 : Rd W 0 W.heap.size 3 A n (phs l)
  r1 : Rd W 0 W.heap.size 5 D m (sys ss)
theorem SbSt.on {w0 : World} {A D : Option Addr} {n m : Nat} {l : List Ph} {ss : List Sy} {W W' : World} (h : SbSt w0 A D n m l ss W) (hb : Below W.heap.size W W') : SbSt w0 A D n m l ss W' :=
  ⟨h.below.trans (hb.mono h.below.size), h.r0.up hb hb.size, h.r1.up hb hb.size⟩
theorem may_fit {l : List Ph} {ss : List Sy} (h : mayF l ss = 0) : (∀ p ∈ l, fitP p) ∧ l.length ≤ 128 ∧ ss.length ≤ 64 := by
  unfold mayF at h
  split at h
  · cases h
  · rename_i h1
    split at h
    · rename_i h2
      exact ⟨all_fit h2, by omega, by omega⟩
    · cases h
theorem spT_len {l : List Ph} {ss : List Sy} : (spT l ss).length ≤ 60000 := by
  unfold spT
  split
  · rename_i h
    have h0 := h
    unfold mayF at h
    split at h
    · cases h
    · rename_i h1
      split at h
      · rename_i h2
        have := spGo_le h2 ss 0
        have a1 : l.length ≤ 128 := by omega
        have a2 : ss.length ≤ 64 := by omega
        have a3 : ss.length * (2 + 7 * l.length) ≤ 64 * (2 + 7 * 128) := Nat.mul_le_mul a2 (by omega)
        omega
      · cases h
  · simp

set_option maxHeartbeats 16000000 in
set_option maxRecDepth 100000 in
theorem syllableBack_any (A D : Option Addr) (n c m d : Nat) (l : List Ph) (ss : List Sy) (s : ByteArray) (w : World) (h : Rd w 0 w.heap.size 3 A n (phs l)) (h2 : Rd w 0 w.heap.size 5 D m (sys ss)) (hf : ∀ p ∈ l, fitP p) (hnc : n ≤ c) (hs : s.size ≤ maxLen) (hn : n ≤ maxLen) (hm : m ≤ maxLen) :
    Calls Try.prog 22 #[.slice A n c, .slice D m d, .string s] w fun e w' => e = .returned (.bool true) ∧ Below w.heap.size w w' := by
  have HF := Lib.hid hf
  have HL := Lib.hid (And.intro h.len_ph h2.len_sy)
  have H0 := Lib.hid (SbSt.mk (Below.refl w.heap.size w) h h2)
  clear hf h h2
  go_enter Try.func22, Try.ntmps22
  go_wp2_with fail
  refine (works11_any _).mono ?_
  rintro e w1 ⟨rfl, hb⟩
  have H1 := Lib.hid (H0.out.on hb)
  clear hb H0
  go_wp2_with fail
  refine (sprint_any A D n c m d 0 _ 0 _ l ss _ H1.out.r0 H1.out.r1 (Nat.le_refl _) (Nat.le_refl _) hnc HF.out).mono ?_
  rintro e w2 ⟨rfl, hb⟩
  have H2 := Lib.hid (H1.out.on hb)
  clear hb H1
  by_cases hM : mayF l ss = 0
  · have hsr := sr_sp hM
    have hsp : spT l ss = spGo l 0 ss := if_pos hM
    have HT := Lib.hid (show (bts (spT l ss)).size ≤ maxLen by rw [bts_size]; have := spT_len (l := l) (ss := ss); unfold maxLen; omega)
    rw [← hsp] at hsr
    rw [hM]
    have HSR := Lib.hid (show srL (bts (spT l ss)).data.toList = (l, ss, 0, 0) from hsr)
    clear hsr hsp
    generalize bts (spT l ss) = T at *
    clear hM
    go_wp2_with fail
    refine (sread_any T _ HT.out).mono ?_
    rintro e w3 ⟨v0, v1, rfl, h0, h1, hb⟩
    rw [HSR.out] at h0 h1 ⊢
    obtain ⟨A3, c3, rfl⟩ := own_slice h0
    obtain ⟨D3, d3, rfl⟩ := own_slice h1
    dsimp only at h0 h1 ⊢
    rw [HL.out.1] at h0 ⊢
    rw [HL.out.2] at h1 ⊢
    have H3 := Lib.hid (And.intro (H2.out.on hb) (And.intro ((own_rd h0).more (Nat.zero_le _) (Nat.le_refl _)) ((own_rd h1).more (Nat.zero_le _) (Nat.le_refl _))))
    clear hb H2 h0 h1
    have h4 : Below w3.heap.size w3 (w3.alloc (.cells #[.int .i64 0, .int .i64 0] 68)) := (Below.refl _ _).alloc (Nat.le_refl _) _
    have xh4 := h4.size
    have H4 := Lib.hid (And.intro (H3.out.1.on h4) (And.intro (H3.out.2.1.up h4 xh4) (H3.out.2.2.up h4 xh4)))
    clear h4 H3
    go_wp2_with fail
    refine (equalH_any A3 A n c3 n c 0 0 _ _ l l _ H4.out.2.1 H4.out.1.r0 hn hn (Nat.le_refl _) (Nat.le_refl _)).mono ?_
    rintro e w5 ⟨rfl, hb⟩
    rw [decide_eq_true (rfl : l = l)]
    have H5 := Lib.hid (And.intro (H4.out.1.on hb) (H4.out.2.2.up hb hb.size))
    clear hb H4
    go_wp2_with fail
    refine (equalS_any D3 D m d3 m d 0 0 _ _ ss ss _ H5.out.2 H5.out.1.r1 hm hm (Nat.le_refl _) (Nat.le_refl _)).mono ?_
    rintro e w6 ⟨rfl, hb⟩
    rw [decide_eq_true (rfl : ss = ss)]
    have H6 := Lib.hid (H5.out.1.on hb).below
    clear hb H5 HT HSR
    obtain ⟨m2, hm2⟩ : ∃ m2, (srL s.data.toList).1 = m2 := ⟨_, rfl⟩
    obtain ⟨s2, hs2⟩ : ∃ s2, (srL s.data.toList).2.1 = s2 := ⟨_, rfl⟩
    obtain ⟨E, hE⟩ : ∃ E, (srL s.data.toList).2.2.1 = E := ⟨_, rfl⟩
    obtain ⟨X, hX⟩ : ∃ X, (srL s.data.toList).2.2.2 = X := ⟨_, rfl⟩
    have HSR := Lib.hid (show srL s.data.toList = (m2, s2, E, X) by rw [← hm2, ← hs2, ← hE, ← hX])
    go_wp2_with fail
    refine (sread_any s _ hs).mono ?_
    rintro e w7 ⟨v0, v1, rfl, h0, h1, hb⟩
    rw [hm2] at h0
    rw [hs2] at h1
    rw [hE, hX]
    clear hm2 hs2 hE hX
    obtain ⟨A7, c7, rfl⟩ := own_slice h0
    obtain ⟨D7, d7, rfl⟩ := own_slice h1
    have H7 := Lib.hid (And.intro (H6.out.trans (hb.mono H6.out.size)) (And.intro ((own_rd h0).more (Nat.zero_le _) (Nat.le_refl _)) ((own_rd h1).more (Nat.zero_le _) (Nat.le_refl _))))
    have hcap := (own_cap h0).1
    clear hb H6 h0 h1
    by_cases hE : E = 0
    · subst hE
      obtain ⟨k1, k2, rfl⟩ := sr_ok HSR.out
      have hsp : spT m2 s2 = s.data.toList := by unfold spT; rw [if_pos k1]; exact k2
      have HK := Lib.hid (And.intro k1 hsp)
      clear k1 k2 hsp HSR
      have h8 : Below w7.heap.size w7 (w7.alloc (.cells #[.int .i64 0, .int .i64 0] 68)) := (Below.refl _ _).alloc (Nat.le_refl _) _
      have xh8 := h8.size
      have H8 := Lib.hid (And.intro (H7.out.1.trans (h8.mono H7.out.1.size)) (And.intro (H7.out.2.1.up h8 xh8) (H7.out.2.2.up h8 xh8)))
      clear h8 H7
      go_wp2_with fail
      refine (sprint_any A7 D7 _ c7 _ d7 0 _ 0 _ m2 s2 _ H8.out.2.1 H8.out.2.2 (Nat.le_refl _) (Nat.le_refl _) hcap (may_fit HK.out.1).1).mono ?_
      rintro e w9 ⟨rfl, hb⟩
      rw [HK.out.1, HK.out.2]
      have H9 := Lib.hid (And.intro (H8.out.1.trans (hb.mono H8.out.1.size)) (And.intro (H8.out.2.1.up hb hb.size) (H8.out.2.2.up hb hb.size)))
      clear hb H8
      have hbt : bts s.data.toList = s := rfl
      rw [hbt]
      clear hbt
      go_wp2_with fail
      refine (may_any A7 D7 _ c7 _ d7 0 _ 0 _ m2 s2 _ H9.out.2.1 H9.out.2.2 (Nat.le_refl _) (Nat.le_refl _) (may_fit HK.out.1).1).mono ?_
      rintro e w10 ⟨rfl, hb⟩
      rw [HK.out.1]
      have H10 := Lib.hid (H9.out.1.trans (hb.mono H9.out.1.size))
      clear hb H9
      go_wp2_with fail
      refine (works11_any _).mono ?_
      rintro e w11 ⟨rfl, hb⟩
      have H11 := Lib.hid (H10.out.trans (hb.mono H10.out.size))
      clear hb H10
      go_wp2
      go_ret
      exact ⟨rfl, H11.out⟩
    · have hEb : (E == 0) = false := beq_eq_false_iff_ne.2 hE
      clear HSR
      have h8 : Below w7.heap.size w7 (w7.alloc (.cells #[.int .i64 E, .int .i64 X] 68)) := (Below.refl _ _).alloc (Nat.le_refl _) _
      have xh8 := h8.size
      have H8 := Lib.hid (H7.out.1.trans (h8.mono H7.out.1.size))
      clear h8 H7 hE
      go_wp2_with fail
      refine (works11_any _).mono ?_
      rintro e w9 ⟨rfl, hb⟩
      have H9 := Lib.hid (H8.out.trans (hb.mono H8.out.size))
      clear hb H8
      go_wp2
      go_ret
      exact ⟨rfl, H9.out⟩
  · have hMb : (mayF l ss == 0) = false := beq_eq_false_iff_ne.2 hM
    have H6 := Lib.hid H2.out.below
    clear H2
    generalize mayF l ss = M at *
    clear hM
    generalize bts (spT l ss) = T at *
    obtain ⟨m2, hm2⟩ : ∃ m2, (srL s.data.toList).1 = m2 := ⟨_, rfl⟩
    obtain ⟨s2, hs2⟩ : ∃ s2, (srL s.data.toList).2.1 = s2 := ⟨_, rfl⟩
    obtain ⟨E, hE⟩ : ∃ E, (srL s.data.toList).2.2.1 = E := ⟨_, rfl⟩
    obtain ⟨X, hX⟩ : ∃ X, (srL s.data.toList).2.2.2 = X := ⟨_, rfl⟩
    have HSR := Lib.hid (show srL s.data.toList = (m2, s2, E, X) by rw [← hm2, ← hs2, ← hE, ← hX])
    go_wp2_with fail
    refine (sread_any s _ hs).mono ?_
    rintro e w7 ⟨v0, v1, rfl, h0, h1, hb⟩
    rw [hm2] at h0
    rw [hs2] at h1
    rw [hE, hX]
    clear hm2 hs2 hE hX
    obtain ⟨A7, c7, rfl⟩ := own_slice h0
    obtain ⟨D7, d7, rfl⟩ := own_slice h1
    have H7 := Lib.hid (And.intro (H6.out.trans (hb.mono H6.out.size)) (And.intro ((own_rd h0).more (Nat.zero_le _) (Nat.le_refl _)) ((own_rd h1).more (Nat.zero_le _) (Nat.le_refl _))))
    have hcap := (own_cap h0).1
    clear hb H6 h0 h1
    by_cases hE : E = 0
    · subst hE
      obtain ⟨k1, k2, rfl⟩ := sr_ok HSR.out
      have hsp : spT m2 s2 = s.data.toList := by unfold spT; rw [if_pos k1]; exact k2
      have HK := Lib.hid (And.intro k1 hsp)
      clear k1 k2 hsp HSR
      have h8 : Below w7.heap.size w7 (w7.alloc (.cells #[.int .i64 0, .int .i64 0] 68)) := (Below.refl _ _).alloc (Nat.le_refl _) _
      have xh8 := h8.size
      have H8 := Lib.hid (And.intro (H7.out.1.trans (h8.mono H7.out.1.size)) (And.intro (H7.out.2.1.up h8 xh8) (H7.out.2.2.up h8 xh8)))
      clear h8 H7
      go_wp2_with fail
      refine (sprint_any A7 D7 _ c7 _ d7 0 _ 0 _ m2 s2 _ H8.out.2.1 H8.out.2.2 (Nat.le_refl _) (Nat.le_refl _) hcap (may_fit HK.out.1).1).mono ?_
      rintro e w9 ⟨rfl, hb⟩
      rw [HK.out.1, HK.out.2]
      have H9 := Lib.hid (And.intro (H8.out.1.trans (hb.mono H8.out.1.size)) (And.intro (H8.out.2.1.up hb hb.size) (H8.out.2.2.up hb hb.size)))
      clear hb H8
      have hbt : bts s.data.toList = s := rfl
      rw [hbt]
      clear hbt
      go_wp2_with fail
      refine (may_any A7 D7 _ c7 _ d7 0 _ 0 _ m2 s2 _ H9.out.2.1 H9.out.2.2 (Nat.le_refl _) (Nat.le_refl _) (may_fit HK.out.1).1).mono ?_
      rintro e w10 ⟨rfl, hb⟩
      rw [HK.out.1]
      have H10 := Lib.hid (H9.out.1.trans (hb.mono H9.out.1.size))
      clear hb H9
      go_wp2_with fail
      refine (works11_any _).mono ?_
      rintro e w11 ⟨rfl, hb⟩
      have H11 := Lib.hid (H10.out.trans (hb.mono H10.out.size))
      clear hb H10
      go_wp2
      go_ret
      exact ⟨rfl, H11.out⟩
    · have hEb : (E == 0) = false := beq_eq_false_iff_ne.2 hE
      clear HSR
      have h8 : Below w7.heap.size w7 (w7.alloc (.cells #[.int .i64 E, .int .i64 X] 68)) := (Below.refl _ _).alloc (Nat.le_refl _) _
      have xh8 := h8.size
      have H8 := Lib.hid (H7.out.1.trans (h8.mono H7.out.1.size))
      clear h8 H7 hE
      go_wp2_with fail
      refine (works11_any _).mono ?_
      rintro e w9 ⟨rfl, hb⟩
      have H9 := Lib.hid (H8.out.trans (hb.mono H8.out.size))
      clear hb H8
      go_wp2
      go_ret
      exact ⟨rfl, H9.out⟩
end Go.Proofs.Ytogofchpocoebaa
