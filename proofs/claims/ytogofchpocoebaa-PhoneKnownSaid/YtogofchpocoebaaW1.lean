/- strings.ContainsRune of a rune of two bytes in an ASCII text. -/
import Derived.Test.YtogofchpocoebaaS2
import Derived.WalkMore
import Derived.BigQuiet
namespace Go.Proofs.Ytogofchpocoebaa
open Go.RowKit Go.Maps
attribute [local go_sem] Oper.semAt_some

theorem enc2 {r : Int} (h1 : 128 ≤ r) (h2 : r < 2048) : ∃ b0 b1 : UInt8, Utf8.encode r = ⟨#[b0, b1]⟩ ∧ 128 ≤ b1.toNat := by
  refine ⟨UInt8.ofNat (0xC0 + r.toNat / 64), UInt8.ofNat (0x80 + r.toNat % 64), ?_, ?_⟩
  · unfold Utf8.encode
    have hv : Utf8.valid r = true := by unfold Utf8.valid; simp; omega
    simp only [hv, if_true]
    rw [if_neg (by omega), if_pos (by omega)]
  · rw [UInt8.toNat_ofNat']
    omega
theorem no_byte {c : UInt8} (hc : 128 ≤ c.toNat) : ∀ l : List UInt8, (∀ b ∈ l, b.toNat < 128) → Lib.indexByte l c = -1 := by
  intro l
  induction l with
  | nil => intro _; rfl
  | cons b l ih =>
    intro h
    have hb := h b (by simp)
    have hne : (b == c) = false := beq_eq_false_iff_ne.2 (fun e => by subst e; omega)
    unfold Lib.indexByte
    rw [hne, ih (fun x hx => h x (by simp [hx]))]
    rfl
set_option maxHeartbeats 4000000 in
set_option maxRecDepth 100000 in
theorem indexRune_two (s : ByteArray) (r : Int) (h1 : 128 ≤ r) (h2 : r < 2048) (hs : ∀ b ∈ s.data.toList, b.toNat < 128) (w : World) :
    Calls Try.prog 164 #[.string s, .int .i32 r] w fun e w' => e = .returned (.int .i64 (-1)) ∧ Below w.heap.size w w' := by
  have d1 : decide ((0 : Int) ≤ r) = true := decide_eq_true (by omega)
  have d2 : decide (r < 128) = false := decide_eq_false (by omega)
  have d3 : (r == 65533) = false := beq_eq_false_iff_ne.2 (by omega)
  have d4 : ¬ r < 0 := by omega
  have wf : ∀ k, Fence.wide.fn k := fun _ => trivial
  have wd : Fence.wide.depth = none := rfl
  go_enter Try.func164, Try.ntmps164
  go_wp2_with fail
  refine (Try.utf8_ValidRune r w).mono ?_
  rintro e w1 ⟨rfl, rfl⟩
  have hv : Lib.validRune r = true := by unfold Lib.validRune; simp; omega
  rw [hv]
  clear hv
  obtain ⟨b0, b1, he, hb1⟩ := enc2 h1 h2
  have hsz : (Utf8.encode r).size = 2 := by rw [he]; rfl
  have hget : ∀ h : 1 < (Utf8.encode r).size, (Utf8.encode r)[1]'h = b1 := by rw [he]; intro h; rfl
  clear he
  generalize hce : Utf8.encode r = c at *
  have hw : wrap64 (((2 : Nat) : Int) - 1) = 1 := by kernel_rfl
  go_wp2
  refine wp_scope_straight ?_
  go_wp2
  go_loopw [9, 10] (fun v9 v10 wr => v9 = .int .i64 1 ∧ v10 = .int .i64 0 ∧ wr = w1) (fun _ _ _ => 0)
  case atStart => exact ⟨by go_num, rfl, rfl⟩
  case round =>
    obtain ⟨rfl, rfl, rfl⟩ := hrel
    by_cases hl : 1 < s.size
    · have dl : decide ((1 : Int) < (s.size : Int)) = true := by simp; omega
      go_wp2
      have j2 : (1 : Int) < (s.size : Int) := by omega
      have hc1 : 1 < c.size := by omega
      have q1 : (s[1]'hl).toNat < 128 := hs _ (by
        show s.data[1]'hl ∈ s.data.toList
        exact Array.getElem_mem_toList hl)
      have hne : (((s[1]'hl).toNat : Int) != ((c[1]'hc1).toNat : Int)) = true := by
        rw [hget hc1]
        exact bne_iff_ne.2 (by omega)
      have HSS := Lib.hid hs
      have HG := Lib.hid (hget hc1)
      have j3 : (2 : Int) ≤ (s.size : Int) := by omega
      have HIB := Lib.hid (show Lib.indexByte (s.extract 2 s.size).data.toList ((c[1]'hc1).toNat : Int).toNat.toUInt8 = -1 by
        refine no_byte ?_ _ (fun b hb => hs b ?_)
        · rw [hget hc1, Int.toNat_natCast]
          show 128 ≤ (UInt8.ofNat b1.toNat).toNat
          rw [UInt8.ofNat_toNat]
          exact hb1
        · rw [ByteArray.data_extract, Array.toList_extract] at hb
          exact List.mem_of_mem_drop (List.mem_of_mem_take hb))
      clear hs hget
      first | refine wp_scope_straight ?_ | go_step3 | go_step
      go_wp2
      go_quiet (fail)
      go_wp2_with fail
      refine wp_bel (by kernel_rfl) (by kernel_rfl) ?_
      repeat (gi_big_quiet_step (fail))
      gi_big_quiet_want
      gi_big_quiet_op
      refine ⟨.int .i64 (-1), fun z => ?_, ?_⟩
      · refine callsIn_wide.2 ((Try.strings_IndexByte (s.extract 2 s.size) _ z.1).mono (fun e w' h => ⟨h.1.trans (congrArg (fun v => Ending.returned (Value.int .i64 v)) (HIB.out)), by rw [h.2]; exact z.next (Below.refl _ _)⟩))
      go_big_quiet_on
      repeat (gi_big_quiet_step (fail))
      refine wpQuietIn_nil ?_
      intro _ hw'
      obtain ⟨zW, hw''⟩ := hw'
      subst hw''
      have HZ := Lib.hid zW.2
      generalize zW.1 = wz at *
      go_wp2
      repeat (first | rw [Exit.noGoto_ret] | (simp only [Exit.inBlock]))
      dsimp +zetaDelta only
      repeat (first | rw [Exit.noGoto_ret] | (simp only [Exit.inBlock, Exit.then]))
      go_ret
      exact ⟨rfl, (bdrawn (Below.refl wr.heap.size wr) _).trans (HZ.out.mono (Nat.le_refl _))⟩
    · have dl : decide ((1 : Int) < (s.size : Int)) = false := by simp; omega
      go_wp2
      rw [Exit.noGoto_ret]
      go_ret
      exact ⟨rfl, Below.refl _ _⟩
theorem containsRune_two (s : ByteArray) (r : Int) (h1 : 128 ≤ r) (h2 : r < 2048) (hs : ∀ b ∈ s.data.toList, b.toNat < 128) (w : World) :
    Calls Try.prog 143 #[.string s, .int .i32 r] w fun e w' => e = .returned (.bool false) ∧ Below w.heap.size w w' := by
  have HS := Lib.hid hs
  clear hs
  go_enter Try.func143, Try.ntmps143
  go_wp2_with fail
  refine (indexRune_two s r h1 h2 HS.out w).mono ?_
  rintro e w1 ⟨rfl, hb⟩
  have H1 := Lib.hid hb
  clear hb
  go_wp2
  go_ret
  exact ⟨rfl, H1.out⟩
end Go.Proofs.Ytogofchpocoebaa
