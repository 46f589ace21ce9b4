/- fold: letter, parted; Lower of small letters. -/
import Derived.Test.YtialpfmaekagjaaF2
import Derived.Test.YtialpfmaekagjaaR3
import Derived.Deep.DeepMust
import Derived.Laws.Cover4
namespace Go.Proofs.Ytialpfmaekagjaa
open Go.RowKit Go.Maps Go.WideMaps
attribute [local go_sem] Oper.semAt_some

theorem fletter_any (a b r : Int) (v1 v2 : Value) (k : IntKind) (_o1 : v1.oneCell' = true) (_o2 : v2.oneCell' = true) (w : World) (hr : 0 ≤ r) (hk : kindF r = 1) : Calls Try.prog 43 #[.agg #[.int .i64 a, .int k b, .int .i32 r, v1, v2]] w fun e w' => e = .returned (.bool true) ∧ Below w.heap.size w w' := by
  have h0 : decide (0 ≤ r) = true := by simpa using hr
  have HK := Lib.hid hk
  clear hk
  go_enter Try.func43, Try.ntmps43
  go_wp2_with fail
  refine (kind_any r _).mono ?_
  rintro e w' ⟨rfl, ew⟩
  subst ew
  rw [HK.out]
  go_wp2
  go_ret
  exact ⟨rfl, (Below.refl _ _).alloc (Nat.le_refl _) _⟩

set_option maxHeartbeats 1000000 in
theorem parted_free (sb n : Nat) (sm : Lit → Option Value) (r : Int) (w : World) (hm : MapV Try.prog w 21 sb sm n) (hr : 0 ≤ r ∧ r ≤ 2147483647) (hx : sm (.int .i32 r) = none) :
    Calls Try.prog 46 #[.map (some sb), .int .i32 r] w fun e w' => ∃ b, e = .returned (.slice (some ⟨b, 0, none⟩) 1 1) ∧ w.heap.size ≤ b ∧ Blk w' b 21 #[.int .i32 r] ∧ Below w.heap.size w w' := by
  have hz : (zeroValue 120).run Try.prog w = .ok (.agg #[.int .i32 0, .int .i32 0]) w := by kernel_rfl
  have hl := MapV.look_ok hm lawR Try.underlying101 hz (keyR hr)
  rw [hx] at hl
  have hl2 : (Instr.lookup 101 (.map (some sb)) (.int .i32 r) true).run Try.prog w = .ok (.tuple #[.agg #[.int .i32 0, .int .i32 0], .bool false]) w := hl
  clear hl hz hm hx
  go_enter Try.func46, Try.ntmps46
  go_wp2
  go_ret
  exact ⟨w.heap.size + 1, rfl, by omega, blk_new_eq (by simp), ((Below.refl _ w).alloc (Nat.le_refl _) _).alloc (by simp) _⟩

theorem lower_small (r : Int) (h : greatF r = false) (w : World) : Calls Try.prog 47 #[.int .i32 r] w fun e w' => e = .returned (.int .i32 r) ∧ w' = w := by
  have hc := great_any r w
  rw [h] at hc
  have HC := Lib.hid hc
  clear hc h
  go_enter Try.func47, Try.ntmps47
  go_wp2_with fail
  refine HC.out.mono ?_
  rintro e w' ⟨rfl, ew⟩
  subst ew
  go_wp2
  go_ret
  exact ⟨rfl, rfl⟩
set_option maxHeartbeats 2000000 in
theorem lower_S (w : World) : Calls Try.prog 47 #[.int .i32 83] w fun e w' => e = .returned (.int .i32 115) ∧ w' = w := by
  have hc := great_any 83 w
  rw [show greatF 83 = true from by decide +kernel] at hc
  have HC := Lib.hid hc
  clear hc
  go_enter Try.func47, Try.ntmps47
  go_wp2_with fail
  refine HC.out.mono ?_
  rintro e w' ⟨rfl, ew⟩
  subst ew
  go_wp2
  go_ret
  exact ⟨rfl, rfl⟩
def lowF (r : Int) : Int := if r == 83 then 115 else r
theorem lower_free (r : Int) (h : r ∈ freeR) (w : World) : Calls Try.prog 47 #[.int .i32 r] w fun e w' => e = .returned (.int .i32 (lowF r)) ∧ w' = w := by
  simp only [freeR, List.mem_cons, List.not_mem_nil, or_false] at h
  rcases h with rfl | rfl | rfl | rfl | rfl | rfl
  · exact lower_S w
  · exact lower_small 116 (by decide +kernel) w
  · exact lower_small 114 (by decide +kernel) w
  · exact lower_small 97 (by decide +kernel) w
  · exact lower_small 223 (by decide +kernel) w
  · exact lower_small 101 (by decide +kernel) w

theorem enc_size (r : Int) : (Utf8.encode r).size ≤ 4 := encode_size_le r

/-- which of the others' forms stands for a small letter: from where, to where -/
def plainGo (T : ByteArray) (sm : Int) : Nat → Nat → Int → Nat → Option (Nat × Nat)
  | 0, _, _, _ => none
  | f + 1, pos, fr, hd =>
    if pos < T.size then
      if ((Utf8.decode T pos).1 : Int) == 32 then (if decide (0 ≤ fr) then some (fr.toNat, pos) else plainGo T sm f (pos + (Utf8.decode T pos).2) fr 1)
      else if hd == 1 && ((Utf8.decode T pos).1 : Int) == sm then plainGo T sm f (pos + (Utf8.decode T pos).2) ((pos : Int) + (Utf8.encode ((Utf8.decode T pos).1 : Int)).size) 0
      else plainGo T sm f (pos + (Utf8.decode T pos).2) fr 0
    else none
theorem plainGo_end (T : ByteArray) (sm : Int) (f pos : Nat) (fr : Int) (hd : Nat) (h : ¬ pos < T.size) : plainGo T sm f pos fr hd = none := by
  cases f with
  | zero => rfl
  | succ f => unfold plainGo; rw [if_neg h]
theorem plainGo_more (T : ByteArray) (sm : Int) (f pos : Nat) (fr : Int) (hd : Nat) (h : pos < T.size) (hf : T.size - pos < f) : ∃ f', T.size - (pos + (Utf8.decode T pos).2) < f' ∧ plainGo T sm f pos fr hd =
    if ((Utf8.decode T pos).1 : Int) == 32 then (if decide (0 ≤ fr) then some (fr.toNat, pos) else plainGo T sm f' (pos + (Utf8.decode T pos).2) fr 1)
      else if hd == 1 && ((Utf8.decode T pos).1 : Int) == sm then plainGo T sm f' (pos + (Utf8.decode T pos).2) ((pos : Int) + (Utf8.encode ((Utf8.decode T pos).1 : Int)).size) 0
      else plainGo T sm f' (pos + (Utf8.decode T pos).2) fr 0 := by
  cases f with
  | zero => omega
  | succ f =>
    have := width_pos T pos h
    exact ⟨f, by omega, by conv => lhs; unfold plainGo; rw [if_pos h]⟩
def plainR (r : Int) : Option (Nat × Nat) := plainGo othersB (lowF r) (othersB.size + 1) 0 (-1) 1
def plainF (r : Int) : ByteArray := match plainR r with | some (a, b) => othersB.extract a b | none => Utf8.encode (lowF r)
theorem plainR_eq : (freeR.map plainR) = [none, none, none, none, some (2, 4), none] := by decide +kernel

set_option maxRecDepth 100000 in
set_option maxHeartbeats 8000000 in
theorem plain_any (a r : Int) (w : World) (h : r ∈ freeR) : Calls Try.prog 30 #[.agg #[.int .i64 a, .int .u8 0, .int .i32 r, .slice none 0 0, .slice none 0 0]] w fun e w' => e = .returned (.string (plainF r)) ∧ Below w.heap.size w w' := by
  have hk : kindF r = 1 := by
    have h2 := h
    simp only [freeR, List.mem_cons, List.not_mem_nil, or_false] at h2
    rcases h2 with rfl | rfl | rfl | rfl | rfl | rfl <;> decide +kernel
  have hr0 : 0 ≤ r := by
    have h2 := h
    simp only [freeR, List.mem_cons, List.not_mem_nil, or_false] at h2
    rcases h2 with rfl | rfl | rfl | rfl | rfl | rfl <;> decide
  have HM := Lib.hid h
  have HK := Lib.hid hk
  clear hk h
  go_enter Try.func30, Try.ntmps30
  go_wp2_with fail
  refine (fletter_any a 0 r (.slice none 0 0) (.slice none 0 0) .u8 rfl rfl _ hr0 HK.out).mono ?_
  rintro e w1 ⟨rfl, hb⟩
  have hblk : Blk w1 w.heap.size 99 #[.int .i64 a, .int .u8 0, .int .i32 r, .slice none 0 0, .slice none 0 0] := (Blk.new w 99 _).below hb (by simp)
  have c2 : w1.cell? ⟨w.heap.size, 2, none⟩ = some (.int .i32 r) := hblk.cell 2
  have H1 := Lib.hid (And.intro hblk (((Below.refl _ w).alloc (Nat.le_refl _) _).trans (hb.mono (by simp))))
  clear hblk hb
  go_wp2_with fail
  refine (lower_free r HM.out w1).mono ?_
  rintro e w2 ⟨rfl, ew⟩
  subst ew
  have hz : plainGo othersB (lowF r) (othersB.size + 1) 0 (-1) 1 = none ∨ plainGo othersB (lowF r) (othersB.size + 1) 0 (-1) 1 = some (2, 4) := by
    have h2 := HM.out
    have h3 := plainR_eq
    simp only [freeR, List.map_cons, List.map_nil, List.cons.injEq, and_true] at h3
    obtain ⟨e1, e2, e3, e4, e5, e6⟩ := h3
    simp only [freeR, List.mem_cons, List.not_mem_nil, or_false] at h2
    rcases h2 with rfl | rfl | rfl | rfl | rfl | rfl
    · exact .inl e1
    · exact .inl e2
    · exact .inl e3
    · exact .inl e4
    · exact .inr e5
    · exact .inl e6
  have hfin : ∀ sm, plainGo othersB sm (othersB.size + 1) 0 (-1) 1 = none ∨ plainGo othersB sm (othersB.size + 1) 0 (-1) 1 = some (2, 4) → True := fun _ _ => trivial
  clear hfin
  have HPF := Lib.hid (show plainF r = match plainGo othersB (lowF r) (othersB.size + 1) 0 (-1) 1 with | some (a, b) => othersB.extract a b | none => Utf8.encode (lowF r) from rfl)
  generalize hsm : lowF r = sm at *
  clear hsm c2
  have HZZ := Lib.hid hz
  clear hz
  go_wp2
  refine iter_abs othersB rfl ?_
  intro T hT
  have HT := Lib.hid (show T.size = othersB.size by rw [hT])
  have HTS := Lib.hid (show T.size ≤ 2000 by rw [hT]; decide +kernel)
  generalize hRZ : plainGo othersB sm (othersB.size + 1) 0 (-1) 1 = RZ at *
  have HRZ := Lib.hid (show plainGo T sm (T.size + 1) 0 (-1) 1 = RZ by rw [hT]; exact hRZ)
  clear hRZ hT
  go_loopw [4, 5] (fun v4 v5 wr => ∃ (pos f hd : Nat) (fr : Int), pos ≤ T.size ∧ -1 ≤ fr ∧ fr ≤ 3000 ∧ v4 = .int .i64 fr ∧ v5 = .bool (hd == 1) ∧ Hid (plainGo T sm f pos fr hd = RZ ∧ wr.heap[w2.heap.size]? = some (.stringIter T pos) ∧ Below w2.heap.size w2 wr ∧ T.size - pos < f)) (fun _ _ w' => T.size - w'.iterPos w2.heap.size)
  case atStart => exact ⟨0, T.size + 1, 1, -1, by omega, by omega, by omega, rfl, rfl, Lib.hid ⟨HRZ.out, World.iter_heap _ _ _, iter_below _ _ _, by omega⟩⟩
  case round =>
    obtain ⟨pos, f, hd, fr, hpos, hf0, hf1, rfl, rfl, HR⟩ := hrel
    by_cases hp : pos < T.size
    · have hnx : ∀ ty, (Instr.next (.pointer (some ⟨w2.heap.size, 0, none⟩)) true ty).run Try.prog wr = _ := fun ty => Lib.run_next_any_at wr w2.heap.size T pos ty HR.out.2.1 hp
      obtain ⟨f', hf2, hf3⟩ := plainGo_more T sm f pos fr hd hp HR.out.2.2.2
      have hdl := decode_le T pos
      have hd2 := decode_fit T pos hp
      have hw1 := width_pos T pos hp
      generalize (Utf8.decode T pos).1 = r' at *
      generalize (Utf8.decode T pos).2 = dw at *
      have hho : Below w2.heap.size w2 (wr.iterAt w2.heap.size T (pos + dw)) := HR.out.2.2.1.trans ((Only.iterAt (S := fun b => b = w2.heap.size) (Only.refl _ wr) (.inl rfl) T _).below HR.out.2.2.1.size (fun b hlt e => by omega))
      have HST := Lib.hid (And.intro hho (Lib.iterAt_heap wr w2.heap.size T pos (pos + dw) HR.out.2.1))
      rw [HR.out.1] at hf3
      have HF := Lib.hid (And.intro hf2 hf3)
      have HSZ := Lib.hid HTS.out
      clear hf2 hf3 hho
      cases h32 : ((r' : Int) == 32) with
      | true =>
        cases hfr : decide (0 ≤ fr) with
        | true =>
          have hq := HF.out.2
          rw [h32, hfr] at hq
          have hq2 : RZ = some (fr.toNat, pos) := hq
          have hq3 : fr.toNat = 2 ∧ pos = 4 := by
            rcases HZZ.out with h | h
            · rw [h] at hq2; cases hq2
            · rw [h] at hq2; injection hq2 with hq2; injection hq2 with h1 h2; exact ⟨h1.symm, h2.symm⟩
          obtain ⟨h5, rfl⟩ := hq3
          have h6 : fr = 2 := by simp at hfr; omega
          subst h6
          have HE := Lib.hid hq2
          clear hq hq2 h5 hfr hf0 hf1
          have HB := Lib.hid HST.out.1
          go_wp2
          go_ret
          refine ⟨?_, H1.out.2.trans (HB.out.mono H1.out.2.size)⟩
          rw [HPF.out, HE.out]
          rfl
        | false =>
          have hq := HF.out.2
          rw [h32, hfr] at hq
          have hq2 : RZ = plainGo T sm f' (pos + dw) fr 1 := hq
          have HE := Lib.hid hq2
          have hfn : ¬ 0 ≤ fr := by simpa using hfr
          clear hq hq2
          go_wp2
          go_roundw
          case rel => exact ⟨pos + dw, f', 1, fr, by omega, by omega, by omega, rfl, rfl, Lib.hid ⟨HE.out.symm, HST.out.2, HST.out.1, HF.out.1⟩⟩
          case measure => exact Nat.lt_of_le_of_lt (Nat.le_of_eq (congrArg (T.size - ·) (iterPos_of HST.out.2))) (by rw [iterPos_of HR.out.2.1]; omega)
      | false =>
        have hes := enc_size (r' : Int)
        have hew : IntKind.i64.wrap ((pos : Int) + ((Utf8.encode (r' : Int)).size : Int)) = (pos : Int) + ((Utf8.encode (r' : Int)).size : Int) := IntWalk.i64_in _ (by have := HTS.out; omega)
        have hbd : (pos : Int) + ((Utf8.encode (r' : Int)).size : Int) ≤ 3000 := by have := HTS.out; omega
        have HES := Lib.hid hbd
        cases h1 : (hd == 1) with
        | true =>
          cases h2 : ((r' : Int) == sm) with
          | true =>
            have hq := HF.out.2
            rw [h32, h1, h2] at hq
            have hq2 : RZ = plainGo T sm f' (pos + dw) ((pos : Int) + (Utf8.encode (r' : Int)).size) 0 := hq
            have HE := Lib.hid hq2
            clear hq hq2 hbd
            have H1' := Lib.hid h1
            clear h1
            go_wp2
            go_roundw
            case rel => exact ⟨pos + dw, f', 0, (pos : Int) + (Utf8.encode (r' : Int)).size, by omega, by omega, HES.out, rfl, rfl, Lib.hid ⟨HE.out.symm, HST.out.2, HST.out.1, HF.out.1⟩⟩
            case measure => exact Nat.lt_of_le_of_lt (Nat.le_of_eq (congrArg (T.size - ·) (iterPos_of HST.out.2))) (by rw [iterPos_of HR.out.2.1]; omega)
          | false =>
            have hq := HF.out.2
            rw [h32, h1, h2] at hq
            have hq2 : RZ = plainGo T sm f' (pos + dw) fr 0 := hq
            have HE := Lib.hid hq2
            clear hq hq2 hbd hew hes
            have H1' := Lib.hid h1
            clear h1
            go_wp2
            go_roundw
            case rel => exact ⟨pos + dw, f', 0, fr, by omega, by omega, by omega, rfl, rfl, Lib.hid ⟨HE.out.symm, HST.out.2, HST.out.1, HF.out.1⟩⟩
            case measure => exact Nat.lt_of_le_of_lt (Nat.le_of_eq (congrArg (T.size - ·) (iterPos_of HST.out.2))) (by rw [iterPos_of HR.out.2.1]; omega)
        | false =>
          have hq := HF.out.2
          rw [h32, h1] at hq
          have hq2 : RZ = plainGo T sm f' (pos + dw) fr 0 := hq
          have HE := Lib.hid hq2
          clear hq hq2 hbd hew hes
          have H1' := Lib.hid h1
          clear h1
          go_wp2
          go_roundw
          case rel => exact ⟨pos + dw, f', 0, fr, by omega, by omega, by omega, rfl, rfl, Lib.hid ⟨HE.out.symm, HST.out.2, HST.out.1, HF.out.1⟩⟩
          case measure => exact Nat.lt_of_le_of_lt (Nat.le_of_eq (congrArg (T.size - ·) (iterPos_of HST.out.2))) (by rw [iterPos_of HR.out.2.1]; omega)
    · have hnx : ∀ ty, (Instr.next (.pointer (some ⟨w2.heap.size, 0, none⟩)) true ty).run Try.prog wr = _ := fun ty => Lib.run_next_end_at wr w2.heap.size T pos ty HR.out.2.1 hp
      have he := plainGo_end T sm f pos fr hd hp
      rw [HR.out.1] at he
      have HE := Lib.hid he
      have HB := Lib.hid HR.out.2.2.1
      clear he HR
      go_wp2
      go_ret
      refine ⟨?_, H1.out.2.trans (HB.out.mono H1.out.2.size)⟩
      rw [HPF.out, HE.out]
      rfl
end Go.Proofs.Ytialpfmaekagjaa
