/- phone.newRest: all costs; phone.Distance.
   phone.Distance.
   The first alignment that costs the least (no program in sight). -/
import Derived.Test.YtogofchpocoebaaQ5
import Derived.Test.YtogofchpocoebaaQ6
namespace Go.Proofs.Ytogofchpocoebaa
open Go.RowKit Go.Maps

/-- memory while newRest runs -/
structure NrSt (w0 : World) (tb xb g : Nat) (A B : Option Addr) (la ca lb cb : Nat) (cells : Array Value) (W : World) : Prop where
  re : ReIn tb xb g A B la ca lb cb cells W
  below : Below w0.heap.size w0 W
  lx : w0.heap.size ≤ xb
  lg : w0.heap.size ≤ g
  ne : xb ≠ g
theorem NrSt.on {w0 : World} {tb xb g la ca lb cb : Nat} {A B : Option Addr} {cells : Array Value} {W W' : World} (h : NrSt w0 tb xb g A B la ca lb cb cells W) (hb : Below W.heap.size W W') : NrSt w0 tb xb g A B la ca lb cb cells W' :=
  ⟨h.re.on hb, h.below.trans (hb.mono h.below.size), h.lx, h.lg, h.ne⟩
theorem NrSt.set {w0 : World} {tb xb g la ca lb cb : Nat} {A B : Option Addr} {cells : Array Value} {W : World} (h : NrSt w0 tb xb g A B la ca lb cb cells W) (i : Nat) (v : Value) : NrSt w0 tb xb g A B la ca lb cb (cells.setIfInBounds i v) (W.setCell ⟨g, i, none⟩ v) := by
  have hn : tb ≠ g := by
    rintro rfl
    obtain ⟨D, ⟨es, clock, hb, _⟩, _⟩ := h.re.tab
    have := h.re.bg
    unfold Blk at this
    rw [this] at hb
    cases hb
  exact ⟨⟨h.re.bx.far (by simpa using h.ne) _, h.re.bg.set_ i v, by simpa using h.re.sz, h.re.tab.only (Only.setCell (S := fun b => b = g) (p := ⟨g, i, none⟩) (Only.refl _ _) (.inl rfl) _) hn⟩, h.below.setCell (by simpa using h.lg) _, h.lx, h.lg, h.ne⟩
theorem idx232 (A B : Option Addr) (la ca lb cb : Nat) (w : World) : (Instr.index 232 (.agg #[.slice A la ca, .slice B lb cb]) (.int .i64 0)).run Try.prog w = .ok (.slice A la ca) w ∧ (Instr.index 232 (.agg #[.slice A la ca, .slice B lb cb]) (.int .i64 1)).run Try.prog w = .ok (.slice B lb cb) w := ⟨by kernel_rfl, by kernel_rfl⟩
theorem info3 : (Try.prog.info? 3).map (fun i => (i.zero, i.size, i.bytes)) = some (some (.int .i64 0), 1, 8) := by kernel_rfl
/-- known from a row on; from a place on -/
def FilR (a b : List Ph) (la lb : Nat) (cells : Array Value) (c : Nat) : Prop := ∀ i' k', i' ≤ la → k' ≤ lb → c ≤ i' → cells[i' * (lb + 1) + k']? = some (.int .i64 (cs a b i' k'))
def Fil (a b : List Ph) (la lb : Nat) (cells : Array Value) (i k : Nat) : Prop := ∀ i' k', i' ≤ la → k' ≤ lb → (i < i' ∨ (i' = i ∧ k ≤ k')) → cells[i' * (lb + 1) + k']? = some (.int .i64 (cs a b i' k'))
theorem FilR.fil {a b : List Ph} {la lb i : Nat} {cells : Array Value} (h : FilR a b la lb cells (i + 1)) : Fil a b la lb cells i (lb + 1) := fun i' k' h1 h2 h3 => h i' k' h1 h2 (by omega)
theorem Fil.row {a b : List Ph} {la lb i : Nat} {cells : Array Value} (h : Fil a b la lb cells i 0) : FilR a b la lb cells i := fun i' k' h1 h2 h3 => h i' k' h1 h2 (by omega)
theorem ix_row {lb i k i' k' : Nat} (hk : k ≤ lb) (hk' : k' ≤ lb) (h : i * (lb + 1) + k = i' * (lb + 1) + k') : i = i' ∧ k = k' := by
  have e : i = i' := by
    have h1 : (i * (lb + 1) + k) / (lb + 1) = i := by rw [Nat.mul_comm, Nat.mul_add_div (by omega), Nat.div_eq_of_lt (by omega)]; omega
    have h2 : (i' * (lb + 1) + k') / (lb + 1) = i' := by rw [Nat.mul_comm, Nat.mul_add_div (by omega), Nat.div_eq_of_lt (by omega)]; omega
    rw [← h1, h, h2]
  subst e
  exact ⟨rfl, by omega⟩
theorem Fil.step {a b : List Ph} {la lb i k : Nat} {cells : Array Value} (h : Fil a b la lb cells i (k + 1)) (hi : i ≤ la) (hk : k ≤ lb) (hm : i * (lb + 1) + k < cells.size) : Fil a b la lb (cells.setIfInBounds (i * (lb + 1) + k) (.int .i64 (cs a b i k))) i k := by
  intro i' k' h1 h2 h3
  by_cases he : i * (lb + 1) + k = i' * (lb + 1) + k'
  · obtain ⟨e1, e2⟩ := ix_row hk h2 he
    subst e1 e2
    simp [hm]
  · rw [Array.getElem?_setIfInBounds_ne he]
    refine h i' k' h1 h2 ?_
    rcases h3 with h3 | ⟨h3, h4⟩
    · exact .inl h3
    · subst h3
      exact .inr ⟨rfl, by omega⟩
/-- make with that length, as an equation that the walk rewrites by -/
theorem made_full {P : Program} (t e : TypeId) (i : TypeInfo) (z : Value) (size : Nat) (ht : P.underlying t = some (.slice e)) (hi : P.info? e = some i) (hz : i.zero = some z) (hsize : i.size = size)
    (c : Nat) (hbytes : i.bytes * c ≤ 281474976710656) (h63 : c ≤ maxLen) : ∃ Z : Array Value, Z.size = c * size ∧ ∀ w, (Instr.makeSlice t (.int .i64 (c : Int)) (.int .i64 (c : Int))).run P w = .ok (.slice (some ⟨w.heap.size, 0, none⟩) c c) (w.alloc (.cells Z e)) := by
  subst hsize
  refine ⟨madeCells z.cells (c * i.size), size_madeCells _ _, fun w => ?_⟩
  have h63' : (c : Int) ≤ 9223372036854775807 := by
    have h := h63
    simp [maxLen] at h
    omega
  have hb' : (i.bytes : Int) * (c : Int) ≤ 281474976710656 := by
    have h : ((i.bytes * c : Nat) : Int) ≤ 281474976710656 := by omega
    rwa [Int.natCast_mul] at h
  have hr := run_make (P := P) w t e i z ht hi hz .i64 .i64 c c (by omega) (by omega) hb' h63'
  simpa using hr

/-- how newRest ends -/
def NrPost (w : World) (A B : Option Addr) (la ca lb cb : Nat) (a b : List Ph) (e : Ending) (w' : World) : Prop :=
  (¬ (a.all isF = true ∧ b.all isF = true) ∧ e = .returned (.tuple #[.pointer none, .int .i64 2]) ∧ Below w.heap.size w w') ∨
    ((a.all isF = true ∧ b.all isF = true) ∧ ∃ tb xb g cells, e = .returned (.tuple #[.pointer (some ⟨xb, 0, none⟩), .int .i64 0]) ∧ NrSt w tb xb g A B la ca lb cb cells w' ∧ ∀ i k, i ≤ la → k ≤ lb → cells[i * (lb + 1) + k]? = some (.int .i64 (cs a b i k)))

set_option maxHeartbeats 4000000 in
set_option maxRecDepth 100000 in
theorem newRest_ok (A B : Option Addr) (la ca lb cb L1 L2 : Nat) (a b : List Ph) (w : World) (ra : Rd w L1 w.heap.size 3 A la (phs a)) (rb : Rd w L2 w.heap.size 3 B lb (phs b)) (fa : ∀ p ∈ a, fitP p) (fb : ∀ p ∈ b, fitP p) (h1 : la ≤ 128) (h2 : lb ≤ 128) :
    Calls Try.prog 129 #[.slice A la ca, .slice B lb cb] w (NrPost w A B la ca lb cb a b) := by
  have H := Lib.hid (And.intro ra rb)
  have HF := Lib.hid (And.intro fa fb)
  have ea := ra.len_ph
  have eb := rb.len_ph
  obtain ⟨i0, hi, hz0, hz1, hz2⟩ := info_parts info3
  have hN : (la + 1) * (lb + 1) ≤ 129 * 129 := Nat.mul_le_mul (by omega) (by omega)
  obtain ⟨Z, hZ, hm⟩ := made_full (P := Try.prog) 71 3 i0 _ 1 Try.underlying71 hi hz0 hz1 ((la + 1) * (lb + 1)) (by rw [hz2]; omega) (by unfold maxLen; omega)
  have HZ := Lib.hid hZ
  have eN : ((la : Int) + 1) * ((lb : Int) + 1) = (((la + 1) * (lb + 1) : Nat) : Int) := by simp [Int.natCast_mul]
  have d1 : decide ((128 : Int) < (la : Int)) = false := by simp; omega
  have d2 : decide ((128 : Int) < (lb : Int)) = false := by simp; omega
  have d3 : ¬ (128 < la) := by omega
  have d4 : ¬ (128 < lb) := by omega
  clear ra rb fa fb hi hz0 hz1 hz2 hZ
  generalize hNN : (la + 1) * (lb + 1) = N at *
  have HNN := Lib.hid hNN
  clear hNN
  have wN : IntKind.i64.wrap (N : Int) = N := IntWalk.i64_in _ (by omega)
  have wla : IntKind.i64.wrap ((la : Int) + 1) = (la : Int) + 1 := IntWalk.i64_in _ (by omega)
  have wlb : IntKind.i64.wrap ((lb : Int) + 1) = (lb : Int) + 1 := IntWalk.i64_in _ (by omega)
  go_enter Try.func129, Try.ntmps129
  go_upto_region 3 with (fail)
  go_cut [6] (fun v6 wx => ∃ tb xb g, v6 = .pointer (some ⟨xb, 0, none⟩) ∧ Hid (NrSt w tb xb g A B la ca lb cb Z wx))
  case first =>
    go_region_held3 (fun _ => True) ((exact trivial))
      (first
        | (go_at_call 113
           refine (table_any _).mono ?_
           rintro e wt ⟨tb, rfl, hlo, ht, hb⟩
           have HT := Lib.hid (And.intro hlo (And.intro ht hb))
           clear hlo ht hb))
    · go_wp2_with fail
      go_meet
      obtain rfl := HNN.out
      have hz : Z.size = (la + 1) * (lb + 1) := by have := HZ.out; omega
      have bt : Below w.heap.size w wt := ⟨HT.out.2.2.os, HT.out.2.2.tape, HT.out.2.2.output, HT.out.2.2.size, HT.out.2.2.block⟩
      have bz := bt.size
      exact ⟨tb, _, _, rfl, Lib.hid ⟨⟨blk_new_eq (by simp), (Blk.new wt 3 Z).alloc _, hz, HT.out.2.1.on (((Below.refl _ _).alloc (Nat.le_refl _) _).alloc (by simp) _)⟩, bt.trans ((((Below.refl _ _).alloc (Nat.le_refl _) _).alloc (by simp) _).mono bz), by omega, by omega, by omega⟩⟩
    · go_wp2_with fail
      go_meet
      obtain rfl := HNN.out
      have hz : Z.size = (la + 1) * (lb + 1) := by have := HZ.out; omega
      have hb0 : Below w.heap.size w (w.drew.alloc (.cells Z 3)) := (Below.drewB (Below.refl _ w)).alloc (Nat.le_refl _) _
      have hbt := HT.out.2.2
      have bt : Below w.heap.size w wt := hb0.trans (hbt.mono hb0.size)
      have hl : w.heap.size < wt.heap.size := by have := hbt.size; simp at this; omega
      have hg : Blk wt w.heap.size 3 Z := (Blk.new w.drew 3 Z).below hbt (by simp)
      exact ⟨tb, _, _, rfl, Lib.hid ⟨⟨blk_new_eq (by simp), hg.alloc _, hz, HT.out.2.1.on ((Below.refl _ _).alloc (Nat.le_refl _) _)⟩, bt.trans (((Below.refl _ _).alloc (Nat.le_refl _) _).mono bt.size), by omega, by omega, by omega⟩⟩
  case rest =>
    obtain ⟨tb, xb, g, rfl, HC⟩ := hcut
    have I1 : ∀ w, (Instr.index 232 (.agg #[.slice A la ca, .slice B lb cb]) (.int .i64 0)).run Try.prog w = .ok (.slice A la ca) w := fun w => (idx232 A B la ca lb cb w).1
    have I2 : ∀ w, (Instr.index 232 (.agg #[.slice A la ca, .slice B lb cb]) (.int .i64 1)).run Try.prog w = .ok (.slice B lb cb) w := fun w => (idx232 A B la ca lb cb w).2
    have HI := Lib.hid (And.intro I1 I2)
    clear I1 I2 d1 d2 d3 d4 wN wla wlb eN hm
    go_wp2
    go_loopw [8, 37] (fun _ jv wr => ∃ j : Nat, j ≤ 2 ∧ jv = .int .i64 j ∧ Hid (NrSt w tb xb g A B la ca lb cb Z wr ∧ (0 < j → a.all isF = true) ∧ (1 < j → b.all isF = true))) (fun _ jv _ => 2 - (intOf jv).toNat)
    case atStart => exact ⟨0, by omega, rfl, Lib.hid ⟨HC.out, fun h => absurd h (by omega), fun h => absurd h (by omega)⟩⟩
    case round =>
      obtain ⟨j, hj, rfl, HR⟩ := hrel
      clear HC
      have hj3 : j = 0 ∨ j = 1 ∨ j = 2 := by omega
      rcases hj3 with rfl | rfl | rfl
      · have hidx := HI.out.1
        go_wp2
        go_loopw [10, 42] (fun _ mv wq => ∃ m : Nat, m ≤ la ∧ mv = .int .i64 m ∧ Hid (NrSt w tb xb g A B la ca lb cb Z wq ∧ (a.take m).all isF = true)) (fun _ mv _ => la - (intOf mv).toNat)
        case atStart => exact ⟨0, by omega, rfl, Lib.hid ⟨HR.out.1, by simp⟩⟩
        case round =>
          obtain ⟨m, hm, rfl, HQ⟩ := hrel
          by_cases hlt : m < la
          · obtain ⟨pbk, po, hl, rfl, _, hB, x0, x1, x2⟩ := ((H.out.1.below HQ.out.1.below (Nat.le_refl _))).ph hlt
            have hfp := HF.out.1 _ (List.getElem_mem hl)
            have hsn : a.take (m + 1) = a.take m ++ [a[m]] := List.take_succ_eq_append_getElem hl
            have hal : a.all isF = true → isF a[m] = true := fun h => List.all_eq_true.1 h _ (List.getElem_mem hl)
            generalize a[m] = p at *
            have HSN := Lib.hid hsn
            have HFP := Lib.hid hfp
            have HAL := Lib.hid hal
            clear hsn hfp hal hB hidx
            go_upto_region 10 with (fail)
            refine wp_abs (fun wx => NrSt w tb xb g _ _ la ca lb cb Z wx ∧ Blk wx wr.heap.size 43 #[.int .i32 p.1, .bool p.2.1, .int .i32 p.2.2]) ⟨HQ.out.1.on ((Below.refl _ _).alloc (Nat.le_refl _) _), Blk.new _ _ _⟩ ?_
            clear x0 x1 x2
            generalize wr.heap.size = pb at *
            rintro wx ⟨hS, hX⟩
            have hK : ∀ W', Below wx.heap.size wx W' → W'.cell? ⟨xb, 0, none⟩ = some (.map (some tb)) ∧ W'.cell? ⟨pb, 0, none⟩ = some (.int .i32 p.1) ∧ W'.cell? ⟨pb, 1, none⟩ = some (.bool p.2.1) ∧ W'.cell? ⟨pb, 2, none⟩ = some (.int .i32 p.2.2) := fun W' hb => ⟨(hS.re.bx.below hb hS.re.bx.lt).cell 0, (hX.below hb hX.lt).cell 0, (hX.below hb hX.lt).cell 1, (hX.below hb hX.lt).cell 2⟩
            have HX := Lib.hid hS
            have HK := Lib.hid hK
            have HP := Lib.hid hX.lt
            clear hS hX hK
            go_region_held3 (fun W' => W'.cell? ⟨xb, 0, none⟩ = some (.map (some tb)) ∧ W'.cell? ⟨pb, 0, none⟩ = some (.int .i32 p.1) ∧ W'.cell? ⟨pb, 1, none⟩ = some (.bool p.2.1) ∧ W'.cell? ⟨pb, 2, none⟩ = some (.int .i32 p.2.2))
              ((refine HK.out _ ?_; first | exact HY.out | exact ⟨rfl, rfl, rfl, Nat.le_refl _, fun _ _ => rfl⟩))
              (first
                | (go_at_call 114
                   refine (is_any tb p _ (by first | exact HX.out.re.tab | exact HX.out.re.tab.on ⟨rfl, rfl, rfl, Nat.le_refl _, fun _ _ => rfl⟩) HFP.out.1).mono ?_
                   rintro e wy ⟨rfl, hb⟩
                   have HY : Hid (Below wx.heap.size wx wy) := Lib.hid ⟨hb.os, hb.tape, hb.output, hb.size, hb.block⟩
                   clear hb))
            all_goals
              have HN := Lib.hid (HX.out.on HY.out)
              clear HX HY HK
              cases hF : isF p with
              | false =>
                have HG := Lib.hid hF
                go_wp2
                go_ret2
                exact Or.inl ⟨fun hh => (by have := HAL.out hh.1; rw [HG.out] at this; cases this), rfl, HN.out.below⟩
              | true =>
                have HG := Lib.hid hF
                go_wp2
                go_roundw
                case rel =>
                  refine ⟨_, _, _, _, _, _, _, _, _, _, _, _, _, _, _, ?_, rfl⟩
                  exact ⟨m + 1, by omega, by go_num, Lib.hid ⟨HN.out, by rw [HSN.out, List.all_append, HQ.out.2]; simp [HG.out]⟩⟩
                case measure => simp [intOf]; omega
          · have hml : m = la := by omega
            have q1 : decide ((m : Int) < (la : Int)) = false := by simp; omega
            have hall : a.all isF = true := by have := HQ.out.2; rwa [hml, List.take_of_length_le (by omega)] at this
            have HE := Lib.hid hall
            clear hall hml
            go_wp2
            go_roundw
            case rel => exact ⟨0 + 1, by omega, by go_num, Lib.hid ⟨HQ.out.1, fun _ => HE.out, fun h => absurd h (by omega)⟩⟩
            case measure => simp [intOf]
      · have hidx := HI.out.2
        go_wp2
        go_loopw [10, 42] (fun _ mv wq => ∃ m : Nat, m ≤ lb ∧ mv = .int .i64 m ∧ Hid (NrSt w tb xb g A B la ca lb cb Z wq ∧ (b.take m).all isF = true)) (fun _ mv _ => lb - (intOf mv).toNat)
        case atStart => exact ⟨0, by omega, rfl, Lib.hid ⟨HR.out.1, by simp⟩⟩
        case round =>
          obtain ⟨m, hm, rfl, HQ⟩ := hrel
          by_cases hlt : m < lb
          · obtain ⟨pbk, po, hl, rfl, _, hB, x0, x1, x2⟩ := ((H.out.2.below HQ.out.1.below (Nat.le_refl _))).ph hlt
            have hfp := HF.out.2 _ (List.getElem_mem hl)
            have hsn : b.take (m + 1) = b.take m ++ [b[m]] := List.take_succ_eq_append_getElem hl
            have hal : b.all isF = true → isF b[m] = true := fun h => List.all_eq_true.1 h _ (List.getElem_mem hl)
            generalize b[m] = p at *
            have HSN := Lib.hid hsn
            have HFP := Lib.hid hfp
            have HAL := Lib.hid hal
            clear hsn hfp hal hB hidx
            go_upto_region 10 with (fail)
            refine wp_abs (fun wx => NrSt w tb xb g _ _ la ca lb cb Z wx ∧ Blk wx wr.heap.size 43 #[.int .i32 p.1, .bool p.2.1, .int .i32 p.2.2]) ⟨HQ.out.1.on ((Below.refl _ _).alloc (Nat.le_refl _) _), Blk.new _ _ _⟩ ?_
            clear x0 x1 x2
            generalize wr.heap.size = pb at *
            rintro wx ⟨hS, hX⟩
            have hK : ∀ W', Below wx.heap.size wx W' → W'.cell? ⟨xb, 0, none⟩ = some (.map (some tb)) ∧ W'.cell? ⟨pb, 0, none⟩ = some (.int .i32 p.1) ∧ W'.cell? ⟨pb, 1, none⟩ = some (.bool p.2.1) ∧ W'.cell? ⟨pb, 2, none⟩ = some (.int .i32 p.2.2) := fun W' hb => ⟨(hS.re.bx.below hb hS.re.bx.lt).cell 0, (hX.below hb hX.lt).cell 0, (hX.below hb hX.lt).cell 1, (hX.below hb hX.lt).cell 2⟩
            have HX := Lib.hid hS
            have HK := Lib.hid hK
            have HP := Lib.hid hX.lt
            clear hS hX hK
            go_region_held3 (fun W' => W'.cell? ⟨xb, 0, none⟩ = some (.map (some tb)) ∧ W'.cell? ⟨pb, 0, none⟩ = some (.int .i32 p.1) ∧ W'.cell? ⟨pb, 1, none⟩ = some (.bool p.2.1) ∧ W'.cell? ⟨pb, 2, none⟩ = some (.int .i32 p.2.2))
              ((refine HK.out _ ?_; first | exact HY.out | exact ⟨rfl, rfl, rfl, Nat.le_refl _, fun _ _ => rfl⟩))
              (first
                | (go_at_call 114
                   refine (is_any tb p _ (by first | exact HX.out.re.tab | exact HX.out.re.tab.on ⟨rfl, rfl, rfl, Nat.le_refl _, fun _ _ => rfl⟩) HFP.out.1).mono ?_
                   rintro e wy ⟨rfl, hb⟩
                   have HY : Hid (Below wx.heap.size wx wy) := Lib.hid ⟨hb.os, hb.tape, hb.output, hb.size, hb.block⟩
                   clear hb))
            all_goals
              have HN := Lib.hid (HX.out.on HY.out)
              clear HX HY HK
              cases hF : isF p with
              | false =>
                have HG := Lib.hid hF
                go_wp2
                go_ret2
                exact Or.inl ⟨fun hh => (by have := HAL.out hh.2; rw [HG.out] at this; cases this), rfl, HN.out.below⟩
              | true =>
                have HG := Lib.hid hF
                go_wp2
                go_roundw
                case rel =>
                  refine ⟨_, _, _, _, _, _, _, _, _, _, _, _, _, _, _, ?_, rfl⟩
                  exact ⟨m + 1, by omega, by go_num, Lib.hid ⟨HN.out, by rw [HSN.out, List.all_append, HQ.out.2]; simp [HG.out]⟩⟩
                case measure => simp [intOf]; omega
          · have hml : m = lb := by omega
            have q1 : decide ((m : Int) < (lb : Int)) = false := by simp; omega
            have hall : b.all isF = true := by have := HQ.out.2; rwa [hml, List.take_of_length_le (by omega)] at this
            have HE := Lib.hid hall
            clear hall hml
            go_wp2
            go_roundw
            case rel => exact ⟨1 + 1, by omega, by go_num, Lib.hid ⟨HQ.out.1, fun _ => HR.out.2.1 (by omega), fun _ => HE.out⟩⟩
            case measure => simp [intOf]
      · go_wp2
        go_loopw [11] (fun iv wq => ∃ (c : Nat) (x : Int) (cells : Array Value), c ≤ la + 1 ∧ iv = .int .i64 x ∧ x = (c : Int) - 1 ∧ Hid (NrSt w tb xb g A B la ca lb cb cells wq ∧ FilR a b la lb cells c)) (fun iv _ => (intOf iv + 1).toNat)
        case atStart => exact ⟨la + 1, la, Z, Nat.le_refl _, rfl, by omega, Lib.hid ⟨HR.out.1, fun i' k' h1 h2 h3 => absurd h3 (by omega)⟩⟩
        case round =>
          obtain ⟨c, x, cells, hc, rfl, hx, HQ⟩ := hrel
          have HA := Lib.hid (And.intro (HR.out.2.1 (by omega)) (HR.out.2.2 (by omega)))
          clear HR
          cases c with
          | zero =>
            have qn : decide ((0 : Int) ≤ x) = false := by simp; omega
            have qm : ¬ ((0 : Int) ≤ x) := by omega
            go_wp2
            go_ret2
            exact Or.inr ⟨HA.out, tb, xb, g, cells, rfl, HQ.out.1, fun i k hi hk => HQ.out.2 i k hi hk (Nat.zero_le _)⟩
          | succ i =>
            obtain rfl : x = (i : Int) := by omega
            clear hx
            have q1 : decide ((0 : Int) ≤ (i : Int)) = true := by simp
            have wi : IntKind.i64.wrap ((i : Int) - 1) = (i : Int) - 1 := IntWalk.i64_in _ (by omega)
            go_wp2
            go_loopw [12] (fun kv wq => ∃ (d : Nat) (y : Int) (cells : Array Value), d ≤ lb + 1 ∧ kv = .int .i64 y ∧ y = (d : Int) - 1 ∧ Hid (NrSt w tb xb g A B la ca lb cb cells wq ∧ Fil a b la lb cells i d)) (fun kv _ => (intOf kv + 1).toNat)
            case atStart => exact ⟨lb + 1, lb, cells, Nat.le_refl _, rfl, by omega, Lib.hid ⟨HQ.out.1, HQ.out.2.fil⟩⟩
            case round =>
              clear HQ
              obtain ⟨d, y, cells, hd, rfl, hy, HQ⟩ := hrel
              cases d with
              | zero =>
                have qn : decide ((0 : Int) ≤ y) = false := by simp; omega
                have qm : ¬ ((0 : Int) ≤ y) := by omega
                go_wp2
                go_roundw
                case rel => exact ⟨i, (i : Int) - 1, cells, by omega, by go_num, by omega, Lib.hid ⟨HQ.out.1, HQ.out.2.row⟩⟩
                case measure => simp [intOf]
              | succ k =>
                obtain rfl : y = (k : Int) := by omega
                clear hy
                have q2 : decide ((0 : Int) ≤ (k : Int)) = true := by simp
                have wk : IntKind.i64.wrap ((k : Int) - 1) = (k : Int) - 1 := IntWalk.i64_in _ (by omega)
                go_wp2_with fail
                refine (at_any tb xb g A B la ca lb cb cells i k _ HQ.out.1.re h1 h2 (by omega) (by omega)).mono ?_
                rintro e w1 ⟨rfl, hb1⟩
                have H1 := Lib.hid (HQ.out.1.on hb1)
                clear hb1
                go_wp2_with fail
                refine (least_any tb xb g A B la ca lb cb cells a b i k _ H1.out.re ((H.out.1.below H1.out.below (Nat.le_refl _)).more (Nat.zero_le _) H1.out.below.size) ((H.out.2.below H1.out.below (Nat.le_refl _)).more (Nat.zero_le _) H1.out.below.size) h1 h2 (by omega) (by omega) (fun p hp => (HF.out.1 p hp).1) (fun p hp => (HF.out.2 p hp).1)
                  (fun e1 e2 => HQ.out.2 _ _ (by omega) (by omega) (.inl (by omega))) (fun e1 => HQ.out.2 _ _ (by omega) (by omega) (.inl (by omega))) (fun e1 => HQ.out.2 _ _ (by omega) (by omega) (.inr ⟨rfl, by omega⟩))).mono ?_
                rintro e w2 ⟨rfl, hb2⟩
                have H2 := Lib.hid (H1.out.on hb2)
                clear hb2 H1
                have hm : i * (lb + 1) + k < cells.size := by
                  rw [H2.out.re.sz]
                  have := Nat.mul_le_mul_right (lb + 1) (show i ≤ la by omega)
                  rw [Nat.add_mul]; omega
                have c0 := H2.out.re.bg.cell (i * (lb + 1) + k)
                rw [Array.getElem?_eq_getElem hm] at c0
                generalize cells[i * (lb + 1) + k] = v0 at c0
                have f0 : w2.frozen? ⟨g, i * (lb + 1) + k, none⟩ = false := H2.out.re.bg.frozen _
                have HS := Lib.hid (And.intro (H2.out.set (i * (lb + 1) + k) (.int .i64 (cs a b i k))) (HQ.out.2.step (by omega) (by omega) hm))
                clear hm H2 HQ
                go_wp2
                go_roundw
                case rel =>
                  refine ⟨_, _, _, _, _, _, _, _, _, _, _, _, _, _, ?_, rfl⟩
                  exact ⟨k, (k : Int) - 1, _, by omega, by go_num, by omega, HS⟩
                case measure => simp [intOf]
end Go.Proofs.Ytogofchpocoebaa

namespace Go.Proofs.Ytogofchpocoebaa
open Go.RowKit Go.Maps

set_option maxHeartbeats 1000000 in
theorem newRest_long (A B : Option Addr) (la ca lb cb : Nat) (w : World) (h : 128 < la ∨ 128 < lb) :
    Calls Try.prog 129 #[.slice A la ca, .slice B lb cb] w fun e w' => e = .returned (.tuple #[.pointer none, .int .i64 3]) ∧ Below w.heap.size w w' := by
  by_cases h1 : 128 < la
  · have d1 : decide ((128 : Int) < (la : Int)) = true := by simp; omega
    clear h
    go_enter Try.func129, Try.ntmps129
    go_wp2
    go_ret2
    exact ⟨rfl, Below.refl _ _⟩
  · have d1 : decide ((128 : Int) < (la : Int)) = false := by simp; omega
    have d2 : decide ((128 : Int) < (lb : Int)) = true := by simp; omega
    clear h
    go_enter Try.func129, Try.ntmps129
    go_wp2
    go_ret2
    exact ⟨rfl, Below.refl _ _⟩

/-- Distance's errno and value -/
def dsE (a b : List Ph) : Int := if 128 < a.length ∨ 128 < b.length then 3 else if a.all isF && b.all isF then 0 else 2
def dsV (a b : List Ph) : Int := if dsE a b = 0 then costF a b else 0

set_option maxHeartbeats 1000000 in
theorem distance_any (A B : Option Addr) (la ca lb cb L1 L2 : Nat) (a b : List Ph) (w : World) (ra : Rd w L1 w.heap.size 3 A la (phs a)) (rb : Rd w L2 w.heap.size 3 B lb (phs b)) (fa : ∀ p ∈ a, fitP p) (fb : ∀ p ∈ b, fitP p) :
    Calls Try.prog 61 #[.slice A la ca, .slice B lb cb] w fun e w' => e = .returned (.tuple #[.int .i64 (dsV a b), .int .i64 (dsE a b)]) ∧ Below w.heap.size w w' := by
  have ea := ra.len_ph
  have eb := rb.len_ph
  by_cases hl : 128 < la ∨ 128 < lb
  · have he : dsE a b = 3 := by unfold dsE; rw [if_pos (by omega)]
    have hv : dsV a b = 0 := by unfold dsV; rw [he]; rfl
    rw [he, hv]
    clear ra rb fa fb he hv
    go_enter Try.func61, Try.ntmps61
    go_wp2_with fail
    refine (newRest_long A B la ca lb cb _ hl).mono ?_
    rintro e w1 ⟨rfl, hb⟩
    have H := Lib.hid hb
    clear hb
    go_wp2
    go_ret2
    exact ⟨rfl, H.out⟩
  · have hla : la ≤ 128 := by omega
    have hlb : lb ≤ 128 := by omega
    have hE : ∀ x, (a.all isF && b.all isF) = x → dsE a b = if x then 0 else 2 := fun x hx => by unfold dsE; rw [if_neg (by omega), hx]
    have HE := Lib.hid hE
    have H := Lib.hid (And.intro (And.intro ra rb) (And.intro fa fb))
    clear ra rb fa fb hl hE ea eb
    go_enter Try.func61, Try.ntmps61
    go_wp2_with fail
    refine (newRest_ok A B la ca lb cb L1 L2 a b _ H.out.1.1 H.out.1.2 H.out.2.1 H.out.2.2 hla hlb).mono ?_
    rintro e w1 h
    rcases h with ⟨hn, rfl, hb⟩ | ⟨hy, tb, xb, g, cells, rfl, hs, hc⟩
    · have hx : (a.all isF && b.all isF) = false := by
        cases h1 : a.all isF <;> cases h2 : b.all isF <;> simp_all
      have he := HE.out _ hx
      have hv : dsV a b = 0 := by unfold dsV; rw [he]; rfl
      have HV := Lib.hid (And.intro (And.intro he hv) hb)
      clear hn hb hx he hv
      go_wp2
      go_ret2
      exact ⟨by rw [HV.out.1.1, HV.out.1.2]; rfl, HV.out.2⟩
    · have hx : (a.all isF && b.all isF) = true := by rw [hy.1, hy.2]; rfl
      have he := HE.out _ hx
      have hv : dsV a b = costF a b := by unfold dsV; rw [he]; rfl
      have h0 := hc 0 0 (by omega) (by omega)
      have hcs : cs a b 0 0 = costF a b := rfl
      rw [hcs] at h0
      have HV := Lib.hid (And.intro (And.intro he hv) (And.intro hs h0))
      clear hy hx he hv hs hc h0 hcs
      go_wp2_with fail
      refine (at_at tb xb g A B la ca lb cb cells 0 0 0 0 rfl rfl _ HV.out.2.1.re hla hlb (by omega) (by omega)).mono ?_
      rintro e w2 ⟨he, hb⟩
      have h00 := HV.out.2.2
      rw [show 0 * (lb + 1) + 0 = 0 by simp] at he h00
      subst he
      have c0 : w2.cell? ⟨g, 0, none⟩ = some (.int .i64 (costF a b)) := ((HV.out.2.1.on hb).re.bg.cell 0).trans h00
      clear h00
      have H2 := Lib.hid (HV.out.2.1.on hb).below
      clear hb
      go_wp2
      go_ret2
      exact ⟨by rw [HV.out.1.1, HV.out.1.2]; rfl, H2.out⟩

/-- phone.Lone, phone.Apart: value and errno -/
def loneE (p : Ph) : Int := if isF p then 0 else 2
def loneV (p : Ph) : Int := if isF p then loneF p else 0
def apE (p q : Ph) : Int := if isF p && isF q then 0 else 2
def apV (p q : Ph) : Int := if isF p && isF q then apartF p q else 0

set_option maxHeartbeats 1000000 in
theorem Lone_any (p : Ph) (w : World) (hf : fit32 p.1) :
    Calls Try.prog 42 #[.agg #[.int .i32 p.1, .bool p.2.1, .int .i32 p.2.2]] w fun e w' => e = .returned (.tuple #[.int .i64 (loneV p), .int .i64 (loneE p)]) ∧ Below w.heap.size w w' := by
  have HF := Lib.hid hf
  clear hf
  go_enter Try.func42, Try.ntmps42
  go_upto_region 1 with (fail)
  refine wp_abs (fun wx => Below w.heap.size w wx ∧ Blk wx w.heap.size 43 #[.int .i32 p.1, .bool p.2.1, .int .i32 p.2.2]) ⟨(Below.refl _ _).alloc (Nat.le_refl _) _, Blk.new _ _ _⟩ ?_
  generalize hpb : w.heap.size = pb
  rintro wx ⟨hb, hx⟩
  rw [← hpb] at hb
  have HX := Lib.hid (And.intro hb hx)
  clear hb hx hpb
  go_wp2_with fail
  refine (table_any _).mono ?_
  rintro e w1 ⟨tb, rfl, hlo, ht, hb⟩
  have H1 := Lib.hid (And.intro ht (And.intro (HX.out.1.trans (hb.mono HX.out.1.size)) (HX.out.2.below hb HX.out.2.lt)))
  clear ht hb hlo HX
  have c0 : w1.cell? ⟨pb, 0, none⟩ = some (.int .i32 p.1) := H1.out.2.2.cell 0
  have c1 : w1.cell? ⟨pb, 1, none⟩ = some (.bool p.2.1) := H1.out.2.2.cell 1
  have c2 : w1.cell? ⟨pb, 2, none⟩ = some (.int .i32 p.2.2) := H1.out.2.2.cell 2
  go_wp2_with fail
  refine (is_any tb p _ H1.out.1 HF.out).mono ?_
  rintro e w2 ⟨rfl, hb⟩
  have H2 := Lib.hid (And.intro (H1.out.1.on hb) (And.intro (H1.out.2.1.trans (hb.mono H1.out.2.1.size)) (H1.out.2.2.below hb H1.out.2.2.lt)))
  clear hb H1 c0 c1 c2
  cases hF : isF p with
  | false =>
    have HG := Lib.hid (show loneV p = 0 ∧ loneE p = 2 by unfold loneV loneE; rw [hF]; exact ⟨rfl, rfl⟩)
    clear hF
    go_wp2
    go_ret2
    exact ⟨by rw [HG.out.1, HG.out.2]; rfl, H2.out.2.1⟩
  | true =>
    have HG := Lib.hid (show loneV p = loneF p ∧ loneE p = 0 by unfold loneV loneE; rw [hF]; exact ⟨rfl, rfl⟩)
    clear hF
    have d0 : w2.cell? ⟨pb, 0, none⟩ = some (.int .i32 p.1) := H2.out.2.2.cell 0
    have d1 : w2.cell? ⟨pb, 1, none⟩ = some (.bool p.2.1) := H2.out.2.2.cell 1
    have d2 : w2.cell? ⟨pb, 2, none⟩ = some (.int .i32 p.2.2) := H2.out.2.2.cell 2
    go_wp2_with fail
    refine (lone_any tb p _ H2.out.1 HF.out).mono ?_
    rintro e w3 ⟨rfl, hb⟩
    have H3 := Lib.hid (H2.out.2.1.trans (hb.mono H2.out.2.1.size))
    clear hb
    go_wp2
    go_ret2
    exact ⟨by rw [HG.out.1, HG.out.2]; rfl, H3.out⟩

set_option maxHeartbeats 1000000 in
theorem Apart_any (p q : Ph) (w : World) (hp : fit32 p.1) (hq : fit32 q.1) :
    Calls Try.prog 41 #[.agg #[.int .i32 p.1, .bool p.2.1, .int .i32 p.2.2], .agg #[.int .i32 q.1, .bool q.2.1, .int .i32 q.2.2]] w fun e w' => e = .returned (.tuple #[.int .i64 (apV p q), .int .i64 (apE p q)]) ∧ Below w.heap.size w w' := by
  have HF := Lib.hid (And.intro hp hq)
  clear hp hq
  go_enter Try.func41, Try.ntmps41
  go_upto_region 1 with (fail)
  refine wp_abs (fun wx => Below w.heap.size w wx ∧ Blk wx w.heap.size 43 #[.int .i32 p.1, .bool p.2.1, .int .i32 p.2.2] ∧ Blk wx (w.heap.size + 1) 43 #[.int .i32 q.1, .bool q.2.1, .int .i32 q.2.2]) ⟨((Below.refl _ _).alloc (Nat.le_refl _) _).alloc (by simp) _, (Blk.new _ _ _).alloc _, blk_new_eq (by simp)⟩ ?_
  generalize hpb : w.heap.size = pb
  generalize hqb : pb + 1 = qb
  rintro wx ⟨hb, hx⟩
  rw [← hpb] at hb
  have HX := Lib.hid (And.intro hb hx)
  clear hb hx hpb hqb
  go_wp2_with fail
  refine (table_any _).mono ?_
  rintro e w1 ⟨tb, rfl, hlo, ht, hb⟩
  have H1 := Lib.hid (And.intro ht (And.intro (HX.out.1.trans (hb.mono HX.out.1.size)) (And.intro (HX.out.2.1.below hb HX.out.2.1.lt) (HX.out.2.2.below hb HX.out.2.2.lt))))
  clear ht hb hlo HX
  have c0 : w1.cell? ⟨pb, 0, none⟩ = some (.int .i32 p.1) := H1.out.2.2.1.cell 0
  have c1 : w1.cell? ⟨pb, 1, none⟩ = some (.bool p.2.1) := H1.out.2.2.1.cell 1
  have c2 : w1.cell? ⟨pb, 2, none⟩ = some (.int .i32 p.2.2) := H1.out.2.2.1.cell 2
  go_wp2_with fail
  refine (is_any tb p _ H1.out.1 HF.out.1).mono ?_
  rintro e w2 ⟨rfl, hb⟩
  have H2 := Lib.hid (And.intro (H1.out.1.on hb) (And.intro (H1.out.2.1.trans (hb.mono H1.out.2.1.size)) (And.intro (H1.out.2.2.1.below hb H1.out.2.2.1.lt) (H1.out.2.2.2.below hb H1.out.2.2.2.lt))))
  clear hb H1 c0 c1 c2
  cases hF : isF p with
  | false =>
    have HG := Lib.hid (show apV p q = 0 ∧ apE p q = 2 by unfold apV apE; rw [hF]; exact ⟨rfl, rfl⟩)
    clear hF
    go_wp2
    go_ret2
    exact ⟨by rw [HG.out.1, HG.out.2]; rfl, H2.out.2.1⟩
  | true =>
    have HFP := Lib.hid hF
    clear hF
    have d0 : w2.cell? ⟨qb, 0, none⟩ = some (.int .i32 q.1) := H2.out.2.2.2.cell 0
    have d1 : w2.cell? ⟨qb, 1, none⟩ = some (.bool q.2.1) := H2.out.2.2.2.cell 1
    have d2 : w2.cell? ⟨qb, 2, none⟩ = some (.int .i32 q.2.2) := H2.out.2.2.2.cell 2
    go_wp2_with fail
    refine (is_any tb q _ H2.out.1 HF.out.2).mono ?_
    rintro e w3 ⟨rfl, hb⟩
    have H3 := Lib.hid (And.intro (H2.out.1.on hb) (And.intro (H2.out.2.1.trans (hb.mono H2.out.2.1.size)) (And.intro (H2.out.2.2.1.below hb H2.out.2.2.1.lt) (H2.out.2.2.2.below hb H2.out.2.2.2.lt))))
    clear hb H2 d0 d1 d2
    cases hG : isF q with
    | false =>
      have HG := Lib.hid (show apV p q = 0 ∧ apE p q = 2 by unfold apV apE; rw [HFP.out, hG]; exact ⟨rfl, rfl⟩)
      clear hG
      go_wp2
      go_ret2
      exact ⟨by rw [HG.out.1, HG.out.2]; rfl, H3.out.2.1⟩
    | true =>
      have HG := Lib.hid (show apV p q = apartF p q ∧ apE p q = 0 by unfold apV apE; rw [HFP.out, hG]; exact ⟨rfl, rfl⟩)
      clear hG
      have c0 : w3.cell? ⟨pb, 0, none⟩ = some (.int .i32 p.1) := H3.out.2.2.1.cell 0
      have c1 : w3.cell? ⟨pb, 1, none⟩ = some (.bool p.2.1) := H3.out.2.2.1.cell 1
      have c2 : w3.cell? ⟨pb, 2, none⟩ = some (.int .i32 p.2.2) := H3.out.2.2.1.cell 2
      have d0 : w3.cell? ⟨qb, 0, none⟩ = some (.int .i32 q.1) := H3.out.2.2.2.cell 0
      have d1 : w3.cell? ⟨qb, 1, none⟩ = some (.bool q.2.1) := H3.out.2.2.2.cell 1
      have d2 : w3.cell? ⟨qb, 2, none⟩ = some (.int .i32 q.2.2) := H3.out.2.2.2.cell 2
      go_wp2_with fail
      refine (apart_any tb p q _ H3.out.1 HF.out.1 HF.out.2).mono ?_
      rintro e w4 ⟨rfl, hb⟩
      have H4 := Lib.hid (H3.out.2.1.trans (hb.mono H3.out.2.1.size))
      clear hb
      go_wp2
      go_ret2
      exact ⟨by rw [HG.out.1, HG.out.2]; rfl, H4.out⟩
end Go.Proofs.Ytogofchpocoebaa

namespace Go.Proofs.Ytogofchpocoebaa

/-- is the next pair of the alignment from i and k on both phones? only the first row's? -/
def alB (a b : List Ph) (i k : Nat) : Bool := decide (i < a.length) && decide (k < b.length) && decide (cs a b i k = apartF (a.getD i (0, false, 0)) (b.getD k (0, false, 0)) + cs a b (i + 1) (k + 1))
def alA (a b : List Ph) (i k : Nat) : Bool := decide (i < a.length) && decide (cs a b i k = loneF (a.getD i (0, false, 0)) + cs a b (i + 1) k)
/-- the alignment from a pair of places on -/
def alGo (a b : List Ph) : Nat → Nat → Nat → List (Int × Int)
  | 0, _, _ => []
  | f + 1, i, k => if i < a.length ∨ k < b.length then
      if alB a b i k then ((i : Int), (k : Int)) :: alGo a b f (i + 1) (k + 1)
      else if alA a b i k then ((i : Int), -1) :: alGo a b f (i + 1) k
      else (-1, (k : Int)) :: alGo a b f i (k + 1) else []
def alL (a b : List Ph) : List (Int × Int) := alGo a b (a.length + b.length + 1) 0 0
theorem alGo_end {a b : List Ph} {f i k : Nat} (h : ¬ (i < a.length ∨ k < b.length)) : alGo a b f i k = [] := by
  cases f with
  | zero => rfl
  | succ f => unfold alGo; rw [if_neg h]
/-- in the third case the second row is not at its end -/
theorem al_third {a b : List Ph} {i k : Nat} (h : i < a.length ∨ k < b.length) (h2 : alA a b i k = false) : k < b.length := by
  rcases Nat.lt_or_ge k b.length with hk | hk
  · exact hk
  · exfalso
    have hi : i < a.length := by omega
    have := cs_a hi hk
    unfold alA at h2
    rw [List.getD_eq_getElem?_getD, List.getElem?_eq_getElem hi] at h2
    simp [hi, this] at h2
theorem alGo_step {a b : List Ph} {f i k : Nat} (h : i < a.length ∨ k < b.length) (hf : (a.length - i) + (b.length - k) < f) :
    ∃ f', (alB a b i k = true → (a.length - (i + 1)) + (b.length - (k + 1)) < f' ∧ alGo a b f i k = ((i : Int), (k : Int)) :: alGo a b f' (i + 1) (k + 1)) ∧
      (alB a b i k = false → alA a b i k = true → (a.length - (i + 1)) + (b.length - k) < f' ∧ alGo a b f i k = ((i : Int), -1) :: alGo a b f' (i + 1) k) ∧
      (alB a b i k = false → alA a b i k = false → (a.length - i) + (b.length - (k + 1)) < f' ∧ alGo a b f i k = (-1, (k : Int)) :: alGo a b f' i (k + 1)) := by
  cases f with
  | zero => omega
  | succ f =>
    refine ⟨f, fun h1 => ⟨?_, ?_⟩, fun h1 h2 => ⟨?_, ?_⟩, fun h1 h2 => ⟨?_, ?_⟩⟩
    · unfold alB at h1
      simp only [Bool.and_eq_true, decide_eq_true_eq] at h1
      omega
    · conv => lhs; unfold alGo
      rw [if_pos h, if_pos h1]
    · unfold alA at h2
      simp only [Bool.and_eq_true, decide_eq_true_eq] at h2
      omega
    · conv => lhs; unfold alGo
      rw [if_pos h, h1, if_neg (by decide), if_pos h2]
    · have := al_third h h2
      omega
    · conv => lhs; unfold alGo
      rw [if_pos h, h1, h2, if_neg (by decide), if_neg (by decide)]
end Go.Proofs.Ytogofchpocoebaa
