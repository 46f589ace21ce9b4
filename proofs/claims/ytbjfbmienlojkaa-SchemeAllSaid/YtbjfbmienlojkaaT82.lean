/- The reference's Unrank. -/
import Derived.Test.YtbjfbmienlojkaaT81
namespace Go.Proofs.Ytbjfbmienlojkaa
open Go.RowKit

/-- memory while the reference's Unrank runs -/
structure UrSt (w0 : World) (lv : Value) (out : List (Int × Int)) (w : World) : Prop where
  b4 : Blk w w0.heap.size 26 #[.slice none 0 0, .slice none 0 0]
  b5 : Blk w (w0.heap.size + 1) 26 #[lv, .slice none 0 0]
  own : w.ownsRow (w0.heap.size + 2) 66 2 lv out.length (prs out)
  below : Below w0.heap.size w0 w
theorem UrSt.on {w0 : World} {lv : Value} {out : List (Int × Int)} {w w' : World} (h : UrSt w0 lv out w) (hb : Below w.heap.size w w') : UrSt w0 lv out w' :=
  ⟨h.b4.below hb h.b4.lt, h.b5.below hb h.b5.lt, own_stay h.own (Only.of_below hb _), h.below.trans (hb.mono h.below.size)⟩
theorem UrSt.app {w0 : World} {lv lv' : Value} {out : List (Int × Int)} {w w' : World} (h : UrSt w0 lv out w) (x : Int × Int) (ho : w'.ownsRow (w0.heap.size + 2) 66 2 lv' (out.length + 1) (prs out ++ [.int .i64 x.1, .int .i64 x.2])) (hg : w.grownBy w' lv.ownBlock) :
    UrSt w0 lv' (out ++ [x]) (w'.setCell ⟨w0.heap.size + 1, 0, none⟩ lv') ∧ Blk w' (w0.heap.size + 1) 26 #[lv, .slice none 0 0] := by
  have hO : Only (fun k => lv.ownBlock = some k) w w' := (Only.refl _ _).grown hg (fun _ hg => .inl hg)
  have b5 : Blk w' (w0.heap.size + 1) 26 #[lv, .slice none 0 0] := h.b5.only hO (fun hk => by have := (h.own.lt _ hk).1; omega)
  have b4 : Blk w' w0.heap.size 26 #[.slice none 0 0, .slice none 0 0] := h.b4.only hO (fun hk => by have := (h.own.lt _ hk).1; omega)
  have hB : Below w0.heap.size w0 w' := h.below.trans (hO.below h.below.size (fun k hk hh => by have := (h.own.lt _ hh).1; omega))
  refine ⟨⟨b4.far (by simp) _, ?_, ?_, hB.setCell (by simp) _⟩, b5⟩
  · have := b5.set_ 0 lv'
    simpa using this
  · rw [prs_append, List.length_append]; exact own_setCell ho (by simp) _

theorem urst_init (w : World) : UrSt w (.slice none 0 0) [] ((w.alloc (.cells #[.slice none 0 0, .slice none 0 0] 26)).alloc (.cells #[.slice none 0 0, .slice none 0 0] 26)) :=
  ⟨(Blk.new _ _ _).alloc _, blk_new_eq (by simp), World.ownsRow_nil _ _ _ _, ((Below.refl _ _).alloc (Nat.le_refl _) _).alloc (by simp) _⟩

set_option maxHeartbeats 4000000 in
set_option maxRecDepth 100000 in
theorem refUnrank_any (n k : Nat) (w : World) (hn : n ≤ 25) (hk : k < tN n 0) :
    Calls Try.prog 20 #[.int .i64 n, .int .i64 k] w fun e w' => ∃ A c B d, e = .returned (.agg #[.slice A n c, .slice B (plainS n).length d]) ∧
      w'.ownsRow w.heap.size 66 2 (.slice A n c) n (prs (unL n k n)) ∧ w'.ownsRow w.heap.size 3 1 (.slice B (plainS n).length d) (plainS n).length ((plainS n).map (Value.int .i64)) ∧ Below w.heap.size w w' := by
  have hb63 := tN_le n 0 (by omega)
  obtain ⟨i0, hi, hz0, hz1, hz2⟩ := info_parts info66
  have HI := Lib.hid (And.intro hi (And.intro hz0 (And.intro hz1 hz2)))
  clear hi hz0 hz1 hz2
  have hk63 : k ≤ 4638590332229999353 := by omega
  clear hk hb63
  go_enter Try.func20, Try.ntmps20
  go_upto_region 2 with (fail)
  refine wp_abs (UrSt w (.slice none 0 0) []) (urst_init w) ?_
  intro w1 hS
  have HS := Lib.hid hS
  clear hS
  go_wp2
  go_loopw [1, 6, 7] (fun kv cv iv wr => ∃ (i : Nat) (lx : Value), i ≤ n ∧ iv = .int .i64 i ∧ kv = .int .i64 (unS n k i).1 ∧ cv = .int .i64 (unS n k i).2 ∧ Hid (UrSt w lx (unL n k i) wr)) (fun _ _ iv _ => n - (intOf iv).toNat)
  case atStart => exact ⟨0, _, Nat.zero_le _, rfl, rfl, rfl, HS⟩
  case round =>
    obtain ⟨i, lv, hin, rfl, rfl, rfl, HR⟩ := hrel
    clear HS
    have hll := unL_len n k i
    by_cases hlt : i < n
    · have hbd := unS_bd n k i
      have hcl := unC_le n k i
      have hmul := unC_mul n k i
      have hs := unS_succ n k i
      have hls := unL_succ n k i
      have hup : ∀ x, x ≤ unC n k i → ((x < (unS n k i).2 ∧ tN (n - 1 - i) (unS n k i).2 ≤ (unS n k i).1 - x * tN (n - 1 - i) (unS n k i).2) ↔ x < unC n k i) := fun x hx => unC_up hx
      have htl := tN_le (n - 1 - i) (unS n k i).2 (by omega)
      generalize unC n k i = y at *
      generalize hcc : unS n k i = st at *
      obtain ⟨r, c⟩ := st
      dsimp only at *
      generalize htm : tN (n - 1 - i) c = t at *
      have HUP := Lib.hid hup
      have HSU := Lib.hid (And.intro hs hls)
      have HLL := Lib.hid hll
      have HMU := Lib.hid hmul
      have HTM := Lib.hid htm
      have hl25 : (unL n k i).length ≤ 25 := by omega
      clear hup hs hls hll hmul htm hcc
      obtain ⟨wo, hwo⟩ : ∃ wo : World, wo = wr := ⟨_, rfl⟩
      subst hwo
      go_wp2
      go_loopw [1, 9] (fun kv xv wr => ∃ x : Nat, x ≤ y ∧ xv = .int .i64 x ∧ kv = .int .i64 ((r - x * t : Nat) : Int) ∧ Hid (UrSt w lv (unL n k i) wr)) (fun _ xv _ => y - (intOf xv).toNat)
      case atStart => exact ⟨0, Nat.zero_le _, rfl, by simp, HR⟩
      case round =>
        obtain ⟨x, hxy, rfl, rfl, HX⟩ := hrel
        clear HR
        have hiff := HUP.out x hxy
        have hxt := Nat.mul_le_mul_right t hxy
        have hmu := HMU.out
        by_cases hx : x < y
        · obtain ⟨g1, g2⟩ := hiff.2 hx
          have hsub : r - (x + 1) * t = r - x * t - t := by rw [Nat.add_mul, Nat.one_mul]; omega
          have hrl : r - x * t ≤ r := Nat.sub_le _ _
          generalize r - x * t = r1 at *
          have HSB := Lib.hid hsub
          have hd1 : decide ((t : Int) ≤ (r1 : Int)) = true := by simp; omega
          clear hsub hiff hxt hmu
          go_wp2_with fail
          refine (ways_at _ (n - 1 - i) c _ (by omega) (by omega)).mono ?_
          rw [HTM.out]
          rintro e v1 ⟨rfl, hb⟩
          have HV := Lib.hid (HX.out.on hb)
          clear hb HX
          go_wp2_with fail
          refine (ways_at _ (n - 1 - i) c _ (by omega) (by omega)).mono ?_
          rw [HTM.out]
          rintro e v2 ⟨rfl, hb⟩
          have HW := Lib.hid (HV.out.on hb)
          clear hb HV
          go_wp2
          go_roundw
          case rel => exact ⟨x + 1, by omega, by go_num, by rw [HSB.out]; congr 1; omega, HW⟩
          case measure => simp [intOf]; omega
        · obtain rfl : y = x := by omega
          have hmax : max (c : Int) ((y : Int) + 1) = (((if y = c then c + 1 else c : Nat)) : Int) := by split <;> omega
          generalize (if y = c then c + 1 else c) = c' at *
          generalize hr1 : r - y * t = r1 at *
          have hr1l : r1 ≤ r := by omega
          have HR1 := Lib.hid hr1
          have HIF := Lib.hid hiff
          clear hxt hmu hr1 hiff
          obtain ⟨XV, XC, rfl⟩ := own_slice HX.out.own
          by_cases hyc : y = c
          · have hd0 : decide ((y : Int) < (c : Int)) = false := by simp; omega
            have hd0' : decide (y < c) = false := by simp; omega
            clear hyc
            have hbs := HX.out.b5.lt
            have c50 : wr.cell? ⟨w.heap.size + 1, 0, none⟩ = some (.slice XV (unL n k i).length XC) := HX.out.b5.cell 0
            go_wp2_with (at_builtin; go_must (refine wpList_append_rd _ rfl _ _ 23 rfl (w.heap.size + 2) 66 i0 (.agg #[.int .i64 0, .int .i64 0]) 2 16 Try.underlying23 HI.out.1 HI.out.2.1 HI.out.2.2.1 HI.out.2.2.2 rfl (by decide) _ _ _ rfl (HX.out.own.alloc _) _ _ _ 1 1 _ rfl (rd_newP _ _ _ _) (by simp [Value.oneCell']) (by unfold maxLen; omega) (by omega) (by simp; omega) ?_; intro v4 w4 _ hown hgrow _; obtain ⟨X4, C4, rfl⟩ := own_slice hown; have HN := Lib.hid ((HX.out.on ((Below.refl _ _).alloc (Nat.le_refl _) _)).app ((y : Int), 0) hown hgrow); have d0 : w4.cell? ⟨w.heap.size + 1, 0, none⟩ = some (.slice XV (unL n k i).length XC) := HN.out.2.cell 0; have d1 : w4.frozen? ⟨w.heap.size + 1, 0, none⟩ = false := HN.out.2.frozen 0; clear hown hgrow))
            go_roundw
            case rel => exact ⟨i + 1, _, by omega, by go_num, by rw [HSU.out.1], by rw [HSU.out.1], Lib.hid (by rw [HSU.out.2]; exact HN.out.1)⟩
            case measure => simp [intOf]; omega
          · have hlt' : y < c := by omega
            have htr : ¬ t ≤ r1 := fun h => absurd (HIF.out.1 ⟨hlt', h⟩) (Nat.lt_irrefl _)
            have hd1 : decide ((t : Int) ≤ (r1 : Int)) = false := by simp; omega
            have hd1' : decide (t ≤ r1) = false := by simp; omega
            clear htr
            go_wp2_with fail
            refine (ways_at _ (n - 1 - i) c _ (by omega) (by omega)).mono ?_
            rw [HTM.out]
            rintro e v1 ⟨rfl, hb⟩
            have HV := Lib.hid (HX.out.on hb)
            clear hb HX
            have hbs := HV.out.b5.lt
            have c50 : v1.cell? ⟨w.heap.size + 1, 0, none⟩ = some (.slice XV (unL n k i).length XC) := HV.out.b5.cell 0
            go_wp2_with (at_builtin; go_must (refine wpList_append_rd _ rfl _ _ 23 rfl (w.heap.size + 2) 66 i0 (.agg #[.int .i64 0, .int .i64 0]) 2 16 Try.underlying23 HI.out.1 HI.out.2.1 HI.out.2.2.1 HI.out.2.2.2 rfl (by decide) _ _ _ rfl (HV.out.own.alloc _) _ _ _ 1 1 _ rfl (rd_newP _ _ _ _) (by simp [Value.oneCell']) (by unfold maxLen; omega) (by omega) (by simp; omega) ?_; intro v4 w4 _ hown hgrow _; obtain ⟨X4, C4, rfl⟩ := own_slice hown; have HN := Lib.hid ((HV.out.on ((Below.refl _ _).alloc (Nat.le_refl _) _)).app ((y : Int), 0) hown hgrow); have d0 : w4.cell? ⟨w.heap.size + 1, 0, none⟩ = some (.slice XV (unL n k i).length XC) := HN.out.2.cell 0; have d1 : w4.frozen? ⟨w.heap.size + 1, 0, none⟩ = false := HN.out.2.frozen 0; clear hown hgrow))
            go_roundw
            case rel => exact ⟨i + 1, _, by omega, by go_num, by rw [HSU.out.1], by rw [HSU.out.1], Lib.hid (by rw [HSU.out.2]; exact HN.out.1)⟩
            case measure => simp [intOf]; omega
    · obtain rfl : n = i := by omega
      have ho := HR.out.own
      rw [unL_len] at ho
      obtain ⟨A, C, rfl⟩ := own_slice ho
      have HO := Lib.hid ho
      clear ho hll
      have c50 : wr.cell? ⟨w.heap.size + 1, 0, none⟩ = some (.slice A n C) := HR.out.b5.cell 0
      have c51 : wr.cell? ⟨w.heap.size + 1, 1, none⟩ = some (.slice none 0 0) := HR.out.b5.cell 1
      have f51 := HR.out.b5.frozen 1
      have hbs := HR.out.b5.lt
      obtain ⟨e0, e1, f0, f1⟩ := box_none HR.out.b4
      by_cases h0 : n = 0
      · subst h0
        go_wp2
        have HF := (HR.out.b4.set_ 0 (.slice A 0 C)).set_ 1 (.slice none 0 0)
        have g0 := HF.cell 0
        have g1 := HF.cell 1
        simp at g0 g1
        refine bodyPost_ret (v := .agg #[.slice A 0 C, .slice none 0 0]) (by simp [results, Try.results20, go_sem, g0, g1]) rfl ?_
        exact ⟨A, C, none, 0, rfl, own_more (own_setCell (own_setCell HO.out (by simp) _) (by simp) _) (by omega), World.ownsRow_nil _ _ _ _, (HR.out.below.setCell (by simp) _).setCell (by simp) _⟩
      · have hp : plainS n = [(n : Int)] := if_neg h0
        have hb : decide ((0 : Int) < (n : Int)) = true := by simp; omega
        have hb2 : decide (0 < n) = true := by simp; omega
        have HP := Lib.hid hp
        clear hp h0
        go_upto_region 15 with (fail)
        refine wp_abs (fun wx => Blk wx w.heap.size 26 #[.slice none 0 0, .slice none 0 0] ∧ Blk wx (w.heap.size + 1) 26 #[.slice A n C, .slice (some ⟨wr.heap.size, 0, none⟩) 1 1] ∧ Blk wx wr.heap.size 3 #[.int .i64 n] ∧ wx.ownsRow (w.heap.size + 2) 66 2 (.slice A n C) n (prs (unL n k n)) ∧ Below w.heap.size w wx) ⟨(HR.out.b4.far (by simp) _).alloc _, by simpa using (HR.out.b5.set_ 1 (.slice (some ⟨wr.heap.size, 0, none⟩) 1 1)).alloc (.cells #[.int .i64 n] 3), blk_new_eq (by simp), (own_setCell HO.out (by simp) _).alloc _, (HR.out.below.setCell (by simp) _).alloc (by have := HR.out.below.size; simpa using this) _⟩ ?_
        rintro wx ⟨k4, k5, kn, ho, hbl⟩
        have HX := Lib.hid (And.intro k4 (And.intro kn (And.intro ho hbl)))
        have m0 : wx.cell? ⟨w.heap.size + 1, 0, none⟩ = some (.slice A n C) := k5.cell 0
        have m1 : wx.cell? ⟨w.heap.size + 1, 1, none⟩ = some (.slice (some ⟨wr.heap.size, 0, none⟩) 1 1) := k5.cell 1
        obtain ⟨e0, e1, f0, f1⟩ := box_none k4
        clear k4 k5 kn ho hbl
        go_wp2
        have HF := (HX.out.1.set_ 0 (.slice A n C)).set_ 1 (.slice (some ⟨wr.heap.size, 0, none⟩) 1 1)
        have g0 := HF.cell 0
        have g1 := HF.cell 1
        simp at g0 g1
        refine bodyPost_ret (v := .agg #[.slice A n C, .slice (some ⟨wr.heap.size, 0, none⟩) 1 1]) (by simp [results, Try.results20, go_sem, g0, g1]) rfl ?_
        rw [HP.out]
        exact ⟨A, C, _, 1, rfl, own_more (own_setCell (own_setCell HX.out.2.2.1 (by simp) _) (by simp) _) (by omega), own_lit ((HX.out.2.1.far (by simp; omega) _).far (by simp; omega) _) (by omega), (HX.out.2.2.2.setCell (by simp) _).setCell (by simp) _⟩
end Go.Proofs.Ytbjfbmienlojkaa
