/- The reference's Read. -/
import Derived.Test.YtogofchpocoebaaW21
import Derived.Deep.DeepMust
namespace Go.Proofs.Ytogofchpocoebaa
open Go.RowKit Go.Maps

theorem rf_end {w0 W : World} {v0 v1 : Value} {e a : Int} {tmps : Array Value} {R : Ending → World → Prop} (hr : Blk W w0.heap.size 68 #[.int .i64 e, .int .i64 a])
    (t2 : tmps[2]? = some v0) (t3 : tmps[3]? = some v1) (t4 : tmps[4]? = some (.pointer (some ⟨w0.heap.size, 0, none⟩))) (hR : R (.returned (.tuple #[v0, v1, .agg #[.int .i64 e, .int .i64 a]])) W) :
    bodyPost Try.prog Try.f87 R .ret { tmps := tmps, defers := [] } W := by
  have c0 : W.cell? ⟨w0.heap.size, 0, none⟩ = some (.int .i64 e) := hr.cell 0
  have c1 : W.cell? ⟨w0.heap.size, 1, none⟩ = some (.int .i64 a) := hr.cell 1
  exact bodyPost_ret (v := .tuple #[v0, v1, .agg #[.int .i64 e, .int .i64 a]]) (by simp [results, Try.results87, go_sem, t2, t3, t4, c0, c1]) rfl hR
theorem rf_bad {w0 : World} {v5 v6 : Value} {ps : List Ph} {out : List Sy} {x : Sy} {W : World} {tmps : Array Value} {l : List UInt8} {e a : Int} (h : RfSt w0 v5 v6 ps out x W) (hs : srL l = ([], [], e, a))
    (t2 : tmps[2]? = some (.slice none 0 0)) (t3 : tmps[3]? = some (.slice none 0 0)) (t4 : tmps[4]? = some (.pointer (some ⟨w0.heap.size, 0, none⟩))) :
    bodyPost Try.prog Try.f87 (SrPost l w0) .ret { tmps := tmps, defers := [] } ((W.setCell ⟨w0.heap.size, 0, none⟩ (.int .i64 e)).setCell ⟨w0.heap.size, 1, none⟩ (.int .i64 a)) := by
  have hb := (h.below.setCell (p := ⟨w0.heap.size, 0, none⟩) (Nat.le_refl _) (.int .i64 e)).setCell (p := ⟨w0.heap.size, 1, none⟩) (Nat.le_refl _) (.int .i64 a)
  have h2 := (h.rs.set_ 0 (.int .i64 e)).set_ 1 (.int .i64 a)
  exact rf_end (by simpa using h2) t2 t3 t4 ⟨_, _, by rw [hs], by rw [hs]; exact World.ownsRow_nil _ _ _ _, by rw [hs]; exact World.ownsRow_nil _ _ _ _, hb⟩
theorem rf_good {w0 : World} {v5 v6 : Value} {ps : List Ph} {out : List Sy} {x : Sy} {W : World} {tmps : Array Value} {l : List UInt8} (h : RfSt w0 v5 v6 ps out x W) (hs : srL l = (ps, out, 0, 0))
    (t2 : tmps[2]? = some v5) (t3 : tmps[3]? = some v6) (t4 : tmps[4]? = some (.pointer (some ⟨w0.heap.size, 0, none⟩))) :
    bodyPost Try.prog Try.f87 (SrPost l w0) .ret { tmps := tmps, defers := [] } ((W.setCell ⟨w0.heap.size, 0, none⟩ (.int .i64 0)).setCell ⟨w0.heap.size, 1, none⟩ (.int .i64 0)) := by
  have hb := (h.below.setCell (p := ⟨w0.heap.size, 0, none⟩) (Nat.le_refl _) (.int .i64 0)).setCell (p := ⟨w0.heap.size, 1, none⟩) (Nat.le_refl _) (.int .i64 0)
  have h2 := (h.rs.set_ 0 (.int .i64 0)).set_ 1 (.int .i64 0)
  have n0 : v5.ownBlock ≠ some w0.heap.size := fun e => by have := (h.ownP.lt _ e).1; omega
  have n1 : v6.ownBlock ≠ some w0.heap.size := fun e => by have := (h.ownS.lt _ e).1; omega
  have k0 := own_far (own_far h.ownP (p := ⟨w0.heap.size, 0, none⟩) n0 (.int .i64 0)) (p := ⟨w0.heap.size, 1, none⟩) n0 (.int .i64 0)
  have k1 := own_far (own_far h.ownS (p := ⟨w0.heap.size, 0, none⟩) n1 (.int .i64 0)) (p := ⟨w0.heap.size, 1, none⟩) n1 (.int .i64 0)
  exact rf_end (by simpa using h2) t2 t3 t4 ⟨_, _, by rw [hs], by rw [hs]; exact own_more k0 (by omega), by rw [hs]; exact own_more k1 (by omega), hb⟩

set_option maxHeartbeats 32000000 in
set_option maxRecDepth 100000 in
theorem refSread_any (s : ByteArray) (w : World) (hz : s.size ≤ maxLen) : Calls Try.prog 87 #[.string s] w (SrPost s.data.toList w) := by
  have hz' := hz
  unfold maxLen at hz
  have hsl : s.data.toList.length = s.size := rfl
  have HSL := Lib.hid hsl
  obtain ⟨k0, hk0, kz0, kz1, kz2⟩ := info_parts info37
  have HK := Lib.hid (And.intro hk0 (And.intro kz0 (And.intro kz1 kz2)))
  obtain ⟨i0, hi0, iz0, iz1, iz2⟩ := info_parts info43a
  have HI := Lib.hid (And.intro hi0 (And.intro iz0 (And.intro iz1 iz2)))
  clear hsl hk0 kz0 kz1 kz2 hi0 iz0 iz1 iz2
  go_enter Try.func87, Try.ntmps87
  go_upto_region 4 with (fail)
  refine wp_abs (RfSt w (.slice none 0 0) (.slice none 0 0) [] [] (0, -1, 0, 0, false)) ?fs ?_
  case fs =>
    have hb : Below w.heap.size w ((w.alloc (.cells #[.int .i64 0, .int .i64 0] 68)).alloc (.cells #[.int .i64 0, .int .i64 (-1), .int .i64 0, .int .i64 0, .bool false] 37)) := ((Below.refl _ _).alloc (Nat.le_refl _) _).alloc (by simp) _
    exact ⟨(Blk.new _ _ _).alloc _, blk_new_eq (by simp), World.ownsRow_nil _ _ _ _, World.ownsRow_nil _ _ _ _, hb⟩
  intro w3 hS
  have H3 := Lib.hid hS
  clear hS
  go_wp2
  go_loopw [5, 6, 8, 9, 10, 11, 12, 13] (fun v5 v6 v8 v9 v10 _ _ _ wr => ∃ (at_ : Nat) (ps : List Ph) (out : List Sy) (fr nu st : Int) (vs : Nat) (sg : Bool) (fuel : Nat), v10 = .int .i64 at_ ∧ v8 = .int .i64 vs ∧ v9 = .bool sg ∧ at_ ≤ s.size ∧ s.size - at_ < fuel ∧ ps.length ≤ 128 ∧ vs ≤ 64 ∧ out.length + (if nu < 0 then 0 else 1) ≤ vs ∧ (nu < 0 ∨ nu < (ps.length : Int)) ∧ Hid (srL s.data.toList = srGo s.data.toList fuel at_ ps (hvL ps out) fr nu st vs sg ∧ ∀ z ∈ out, 0 ≤ z.nu ∧ z.nu < ps.length) ∧ Hid (RfSt w v5 v6 ps out (fr, nu, 0, st, false) wr)) (fun _ _ _ _ v10 _ _ _ _ => s.size - (intOf v10).toNat)
  case atStart => exact ⟨0, [], [], 0, -1, 0, 0, false, s.size + 1, rfl, rfl, rfl, by omega, by omega, by simp, by omega, by simp, .inl (by omega), Lib.hid ⟨by unfold srL; rw [HSL.out]; rfl, by simp⟩, H3⟩
  case round =>
    clear H3
    obtain ⟨at_, ps, out, fr, nu, st, vs, sg, fuel, rfl, rfl, rfl, p1, p4, p5, p6, p7, p8, HQ, HR⟩ := hrel
    obtain ⟨A5, c5, e5⟩ := own_slice HR.out.ownP
    obtain ⟨A6, c6, e6⟩ := own_slice HR.out.ownS
    subst e5 e6
    by_cases hlt : at_ < s.size
    · have ddl : (at_ : Int) < (s.size : Int) := by omega
      have a0 : (0 : Int) ≤ (at_ : Int) := by omega
      obtain ⟨fu, rfl⟩ : ∃ k, fuel = k + 1 := ⟨fuel - 1, by omega⟩
      have HGO := Lib.hid (show srL s.data.toList = if 0 < (signL (s.data.toList.drop at_)).2 then
          if at_ = 0 ∧ (signL (s.data.toList.drop at_)).2 = 1 ∨ sg = true then ([], [], 111, (at_ : Int))
          else if 0 < at_ ∧ nu < 0 then ([], [], 110, (at_ : Int))
          else if at_ + (signL (s.data.toList.drop at_)).2 = s.size then ([], [], 111, (at_ : Int))
          else srGo s.data.toList fu (at_ + (signL (s.data.toList.drop at_)).2) ps (if 0 < at_ then hvL ps out ++ [shutS ps fr nu st] else hvL ps out) (ps.length : Int) (-1) (signL (s.data.toList.drop at_)).1 vs true
        else if (nextL (s.data.toList.drop at_)).2 = 0 then ([], [], 80, (at_ : Int))
        else if ps.length = 128 then ([], [], 3, (at_ : Int))
        else if vowF (nextL (s.data.toList.drop at_)).1 then
          if 0 ≤ nu then ([], [], 110, (at_ : Int)) else if vs = 64 then ([], [], 3, (at_ : Int))
          else srGo s.data.toList fu (at_ + (nextL (s.data.toList.drop at_)).2) (ps ++ [(nextL (s.data.toList.drop at_)).1]) (hvL ps out) fr (ps.length : Int) st (vs + 1) false
        else srGo s.data.toList fu (at_ + (nextL (s.data.toList.drop at_)).2) (ps ++ [(nextL (s.data.toList.drop at_)).1]) (hvL ps out) fr nu st vs false by
          rw [HQ.out.1]
          conv => lhs; unfold srGo
          rw [if_pos (by rw [HSL.out]; exact hlt), HSL.out])
      have HNU := Lib.hid HQ.out.2
      have hsl1 := (sign_le (s.data.toList.drop at_)).1
      rw [List.length_drop, HSL.out] at hsl1
      have hsl2 := (sign_le (s.data.toList.drop at_)).2
      have HZ0 := Lib.hid (fun (h : 0 < s.size) (h0 : at_ = 0) (hw : 0 < (signL (s.data.toList.drop at_)).2) => show (((s[0]'h).toNat : Int) == 46) = decide ((signL (s.data.toList.drop at_)).2 = 1) by
        subst h0
        rw [List.drop_zero] at hw ⊢
        exact sign_zero s h hw)
      clear HQ
      go_wp2_with fail
      refine (refSign_any s at_ _ hz' hlt).mono ?_
      rintro e w2 ⟨rfl, hb⟩
      generalize (signL (s.data.toList.drop at_)).1 = sst at *
      generalize (signL (s.data.toList.drop at_)).2 = wd at *
      have H2 := Lib.hid (HR.out.on hb)
      clear hb HR
      have w_at : IntKind.i64.wrap ((at_ : Int) + (wd : Int)) = ((at_ + wd : Nat) : Int) := by rw [IntWalk.i64_in _ (by omega)]; omega
      have hs0 : 0 < s.size := by omega
      have iz : (0 : Int) < (s.size : Int) := by omega
      by_cases hw : 0 < wd
      · have dw : decide ((0 : Int) < (wd : Int)) = true := decide_eq_true (by omega)
        have HG1 := Lib.hid (show srL s.data.toList = if at_ = 0 ∧ wd = 1 ∨ sg = true then ([], [], 111, (at_ : Int))
          else if 0 < at_ ∧ nu < 0 then ([], [], 110, (at_ : Int))
          else if at_ + wd = s.size then ([], [], 111, (at_ : Int))
          else srGo s.data.toList fu (at_ + wd) ps (if 0 < at_ then hvL ps out ++ [shutS ps fr nu st] else hvL ps out) (ps.length : Int) (-1) sst vs true by rw [HGO.out, if_pos hw])
        have HZ1 := Lib.hid (fun h0 : at_ = 0 => HZ0.out hs0 h0 hw)
        clear HGO HZ0
        have g0 : w2.frozen? ⟨w.heap.size, 0, none⟩ = false := H2.out.rs.frozen 0
        have g1 : w2.frozen? ⟨w.heap.size, 1, none⟩ = false := H2.out.rs.frozen 1
        have y0 : w2.cell? ⟨w.heap.size, 0, none⟩ = some (.int .i64 0) := H2.out.rs.cell 0
        have y1 : w2.cell? ⟨w.heap.size, 1, none⟩ = some (.int .i64 0) := H2.out.rs.cell 1
        have x1 : w2.cell? ⟨w.heap.size + 1, 1, none⟩ = some (.int .i64 nu) := H2.out.bx.cell 1
        by_cases hat0 : at_ = 0
        · have b0 : ((at_ : Int) == 0) = true := by rw [hat0]; rfl
          have b0g : decide ((0 : Int) < (at_ : Int)) = false := decide_eq_false (by omega)
          have b0n : ¬ 0 < at_ := by omega
          have hz46 := HZ1.out hat0
          have HAT := Lib.hid hat0
          clear hat0 HZ1
          by_cases hwd1 : wd = 1
          · have z46 : (((s[0]'hs0).toNat : Int) == 46) = true := by rw [hz46]; exact decide_eq_true hwd1
            have HB := Lib.hid (show srL s.data.toList = ([], [], 111, (at_ : Int)) by rw [HG1.out, if_pos (.inl ⟨HAT.out, hwd1⟩)])
            clear hz46 hwd1
            go_wp2
            exact rf_bad H2.out HB.out rfl rfl rfl
          have z46 : (((s[0]'hs0).toNat : Int) == 46) = false := by rw [hz46]; exact decide_eq_false hwd1
          cases sg with
          | true =>
            have HB := Lib.hid (show srL s.data.toList = ([], [], 111, (at_ : Int)) by rw [HG1.out, if_pos (.inr rfl)])
            clear hz46 hwd1
            go_wp2
            exact rf_bad H2.out HB.out rfl rfl rfl
          | false =>
            have HG2 := Lib.hid (show srL s.data.toList = if at_ + wd = s.size then ([], [], 111, (at_ : Int)) else srGo s.data.toList fu (at_ + wd) ps (hvL ps out) (ps.length : Int) (-1) sst vs true by
              rw [HG1.out, if_neg (by rintro (h | h); exact hwd1 h.2; cases h), if_neg (fun h => by have := HAT.out; omega), if_neg (by have := HAT.out; omega : ¬ 0 < at_)])
            clear hz46 hwd1 HG1
            by_cases hend : at_ + wd = s.size
            · have be : (((at_ + wd : Nat) : Int) == (s.size : Int)) = true := by rw [hend]; simp
              have HB := Lib.hid (show srL s.data.toList = ([], [], 111, (at_ : Int)) by rw [HG2.out, if_pos hend])
              clear hend
              go_wp2
              exact rf_bad H2.out HB.out rfl rfl rfl
            · have be : (((at_ + wd : Nat) : Int) == (s.size : Int)) = false := beq_eq_false_iff_ne.2 (by omega)
              have HN := Lib.hid (show srL s.data.toList = srGo s.data.toList fu (at_ + wd) ps (hvL ps out) (ps.length : Int) (-1) sst vs true by rw [HG2.out, if_neg hend])
              clear hend HG2
              have f0 : w2.frozen? ⟨w.heap.size + 1, 0, none⟩ = false := H2.out.bx.frozen 0
              have f1 : w2.frozen? ⟨w.heap.size + 1, 1, none⟩ = false := H2.out.bx.frozen 1
              have f2 : w2.frozen? ⟨w.heap.size + 1, 2, none⟩ = false := H2.out.bx.frozen 2
              have f3 : w2.frozen? ⟨w.heap.size + 1, 3, none⟩ = false := H2.out.bx.frozen 3
              have f4 : w2.frozen? ⟨w.heap.size + 1, 4, none⟩ = false := H2.out.bx.frozen 4
              have x0 : w2.cell? ⟨w.heap.size + 1, 0, none⟩ = some (.int .i64 fr) := H2.out.bx.cell 0
              have x2 : w2.cell? ⟨w.heap.size + 1, 2, none⟩ = some (.int .i64 0) := H2.out.bx.cell 2
              have x3 : w2.cell? ⟨w.heap.size + 1, 3, none⟩ = some (.int .i64 st) := H2.out.bx.cell 3
              have x4 : w2.cell? ⟨w.heap.size + 1, 4, none⟩ = some (.bool false) := H2.out.bx.cell 4
              go_upto_region 20 with (fail)
              refine wp_abs (RfSt w (.slice A5 ps.length c5) (.slice A6 out.length c6) ps out ((ps.length : Int), -1, 0, sst, false)) (((((H2.out.setx 0 _ ((ps.length : Int), nu, 0, st, false) rfl).setx 1 _ ((ps.length : Int), -1, 0, st, false) rfl).setx 2 _ ((ps.length : Int), -1, 0, st, false) rfl).setx 3 _ ((ps.length : Int), -1, 0, sst, false) rfl).setx 4 _ ((ps.length : Int), -1, 0, sst, false) rfl) ?_
              clear f0 f1 f2 f3 f4 g0 g1 y0 y1 x0 x1 x2 x3 x4 H2
              intro w4 h4
              have H4 := Lib.hid h4
              clear h4
              go_wp2
              go_roundw
              case rel => exact ⟨at_ + wd, ps, out, (ps.length : Int), -1, sst, vs, true, fu, by go_num, rfl, rfl, by omega, by omega, p5, p6, by rw [if_pos (by omega)]; split at p7 <;> omega, .inl (by omega), Lib.hid ⟨HN.out, HNU.out⟩, H4⟩
              case measure => simp [intOf]; omega
        · have b0 : ((at_ : Int) == 0) = false := beq_eq_false_iff_ne.2 (by omega)
          have b0g : decide ((0 : Int) < (at_ : Int)) = true := decide_eq_true (by omega)
          have b0n : 0 < at_ := by omega
          clear HZ1
          cases sg with
          | true =>
            have HB := Lib.hid (show srL s.data.toList = ([], [], 111, (at_ : Int)) by rw [HG1.out, if_pos (.inr rfl)])
            clear hat0
            go_wp2
            exact rf_bad H2.out HB.out rfl rfl rfl
          | false =>
            by_cases hnu : nu < 0
            · have bn : decide (nu < 0) = true := decide_eq_true hnu
              have HB := Lib.hid (show srL s.data.toList = ([], [], 110, (at_ : Int)) by rw [HG1.out, if_neg (by rintro (h | h); exact hat0 h.1; cases h), if_pos ⟨by omega, hnu⟩])
              clear hat0
              go_wp2
              exact rf_bad H2.out HB.out rfl rfl rfl
            have bn : decide (nu < 0) = false := decide_eq_false hnu
            have HG2 := Lib.hid (show srL s.data.toList = if at_ + wd = s.size then ([], [], 111, (at_ : Int)) else srGo s.data.toList fu (at_ + wd) ps (hvL ps out ++ [shutS ps fr nu st]) (ps.length : Int) (-1) sst vs true by
              rw [HG1.out, if_neg (by rintro (h | h); exact hat0 h.1; cases h), if_neg (fun h => hnu h.2), if_pos b0n])
            clear HG1
            by_cases hend : at_ + wd = s.size
            · have be : (((at_ + wd : Nat) : Int) == (s.size : Int)) = true := by rw [hend]; simp
              have HB := Lib.hid (show srL s.data.toList = ([], [], 111, (at_ : Int)) by rw [HG2.out, if_pos hend])
              clear hend hat0
              go_wp2
              exact rf_bad H2.out HB.out rfl rfl rfl
            have be : (((at_ + wd : Nat) : Int) == (s.size : Int)) = false := beq_eq_false_iff_ne.2 (by omega)
            have HN := Lib.hid (show srL s.data.toList = srGo s.data.toList fu (at_ + wd) ps (hvL ps (out ++ [(fr, nu, (ps.length : Int), st, false)])) (ps.length : Int) (-1) sst vs true by rw [HG2.out, if_neg hend, hvL_snoc])
            have hol : out.length + 1 ≤ vs := by rw [if_neg hnu] at p7; exact p7
            have HNU2 := Lib.hid (show ∀ z ∈ out ++ [(fr, nu, (ps.length : Int), st, false)], 0 ≤ Sy.nu z ∧ Sy.nu z < ps.length from fun z hz => by
              rcases List.mem_append.1 hz with h | h
              · exact HNU.out z h
              · rw [List.mem_singleton.1 h]
                exact ⟨Int.not_lt.1 hnu, p8.resolve_left hnu⟩)
            clear hend HG2 hat0 p7 HNU
            have f2 : w2.frozen? ⟨w.heap.size + 1, 2, none⟩ = false := H2.out.bx.frozen 2
            have x2 : w2.cell? ⟨w.heap.size + 1, 2, none⟩ = some (.int .i64 0) := H2.out.bx.cell 2
            go_upto_region 18 with (fail)
            refine wp_abs (RfSt w (.slice A5 ps.length c5) (.slice A6 out.length c6) ps out (fr, nu, (ps.length : Int), st, false)) (H2.out.setx 2 _ (fr, nu, (ps.length : Int), st, false) rfl) ?_
            clear f2 g0 g1 y0 y1 x1 x2 H2
            intro w4 h4
            have x0 : w4.cell? ⟨w.heap.size + 1, 0, none⟩ = some (.int .i64 fr) := h4.bx.cell 0
            have x1 : w4.cell? ⟨w.heap.size + 1, 1, none⟩ = some (.int .i64 nu) := h4.bx.cell 1
            have x2 : w4.cell? ⟨w.heap.size + 1, 2, none⟩ = some (.int .i64 (ps.length : Int)) := h4.bx.cell 2
            have x3 : w4.cell? ⟨w.heap.size + 1, 3, none⟩ = some (.int .i64 st) := h4.bx.cell 3
            have x4 : w4.cell? ⟨w.heap.size + 1, 4, none⟩ = some (.bool false) := h4.bx.cell 4
            have hlo := h4.lo
            have H4 := Lib.hid h4
            clear h4
            go_upto_region 19 with (at_builtin; go_must (refine wpList_append_rd _ rfl _ _ 23 rfl (w.heap.size + 2) 37 k0 (.agg #[.int .i64 0, .int .i64 0, .int .i64 0, .int .i64 0, .bool false]) 5 40 Try.underlying23 HK.out.1 HK.out.2.1 HK.out.2.2.1 HK.out.2.2.2 rfl (by decide) _ _ _ rfl (H4.out.ownS.alloc _) _ _ _ 1 1 _ rfl (rd_new_eq rfl rfl) (by simp [Value.oneCell']) (by unfold maxLen; omega) (by omega) (by simp; omega) ?_; intro v4 w5 _ hown hgrow _; have HE := Lib.hid ((H4.out.on ((Below.refl _ _).alloc (Nat.le_refl _) _)).appS rfl (fr, nu, (ps.length : Int), st, false) hown hgrow); clear hown hgrow))
            clear H4 x0 x1 x2 x3 x4 hlo
            have f0 : w5.frozen? ⟨w.heap.size + 1, 0, none⟩ = false := HE.out.bx.frozen 0
            have f1 : w5.frozen? ⟨w.heap.size + 1, 1, none⟩ = false := HE.out.bx.frozen 1
            have f2 : w5.frozen? ⟨w.heap.size + 1, 2, none⟩ = false := HE.out.bx.frozen 2
            have f3 : w5.frozen? ⟨w.heap.size + 1, 3, none⟩ = false := HE.out.bx.frozen 3
            have f4 : w5.frozen? ⟨w.heap.size + 1, 4, none⟩ = false := HE.out.bx.frozen 4
            have x0 : w5.cell? ⟨w.heap.size + 1, 0, none⟩ = some (.int .i64 fr) := HE.out.bx.cell 0
            have x1 : w5.cell? ⟨w.heap.size + 1, 1, none⟩ = some (.int .i64 nu) := HE.out.bx.cell 1
            have x2 : w5.cell? ⟨w.heap.size + 1, 2, none⟩ = some (.int .i64 (ps.length : Int)) := HE.out.bx.cell 2
            have x3 : w5.cell? ⟨w.heap.size + 1, 3, none⟩ = some (.int .i64 st) := HE.out.bx.cell 3
            have x4 : w5.cell? ⟨w.heap.size + 1, 4, none⟩ = some (.bool false) := HE.out.bx.cell 4
            go_upto_region 20 with (fail)
            refine wp_abs (RfSt w (.slice A5 ps.length c5) v4 ps (out ++ [(fr, nu, (ps.length : Int), st, false)]) ((ps.length : Int), -1, 0, sst, false)) (((((HE.out.setx 0 _ ((ps.length : Int), nu, (ps.length : Int), st, false) rfl).setx 1 _ ((ps.length : Int), -1, (ps.length : Int), st, false) rfl).setx 2 _ ((ps.length : Int), -1, 0, st, false) rfl).setx 3 _ ((ps.length : Int), -1, 0, sst, false) rfl).setx 4 _ ((ps.length : Int), -1, 0, sst, false) rfl) ?_
            clear f0 f1 f2 f3 f4 x0 x1 x2 x3 x4 HE
            intro w6 h6
            have H6 := Lib.hid h6
            clear h6
            go_wp2
            go_roundw
            case rel => exact ⟨at_ + wd, ps, out ++ [(fr, nu, (ps.length : Int), st, false)], (ps.length : Int), -1, sst, vs, true, fu, by go_num, rfl, rfl, by omega, by omega, p5, p6, by rw [if_pos (by omega)]; simp; omega, .inl (by omega), Lib.hid ⟨HN.out, HNU2.out⟩, H6⟩
            case measure => simp [intOf]; omega
      · have dw : decide ((0 : Int) < (wd : Int)) = false := decide_eq_false (by omega)
        have dwn : ¬ 0 < wd := hw
        have hfit := next_fit (l := s.data.toList) (at_ := at_) (by rw [HSL.out]; omega)
        rw [HSL.out] at hfit
        have hpos : (nextL (s.data.toList.drop at_)).2 ≠ 0 → 0 < (nextL (s.data.toList.drop at_)).2 := fun h => Nat.pos_of_ne_zero h
        have HG1 := Lib.hid (show srL s.data.toList = if (nextL (s.data.toList.drop at_)).2 = 0 then ([], [], 80, (at_ : Int))
          else if ps.length = 128 then ([], [], 3, (at_ : Int))
          else if vowF (nextL (s.data.toList.drop at_)).1 then
            if 0 ≤ nu then ([], [], 110, (at_ : Int)) else if vs = 64 then ([], [], 3, (at_ : Int))
            else srGo s.data.toList fu (at_ + (nextL (s.data.toList.drop at_)).2) (ps ++ [(nextL (s.data.toList.drop at_)).1]) (hvL ps out) fr (ps.length : Int) st (vs + 1) false
          else srGo s.data.toList fu (at_ + (nextL (s.data.toList.drop at_)).2) (ps ++ [(nextL (s.data.toList.drop at_)).1]) (hvL ps out) fr nu st vs false by rw [HGO.out, if_neg hw])
        have hwd : wd = 0 := by omega
        have HWD := Lib.hid hwd
        clear HGO HZ0 w_at hsl1 hsl2 hwd hw
        go_wp2_with fail
        refine (refNext_any s at_ _ hz' (by omega)).mono ?_
        rintro e w3 ⟨rfl, hb⟩
        have H3 := Lib.hid (H2.out.on hb)
        clear hb H2
        generalize (nextL (s.data.toList.drop at_)).1 = p at *
        generalize (nextL (s.data.toList.drop at_)).2 = nw at *
        go_upto_region 23 with (fail)
        refine wp_abs (fun wx => RfSt w (.slice A5 ps.length c5) (.slice A6 out.length c6) ps out (fr, nu, 0, st, false) wx ∧ Blk wx w3.heap.size 43 #[.int .i32 p.1, .bool p.2.1, .int .i32 p.2.2]) ⟨H3.out.on ((Below.refl _ _).alloc (Nat.le_refl _) _), Blk.new _ _ _⟩ ?_
        have hpb := H3.out.lo
        clear H3
        generalize w3.heap.size = pb at *
        rintro w4 h4
        have H4 := Lib.hid h4
        clear h4
        have w_at : IntKind.i64.wrap ((at_ : Int) + (nw : Int)) = ((at_ + nw : Nat) : Int) := by rw [IntWalk.i64_in _ (by omega)]; omega
        have g0 : w4.frozen? ⟨w.heap.size, 0, none⟩ = false := H4.out.1.rs.frozen 0
        have g1 : w4.frozen? ⟨w.heap.size, 1, none⟩ = false := H4.out.1.rs.frozen 1
        have y0 : w4.cell? ⟨w.heap.size, 0, none⟩ = some (.int .i64 0) := H4.out.1.rs.cell 0
        have y1 : w4.cell? ⟨w.heap.size, 1, none⟩ = some (.int .i64 0) := H4.out.1.rs.cell 1
        have x1 : w4.cell? ⟨w.heap.size + 1, 1, none⟩ = some (.int .i64 nu) := H4.out.1.bx.cell 1
        have z0 : w4.cell? ⟨pb, 0, none⟩ = some (.int .i32 p.1) := H4.out.2.cell 0
        have z1 : w4.cell? ⟨pb, 1, none⟩ = some (.bool p.2.1) := H4.out.2.cell 1
        have z2 : w4.cell? ⟨pb, 2, none⟩ = some (.int .i32 p.2.2) := H4.out.2.cell 2
        by_cases hnw : nw = 0
        · have bz : ((nw : Int) == 0) = true := by rw [hnw]; rfl
          have HB := Lib.hid (show srL s.data.toList = ([], [], 80, (at_ : Int)) by rw [HG1.out, if_pos hnw])
          clear hnw
          go_wp2
          exact rf_bad H4.out.1 HB.out rfl rfl rfl
        have bz : ((nw : Int) == 0) = false := beq_eq_false_iff_ne.2 (by omega)
        by_cases hp128 : ps.length = 128
        · have bp : ((ps.length : Int) == 128) = true := by rw [hp128]; rfl
          have HB := Lib.hid (show srL s.data.toList = ([], [], 3, (at_ : Int)) by rw [HG1.out, if_neg hnw, if_pos hp128])
          clear hnw hp128
          go_wp2
          exact rf_bad H4.out.1 HB.out rfl rfl rfl
        have bp : ((ps.length : Int) == 128) = false := beq_eq_false_iff_ne.2 (by omega)
        have HG2 := Lib.hid (show srL s.data.toList = if vowF p then
            if 0 ≤ nu then ([], [], 110, (at_ : Int)) else if vs = 64 then ([], [], 3, (at_ : Int))
            else srGo s.data.toList fu (at_ + nw) (ps ++ [p]) (hvL ps out) fr (ps.length : Int) st (vs + 1) false
          else srGo s.data.toList fu (at_ + nw) (ps ++ [p]) (hvL ps out) fr nu st vs false by rw [HG1.out, if_neg hnw, if_neg hp128])
        have hnw1 : 0 < nw := by omega
        have hp1 : ps.length + 1 ≤ 128 := by omega
        have HHV := Lib.hid (hvL_more (p := p) HNU.out)
        have HNU3 := Lib.hid (show ∀ z ∈ out, 0 ≤ z.nu ∧ z.nu < (ps ++ [p]).length from fun z hz => by
          have := HNU.out z hz
          rw [List.length_append]
          exact ⟨this.1, by have := this.2; simp only [List.length_cons, List.length_nil]; omega⟩)
        clear HG1 hnw hp128 HNU
        have HV := Lib.hid (fun W => refVowel_any p W)
        cases hv : vowF p with
        | true =>
          rw [hv] at HV
          have HG3 := Lib.hid (show srL s.data.toList = if 0 ≤ nu then ([], [], 110, (at_ : Int)) else if vs = 64 then ([], [], 3, (at_ : Int))
            else srGo s.data.toList fu (at_ + nw) (ps ++ [p]) (hvL ps out) fr (ps.length : Int) st (vs + 1) false by rw [HG2.out, if_pos hv])
          clear hv HG2
          go_wp2_with fail
          refine (HV.out _).mono ?_
          rintro e w5 ⟨rfl, hb⟩
          have H5 := Lib.hid (And.intro (H4.out.1.on hb) (H4.out.2.below hb H4.out.2.lt))
          clear hb H4 g0 g1 y0 y1 x1 z0 z1 z2
          have g0 : w5.frozen? ⟨w.heap.size, 0, none⟩ = false := H5.out.1.rs.frozen 0
          have g1 : w5.frozen? ⟨w.heap.size, 1, none⟩ = false := H5.out.1.rs.frozen 1
          have y0 : w5.cell? ⟨w.heap.size, 0, none⟩ = some (.int .i64 0) := H5.out.1.rs.cell 0
          have y1 : w5.cell? ⟨w.heap.size, 1, none⟩ = some (.int .i64 0) := H5.out.1.rs.cell 1
          have x1 : w5.cell? ⟨w.heap.size + 1, 1, none⟩ = some (.int .i64 nu) := H5.out.1.bx.cell 1
          have z0 : w5.cell? ⟨pb, 0, none⟩ = some (.int .i32 p.1) := H5.out.2.cell 0
          have z1 : w5.cell? ⟨pb, 1, none⟩ = some (.bool p.2.1) := H5.out.2.cell 1
          have z2 : w5.cell? ⟨pb, 2, none⟩ = some (.int .i32 p.2.2) := H5.out.2.cell 2
          by_cases hnu : 0 ≤ nu
          · have bn : decide (0 ≤ nu) = true := decide_eq_true hnu
            have bn2 : ¬ nu < 0 := by omega
            have HB := Lib.hid (show srL s.data.toList = ([], [], 110, (at_ : Int)) by rw [HG3.out, if_pos hnu])
            go_wp2
            exact rf_bad H5.out.1 HB.out rfl rfl rfl
          have bn : decide (0 ≤ nu) = false := decide_eq_false hnu
          have HG4 := Lib.hid (show srL s.data.toList = if vs = 64 then ([], [], 3, (at_ : Int))
            else srGo s.data.toList fu (at_ + nw) (ps ++ [p]) (hvL ps out) fr (ps.length : Int) st (vs + 1) false by rw [HG3.out, if_neg hnu])
          have hnn : nu < 0 := by omega
          clear hnu HG3
          go_wp2_with fail
          refine (HV.out _).mono ?_
          rintro e w6 ⟨rfl, hb⟩
          have H6 := Lib.hid (And.intro (H5.out.1.on hb) (H5.out.2.below hb H5.out.2.lt))
          clear hb H5 g0 g1 y0 y1 x1 z0 z1 z2
          have g0 : w6.frozen? ⟨w.heap.size, 0, none⟩ = false := H6.out.1.rs.frozen 0
          have g1 : w6.frozen? ⟨w.heap.size, 1, none⟩ = false := H6.out.1.rs.frozen 1
          have y0 : w6.cell? ⟨w.heap.size, 0, none⟩ = some (.int .i64 0) := H6.out.1.rs.cell 0
          have y1 : w6.cell? ⟨w.heap.size, 1, none⟩ = some (.int .i64 0) := H6.out.1.rs.cell 1
          have x1 : w6.cell? ⟨w.heap.size + 1, 1, none⟩ = some (.int .i64 nu) := H6.out.1.bx.cell 1
          have z0 : w6.cell? ⟨pb, 0, none⟩ = some (.int .i32 p.1) := H6.out.2.cell 0
          have z1 : w6.cell? ⟨pb, 1, none⟩ = some (.bool p.2.1) := H6.out.2.cell 1
          have z2 : w6.cell? ⟨pb, 2, none⟩ = some (.int .i32 p.2.2) := H6.out.2.cell 2
          by_cases hvs : vs = 64
          · have bv : ((vs : Int) == 64) = true := by rw [hvs]; rfl
            have HB := Lib.hid (show srL s.data.toList = ([], [], 3, (at_ : Int)) by rw [HG4.out, if_pos hvs])
            clear hvs
            go_wp2
            exact rf_bad H6.out.1 HB.out rfl rfl rfl
          have bv : ((vs : Int) == 64) = false := beq_eq_false_iff_ne.2 (by omega)
          have hvs1 : vs + 1 ≤ 64 := by omega
          have HN := Lib.hid (show srL s.data.toList = srGo s.data.toList fu (at_ + nw) (ps ++ [p]) (hvL (ps ++ [p]) out) fr (ps.length : Int) st (vs + 1) false by rw [HG4.out, if_neg hvs, HHV.out])
          have hol : out.length ≤ vs := by rw [if_pos (by omega)] at p7; exact p7
          clear HG4 hvs p7 HHV hnn p8
          go_wp2_with fail
          refine (HV.out _).mono ?_
          rintro e w7 ⟨rfl, hb⟩
          have H7 := Lib.hid (And.intro (H6.out.1.on hb) (H6.out.2.below hb H6.out.2.lt))
          clear hb H6 g0 g1 y0 y1 x1 z0 z1 z2
          have g0 : w7.frozen? ⟨w.heap.size, 0, none⟩ = false := H7.out.1.rs.frozen 0
          have g1 : w7.frozen? ⟨w.heap.size, 1, none⟩ = false := H7.out.1.rs.frozen 1
          have y0 : w7.cell? ⟨w.heap.size, 0, none⟩ = some (.int .i64 0) := H7.out.1.rs.cell 0
          have y1 : w7.cell? ⟨w.heap.size, 1, none⟩ = some (.int .i64 0) := H7.out.1.rs.cell 1
          have x1 : w7.cell? ⟨w.heap.size + 1, 1, none⟩ = some (.int .i64 nu) := H7.out.1.bx.cell 1
          have z0 : w7.cell? ⟨pb, 0, none⟩ = some (.int .i32 p.1) := H7.out.2.cell 0
          have z1 : w7.cell? ⟨pb, 1, none⟩ = some (.bool p.2.1) := H7.out.2.cell 1
          have z2 : w7.cell? ⟨pb, 2, none⟩ = some (.int .i32 p.2.2) := H7.out.2.cell 2
          have f1 : w7.frozen? ⟨w.heap.size + 1, 1, none⟩ = false := H7.out.1.bx.frozen 1
          go_upto_region 33 with (fail)
          refine wp_abs (fun wx => RfSt w (.slice A5 ps.length c5) (.slice A6 out.length c6) ps out (fr, (ps.length : Int), 0, st, false) wx ∧ Blk wx pb 43 #[.int .i32 p.1, .bool p.2.1, .int .i32 p.2.2]) ⟨H7.out.1.setx 1 _ (fr, (ps.length : Int), 0, st, false) rfl, H7.out.2.far (by simp; omega) _⟩ ?_
          clear f1 g0 g1 y0 y1 x1 z0 z1 z2 H7
          rintro w8 h8
          have H8 := Lib.hid h8
          clear h8
          have z0 : w8.cell? ⟨pb, 0, none⟩ = some (.int .i32 p.1) := H8.out.2.cell 0
          have z1 : w8.cell? ⟨pb, 1, none⟩ = some (.bool p.2.1) := H8.out.2.cell 1
          have z2 : w8.cell? ⟨pb, 2, none⟩ = some (.int .i32 p.2.2) := H8.out.2.cell 2
          have hlo := H8.out.1.lo
          go_wp2_with (at_builtin; go_must (refine wpList_append_rd _ rfl _ _ 22 rfl (w.heap.size + 2) 43 i0 (.agg #[.int .i32 0, .bool false, .int .i32 0]) 3 12 Try.underlying22 HI.out.1 HI.out.2.1 HI.out.2.2.1 HI.out.2.2.2 rfl (by decide) _ _ _ rfl (H8.out.1.ownP.alloc _) _ _ _ 1 1 _ rfl (rd_new_eq rfl rfl) (by simp [Value.oneCell']) (by unfold maxLen; omega) (by omega) (by simp; omega) ?_; intro v9 w9 _ hown hgrow _; have HE := Lib.hid ((H8.out.1.on ((Below.refl _ _).alloc (Nat.le_refl _) _)).appP rfl p hown hgrow); clear hown hgrow))
          go_roundw
          case rel => exact ⟨at_ + nw, ps ++ [p], out, fr, (ps.length : Int), st, vs + 1, false, fu, by go_num, by go_num, rfl, by omega, by omega, by simp; omega, by omega, by rw [if_neg (by omega)]; omega, .inr (by simp; omega), Lib.hid ⟨HN.out, HNU3.out⟩, HE⟩
          case measure => simp [intOf]; omega
        | false =>
          rw [hv] at HV
          have HN := Lib.hid (show srL s.data.toList = srGo s.data.toList fu (at_ + nw) (ps ++ [p]) (hvL (ps ++ [p]) out) fr nu st vs false by rw [HG2.out, hv, HHV.out]; rfl)
          clear hv HG2 HHV
          go_wp2_with fail
          refine (HV.out _).mono ?_
          rintro e w5 ⟨rfl, hb⟩
          have H5 := Lib.hid (And.intro (H4.out.1.on hb) (H4.out.2.below hb H4.out.2.lt))
          clear hb H4 g0 g1 y0 y1 x1 z0 z1 z2
          have g0 : w5.frozen? ⟨w.heap.size, 0, none⟩ = false := H5.out.1.rs.frozen 0
          have g1 : w5.frozen? ⟨w.heap.size, 1, none⟩ = false := H5.out.1.rs.frozen 1
          have y0 : w5.cell? ⟨w.heap.size, 0, none⟩ = some (.int .i64 0) := H5.out.1.rs.cell 0
          have y1 : w5.cell? ⟨w.heap.size, 1, none⟩ = some (.int .i64 0) := H5.out.1.rs.cell 1
          have x1 : w5.cell? ⟨w.heap.size + 1, 1, none⟩ = some (.int .i64 nu) := H5.out.1.bx.cell 1
          have z0 : w5.cell? ⟨pb, 0, none⟩ = some (.int .i32 p.1) := H5.out.2.cell 0
          have z1 : w5.cell? ⟨pb, 1, none⟩ = some (.bool p.2.1) := H5.out.2.cell 1
          have z2 : w5.cell? ⟨pb, 2, none⟩ = some (.int .i32 p.2.2) := H5.out.2.cell 2
          go_wp2_with fail
          refine (HV.out _).mono ?_
          rintro e w6 ⟨rfl, hb⟩
          have H6 := Lib.hid (And.intro (H5.out.1.on hb) (H5.out.2.below hb H5.out.2.lt))
          clear hb H5 g0 g1 y0 y1 x1 z0 z1 z2
          have g0 : w6.frozen? ⟨w.heap.size, 0, none⟩ = false := H6.out.1.rs.frozen 0
          have g1 : w6.frozen? ⟨w.heap.size, 1, none⟩ = false := H6.out.1.rs.frozen 1
          have y0 : w6.cell? ⟨w.heap.size, 0, none⟩ = some (.int .i64 0) := H6.out.1.rs.cell 0
          have y1 : w6.cell? ⟨w.heap.size, 1, none⟩ = some (.int .i64 0) := H6.out.1.rs.cell 1
          have x1 : w6.cell? ⟨w.heap.size + 1, 1, none⟩ = some (.int .i64 nu) := H6.out.1.bx.cell 1
          have z0 : w6.cell? ⟨pb, 0, none⟩ = some (.int .i32 p.1) := H6.out.2.cell 0
          have z1 : w6.cell? ⟨pb, 1, none⟩ = some (.bool p.2.1) := H6.out.2.cell 1
          have z2 : w6.cell? ⟨pb, 2, none⟩ = some (.int .i32 p.2.2) := H6.out.2.cell 2
          go_wp2_with fail
          refine (HV.out _).mono ?_
          rintro e w7 ⟨rfl, hb⟩
          have H7 := Lib.hid (And.intro (H6.out.1.on hb) (H6.out.2.below hb H6.out.2.lt))
          clear hb H6 g0 g1 y0 y1 x1 z0 z1 z2
          have g0 : w7.frozen? ⟨w.heap.size, 0, none⟩ = false := H7.out.1.rs.frozen 0
          have g1 : w7.frozen? ⟨w.heap.size, 1, none⟩ = false := H7.out.1.rs.frozen 1
          have y0 : w7.cell? ⟨w.heap.size, 0, none⟩ = some (.int .i64 0) := H7.out.1.rs.cell 0
          have y1 : w7.cell? ⟨w.heap.size, 1, none⟩ = some (.int .i64 0) := H7.out.1.rs.cell 1
          have x1 : w7.cell? ⟨w.heap.size + 1, 1, none⟩ = some (.int .i64 nu) := H7.out.1.bx.cell 1
          have z0 : w7.cell? ⟨pb, 0, none⟩ = some (.int .i32 p.1) := H7.out.2.cell 0
          have z1 : w7.cell? ⟨pb, 1, none⟩ = some (.bool p.2.1) := H7.out.2.cell 1
          have z2 : w7.cell? ⟨pb, 2, none⟩ = some (.int .i32 p.2.2) := H7.out.2.cell 2
          have hlo := H7.out.1.lo
          go_wp2_with (at_builtin; go_must (refine wpList_append_rd _ rfl _ _ 22 rfl (w.heap.size + 2) 43 i0 (.agg #[.int .i32 0, .bool false, .int .i32 0]) 3 12 Try.underlying22 HI.out.1 HI.out.2.1 HI.out.2.2.1 HI.out.2.2.2 rfl (by decide) _ _ _ rfl (H7.out.1.ownP.alloc _) _ _ _ 1 1 _ rfl (rd_new_eq rfl rfl) (by simp [Value.oneCell']) (by unfold maxLen; omega) (by omega) (by simp; omega) ?_; intro v9 w9 _ hown hgrow _; have HE := Lib.hid ((H7.out.1.on ((Below.refl _ _).alloc (Nat.le_refl _) _)).appP rfl p hown hgrow); clear hown hgrow))
          go_roundw
          case rel => exact ⟨at_ + nw, ps ++ [p], out, fr, nu, st, vs, false, fu, by go_num, rfl, rfl, by omega, by omega, by simp; omega, by omega, p7, by rcases p8 with h | h; exact .inl h; exact .inr (by simp; omega), Lib.hid ⟨HN.out, HNU3.out⟩, HE⟩
          case measure => simp [intOf]; omega
    · obtain rfl : at_ = s.size := by omega
      obtain ⟨fu, rfl⟩ : ∃ k, fuel = k + 1 := ⟨fuel - 1, by omega⟩
      have HGO := Lib.hid (show srL s.data.toList = if nu < 0 then ([], [], 110, ((s.size : Nat) : Int)) else (ps, hvL ps out ++ [shutS ps fr nu st], 0, 0) by
          rw [HQ.out.1]
          conv => lhs; unfold srGo
          rw [if_neg (by rw [HSL.out]; omega)])
      have HNU := Lib.hid HQ.out.2
      clear HQ
      have di : ¬ ((s.size : Int) < (s.size : Int)) := by omega
      have g0 : wr.frozen? ⟨w.heap.size, 0, none⟩ = false := HR.out.rs.frozen 0
      have g1 : wr.frozen? ⟨w.heap.size, 1, none⟩ = false := HR.out.rs.frozen 1
      have y0 : wr.cell? ⟨w.heap.size, 0, none⟩ = some (.int .i64 0) := HR.out.rs.cell 0
      have y1 : wr.cell? ⟨w.heap.size, 1, none⟩ = some (.int .i64 0) := HR.out.rs.cell 1
      have x1 : wr.cell? ⟨w.heap.size + 1, 1, none⟩ = some (.int .i64 nu) := HR.out.bx.cell 1
      by_cases hnu : nu < 0
      · have bn : decide (nu < 0) = true := decide_eq_true hnu
        have HB := Lib.hid (show srL s.data.toList = ([], [], 110, ((s.size : Nat) : Int)) by rw [HGO.out, if_pos hnu])
        go_wp2
        exact rf_bad HR.out HB.out rfl rfl rfl
      have bn : decide (nu < 0) = false := decide_eq_false hnu
      have hol : out.length + 1 ≤ vs := by rw [if_neg hnu] at p7; exact p7
      have HN := Lib.hid (show srL s.data.toList = (ps, hvL ps (out ++ [(fr, nu, (ps.length : Int), st, false)]), 0, 0) by rw [HGO.out, if_neg hnu, hvL_snoc])
      have HNU2 := Lib.hid (show ∀ z ∈ out ++ [(fr, nu, (ps.length : Int), st, false)], 0 ≤ Sy.nu z ∧ Sy.nu z < ps.length from fun z hz => by
        rcases List.mem_append.1 hz with h | h
        · exact HNU.out z h
        · rw [List.mem_singleton.1 h]
          exact ⟨Int.not_lt.1 hnu, p8.resolve_left hnu⟩)
      clear HGO HNU p7 hnu
      have f2 : wr.frozen? ⟨w.heap.size + 1, 2, none⟩ = false := HR.out.bx.frozen 2
      have x2 : wr.cell? ⟨w.heap.size + 1, 2, none⟩ = some (.int .i64 0) := HR.out.bx.cell 2
      go_upto_region 40 with (fail)
      refine wp_abs (RfSt w (.slice A5 ps.length c5) (.slice A6 out.length c6) ps out (fr, nu, (ps.length : Int), st, false)) (HR.out.setx 2 _ (fr, nu, (ps.length : Int), st, false) rfl) ?_
      clear f2 g0 g1 y0 y1 x1 x2 HR
      intro w4 h4
      have x0 : w4.cell? ⟨w.heap.size + 1, 0, none⟩ = some (.int .i64 fr) := h4.bx.cell 0
      have x1 : w4.cell? ⟨w.heap.size + 1, 1, none⟩ = some (.int .i64 nu) := h4.bx.cell 1
      have x2 : w4.cell? ⟨w.heap.size + 1, 2, none⟩ = some (.int .i64 (ps.length : Int)) := h4.bx.cell 2
      have x3 : w4.cell? ⟨w.heap.size + 1, 3, none⟩ = some (.int .i64 st) := h4.bx.cell 3
      have x4 : w4.cell? ⟨w.heap.size + 1, 4, none⟩ = some (.bool false) := h4.bx.cell 4
      have hlo := h4.lo
      have H4 := Lib.hid h4
      clear h4
      go_upto_region 41 with (at_builtin; go_must (refine wpList_append_rd _ rfl _ _ 23 rfl (w.heap.size + 2) 37 k0 (.agg #[.int .i64 0, .int .i64 0, .int .i64 0, .int .i64 0, .bool false]) 5 40 Try.underlying23 HK.out.1 HK.out.2.1 HK.out.2.2.1 HK.out.2.2.2 rfl (by decide) _ _ _ rfl (H4.out.ownS.alloc _) _ _ _ 1 1 _ rfl (rd_new_eq rfl rfl) (by simp [Value.oneCell']) (by unfold maxLen; omega) (by omega) (by simp; omega) ?_; intro v4 w5 _ hown hgrow _; have HE := Lib.hid ((H4.out.on ((Below.refl _ _).alloc (Nat.le_refl _) _)).appS rfl (fr, nu, (ps.length : Int), st, false) hown hgrow); clear hown hgrow))
      clear H4 x0 x1 x2 x3 x4 hlo
      have hSL : (out ++ [(fr, nu, (ps.length : Int), st, false)]).length = out.length + 1 := by simp
      generalize hS : out ++ [(fr, nu, (ps.length : Int), st, false)] = S at *
      obtain ⟨A9, c9, e9⟩ := own_slice HE.out.ownS
      subst e9
      obtain ⟨g, rfl, hg1, hg2⟩ := own_addr HE.out.ownS (by omega)
      obtain ⟨K, hK⟩ : ∃ K, S.length = K := ⟨_, rfl⟩
      have HKL := Lib.hid hK
      rw [hK] at HE hSL ⊢
      have hK64 : K ≤ 64 := by omega
      clear hSL hS hK
      go_wp2
      go_loopw [14] (fun v14 wq => ∃ i : Nat, i ≤ K ∧ v14 = .int .i64 i ∧ Hid (RfSt w (.slice A5 ps.length c5) (.slice (some ⟨g, 0, none⟩) K c9) ps (hvM ps S i) (fr, nu, (ps.length : Int), st, false) wq)) (fun v14 _ => K - (intOf v14).toNat)
      case atStart => exact ⟨0, by omega, rfl, Lib.hid (by rw [hvM_zero]; exact HE.out)⟩
      case round =>
        obtain ⟨i, hi, rfl, HI⟩ := hrel
        clear HE
        by_cases hik : i < K
        · have hiS : i < S.length := by rw [HKL.out]; exact hik
          have hle : (hvM ps S i).length = K := by rw [hvM_len]; exact HKL.out
          obtain ⟨z0, z1, z2, z3, z4⟩ := own_cells (by rw [hle]; have := HI.out.ownS; rw [hle] at this; exact this) (j := i) (by omega)
          rw [hvM_at hiS] at z0 z1 z2 z3 z4
          have HST := Lib.hid (hvM_step (ps := ps) hiS)
          have HLE := Lib.hid hle
          have HGD := Lib.hid (hvM_at (ps := ps) hiS)
          have hnz := HNU2.out _ (List.getElem_mem hiS)
          have HLM := Lib.hid (show (hvM ps S (i + 1)).length = K by rw [hvM_len]; exact HKL.out)
          generalize S[i] = z at *
          clear hle
          have i1 : (0 : Int) ≤ (i : Int) := by omega
          have i2 : (i : Int) < (K : Int) := by omega
          have HRP := Lib.hid ((own_rd HI.out.ownP).more (Nat.zero_le _) (Nat.le_refl _))
          go_wp2_with fail
          refine (refHeavy_any A5 ps.length c5 0 _ ps z _ HRP.out (Nat.le_refl _) p5 hnz.1 hnz.2).mono ?_
          rintro e wt ⟨rfl, hb⟩
          have HT := Lib.hid (HI.out.on hb)
          clear hb z0 z1 z2 z3 z4 HRP
          have h3 := HT.out.ownS
          rw [HLE.out] at h3
          obtain ⟨⟨_, z4⟩, f4⟩ := own_at h3 (i := i * 5 + 4) (by omega)
          clear h3
          have HE := Lib.hid (HT.out.put HLE.out (i * 5 + 4) (.bool (heavyF ps z)) (hvM ps S (i + 1)) (by rw [sys_hv _ _ _ (by rw [HLE.out]; omega), HGD.out, HST.out]) HLM.out)
          clear HI
          generalize heavyF ps z = hvy at *
          go_wp2
          go_roundw
          case rel => exact ⟨i + 1, by omega, by go_num, HE⟩
          case measure => simp [intOf]; omega
        · obtain rfl : i = K := by omega
          have dj : ¬ ((i : Int) < (i : Int)) := by omega
          have HX := Lib.hid (show RfSt w (.slice A5 ps.length c5) (.slice (some ⟨g, 0, none⟩) i c9) ps (hvL ps S) (fr, nu, (ps.length : Int), st, false) wr by
            have := HI.out
            rw [← HKL.out, hvM_end] at this
            rw [← HKL.out]
            exact this)
          clear HI
          have g0 : wr.frozen? ⟨w.heap.size, 0, none⟩ = false := HX.out.rs.frozen 0
          have g1 : wr.frozen? ⟨w.heap.size, 1, none⟩ = false := HX.out.rs.frozen 1
          have y0 : wr.cell? ⟨w.heap.size, 0, none⟩ = some (.int .i64 0) := HX.out.rs.cell 0
          have y1 : wr.cell? ⟨w.heap.size, 1, none⟩ = some (.int .i64 0) := HX.out.rs.cell 1
          go_wp2
          exact rf_good HX.out HN.out rfl rfl rfl
end Go.Proofs.Ytogofchpocoebaa
