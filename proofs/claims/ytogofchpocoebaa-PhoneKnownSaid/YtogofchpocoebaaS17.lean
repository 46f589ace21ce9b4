/- phone.Align; equal rows of pairs.
   The law PhoneRows, walked.
   The law PhoneRows, walked. -/
import Derived.Test.YtogofchpocoebaaS15
import Derived.Test.YtogofchpocoebaaQ6
import Derived.Test.YtogofchpocoebaaS3
import Derived.Test.YtogofchpocoebaaR1
namespace Go.Proofs.Ytogofchpocoebaa
open Go.RowKit Go.Maps

/-- memory while phone.Align runs: the costs, the pairs so far -/
structure AgSt (w0 : World) (tb xb g : Nat) (A B : Option Addr) (la ca lb cb : Nat) (cells : Array Value) (v8 : Value) (out : List (Int × Int)) (W : World) : Prop where
  re : ReIn tb xb g A B la ca lb cb cells W
  own : W.ownsRow w0.heap.size 95 2 v8 out.length (prs out)
  below : Below w0.heap.size w0 W
theorem AgSt.on {w0 : World} {tb xb g la ca lb cb : Nat} {A B : Option Addr} {cells : Array Value} {v8 : Value} {out : List (Int × Int)} {W W' : World} (h : AgSt w0 tb xb g A B la ca lb cb cells v8 out W) (hb : Below W.heap.size W W') : AgSt w0 tb xb g A B la ca lb cb cells v8 out W' :=
  ⟨h.re.on hb, own_stay h.own (Only.of_below hb _), h.below.trans (hb.mono h.below.size)⟩
theorem AgSt.app {w0 : World} {tb xb g la ca lb cb : Nat} {A B : Option Addr} {cells : Array Value} {v8 v8' : Value} {out : List (Int × Int)} {W W' : World} (h : AgSt w0 tb xb g A B la ca lb cb cells v8 out W) (x : Int × Int) (ho : W'.ownsRow w0.heap.size 95 2 v8' (out.length + 1) (prs out ++ [.int .i64 x.1, .int .i64 x.2])) (hg : W.grownBy W' v8.ownBlock) : AgSt w0 tb xb g A B la ca lb cb cells v8' (out ++ [x]) W' := by
  have hO : Only (fun k => v8.ownBlock = some k) W W' := (Only.refl _ _).grown hg (fun _ hg => .inl hg)
  refine ⟨⟨h.re.bx.only hO (fun hs => ?_), h.re.bg.only hO (fun hs => ?_), h.re.sz, h.re.tab.only hO (fun hs => ?_)⟩, ?_, h.below.trans (hO.below h.below.size fun k hk hs => by have := (h.own.lt _ hs).1; omega)⟩
  · obtain ⟨c2, h2⟩ := own_blk h.own hs
    have := blk_ty h.re.bx h2
    cases this
  · obtain ⟨c2, h2⟩ := own_blk h.own hs
    have := blk_ty h.re.bg h2
    cases this
  · exact tab_own h.own h.re.tab hs
  · rw [prs_append, List.length_append]
    simpa [prs] using ho

set_option maxHeartbeats 8000000 in
set_option maxRecDepth 100000 in
theorem align_any (A B : Option Addr) (la ca lb cb L1 L2 : Nat) (a b : List Ph) (w : World) (ra : Rd w L1 w.heap.size 3 A la (phs a)) (rb : Rd w L2 w.heap.size 3 B lb (phs b)) (fa : ∀ p ∈ a, fitP p) (fb : ∀ p ∈ b, fitP p) :
    Calls Try.prog 64 #[.slice A la ca, .slice B lb cb] w fun e w' => ∃ v, e = .returned (.tuple #[v, .int .i64 (dsE a b)]) ∧ w'.ownsRow w.heap.size 95 2 v (if dsE a b = 0 then alL a b else []).length (prs (if dsE a b = 0 then alL a b else [])) ∧ Below w.heap.size w w' := by
  have ea := ra.len_ph
  have eb := rb.len_ph
  have HV := Lib.hid (show dsE a b = if 128 < a.length ∨ 128 < b.length then 3 else if a.all isF && b.all isF then 0 else 2 from rfl)
  have HR := Lib.hid (And.intro (And.intro ra rb) (And.intro fa fb))
  obtain ⟨k0, hk0, kz0, kz1, kz2⟩ := info_parts info95
  have HK := Lib.hid (And.intro hk0 (And.intro kz0 (And.intro kz1 kz2)))
  clear ra rb fa fb hk0 kz0 kz1 kz2
  by_cases hl : 128 < la ∨ 128 < lb
  · have he : dsE a b = 3 := by rw [HV.out, if_pos (by omega)]
    rw [he, if_neg (by decide)]
    clear he HV
    go_enter Try.func64, Try.ntmps64
    go_wp2_with fail
    refine (newRest_long A B la ca lb cb _ hl).mono ?_
    rintro e w1 ⟨rfl, hb⟩
    have H1 := Lib.hid hb
    clear hb
    go_wp2
    go_ret2
    exact ⟨_, rfl, World.ownsRow_nil _ _ _ _, H1.out⟩
  · have h1 : la ≤ 128 := by omega
    have h2 : lb ≤ 128 := by omega
    cases hall : (a.all isF && b.all isF) with
    | false =>
      have he : dsE a b = 2 := by rw [HV.out, if_neg (by omega), hall]; rfl
      rw [he, if_neg (by decide)]
      clear he HV
      go_enter Try.func64, Try.ntmps64
      go_wp2_with fail
      refine (newRest_ok A B la ca lb cb L1 L2 a b _ HR.out.1.1 HR.out.1.2 HR.out.2.1 HR.out.2.2 h1 h2).mono ?_
      rintro e w1 h
      rcases h with ⟨hn, rfl, hb⟩ | ⟨hy, _⟩
      · have H1 := Lib.hid hb
        clear hb hn
        go_wp2
        go_ret2
        exact ⟨_, rfl, World.ownsRow_nil _ _ _ _, H1.out⟩
      · rw [hy.1, hy.2] at hall
        cases hall
    | true =>
      have he : dsE a b = 0 := by rw [HV.out, if_neg (by omega), hall]; rfl
      rw [he, if_pos rfl]
      clear he HV hl
      go_enter Try.func64, Try.ntmps64
      go_wp2_with fail
      refine (newRest_ok A B la ca lb cb L1 L2 a b _ HR.out.1.1 HR.out.1.2 HR.out.2.1 HR.out.2.2 h1 h2).mono ?_
      rintro e w1 h
      rcases h with ⟨hn, _, _⟩ | ⟨hy, tb, xb, g, cells, rfl, hs, hc⟩
      · rw [Bool.and_eq_true] at hall
        exact absurd hall hn
      have HS := Lib.hid (show AgSt w tb xb g A B la ca lb cb cells (.slice none 0 0) [] w1 from ⟨hs.re, World.ownsRow_nil _ _ _ _, hs.below⟩)
      have HCC := Lib.hid hc
      clear hs hc hy hall
      have wf : ∀ k, Fence.wide.fn k := fun _ => trivial
      have wd : Fence.wide.depth = none := rfl
      have HAL := Lib.hid (show alL a b = alGo a b (a.length + b.length + 1) 0 0 from rfl)
      go_wp2
      go_loopw [8, 9, 10, 11] (fun v8 v9 v10 _ wr => ∃ (i k f : Nat) (out : List (Int × Int)), i ≤ la ∧ k ≤ lb ∧ v9 = .int .i64 i ∧ v10 = .int .i64 k ∧ out.length ≤ i + k ∧ Hid (AgSt w tb xb g A B la ca lb cb cells v8 out wr) ∧ Hid (alL a b = out ++ alGo a b f i k ∧ (la - i) + (lb - k) < f)) (fun _ v9 v10 _ _ => (la + lb) - ((intOf v9).toNat + (intOf v10).toNat))
      case atStart => exact ⟨0, 0, la + lb + 1, [], by omega, by omega, rfl, rfl, by simp, HS, Lib.hid ⟨by rw [HAL.out, ea, eb]; rfl, by omega⟩⟩
      case round =>
        clear HS
        obtain ⟨i, k, f, out, hi, hk, rfl, rfl, hol, HQ, HF⟩ := hrel
        have i1 : (0 : Int) ≤ (i : Int) := by omega
        have i3 : (0 : Int) ≤ (k : Int) := by omega
        have b0 := cs_bound a b i k (by omega) (by omega)
        have b1 := cs_bound a b (i + 1) (k + 1) (by omega) (by omega)
        have b2 := cs_bound a b (i + 1) k (by omega) (by omega)
        have bb1 : (lb : Int) ≤ 128 ∧ (la : Int) ≤ 128 := by omega
        by_cases hia : i < la
        · by_cases hkb : k < lb
          · skip
            have d1 : decide ((i : Int) < (la : Int)) = true := by simp; omega
            have d2 : decide ((k : Int) < (lb : Int)) = true := by simp; omega
            have i5 : (i : Int) < (la : Int) := by omega
            have i6 : (k : Int) < (lb : Int) := by omega
            go_wp2_with fail
            refine (at_any tb xb g A B la ca lb cb cells i k _ HQ.out.re h1 h2 hi hk).mono ?_
            rintro e W3 ⟨rfl, hb3⟩
            have TW3 := Lib.hid (HQ.out.on hb3)
            clear hb3 HQ
            have t0 : W3.cell? ⟨g, (i) * (lb + 1) + (k), none⟩ = some (.int .i64 (cs a b (i) (k))) := (TW3.out.re.bg.cell _).trans (HCC.out (i) (k) (by omega) (by omega))
            have m0 : W3.cell? ⟨xb, 0, none⟩ = some (.map (some tb)) := TW3.out.re.bx.cell 0
            obtain ⟨f', q1, q2, q3⟩ := alGo_step (a := a) (b := b) (f := f) (i := i) (k := k) (by omega) (by have := HF.out.2; omega)
            obtain ⟨ba, oa, hla, eA, _, _, x0, x1, x2⟩ := (HR.out.1.1.below TW3.out.below (Nat.le_refl _)).ph (k := i) (by omega)
            obtain rfl := eA
            have ga : a.getD i (0, false, 0) = a[i] := by rw [List.getD_eq_getElem?_getD, List.getElem?_eq_getElem hla]; rfl
            have fp : fit32 a[i].1 := (HR.out.2.1 _ (List.getElem_mem hla)).1
            obtain ⟨bb, o2, hlb, eB, _, _, y0, y1, y2⟩ := (HR.out.1.2.below TW3.out.below (Nat.le_refl _)).ph (k := k) (by omega)
            obtain rfl := eB
            have gb : b.getD k (0, false, 0) = b[k] := by rw [List.getD_eq_getElem?_getD, List.getElem?_eq_getElem hlb]; rfl
            have fq : fit32 b[k].1 := (HR.out.2.2 _ (List.getElem_mem hlb)).1
            have t1 : W3.cell? ⟨g, (i + 1) * (lb + 1) + (k + 1), none⟩ = some (.int .i64 (cs a b (i + 1) (k + 1))) := (TW3.out.re.bg.cell _).trans (HCC.out (i + 1) (k + 1) (by omega) (by omega))
            have t2 : W3.cell? ⟨g, (i + 1) * (lb + 1) + (k), none⟩ = some (.int .i64 (cs a b (i + 1) (k))) := (TW3.out.re.bg.cell _).trans (HCC.out (i + 1) (k) (by omega) (by omega))
            have lp := lone_hi a[i]
            have lp0 := lone_pos a[i]
            have lpq := apart_hi a[i] b[k]
            have lpq0 := apart_nn a[i] b[k]
            have hB : (cs a b i k == apartF a[i] b[k] + cs a b (i + 1) (k + 1)) = alB a b i k := by
              unfold alB
              rw [decide_eq_true (by omega : i < a.length), decide_eq_true (by omega : k < b.length), ga, gb, Bool.true_and, Bool.true_and]
              rfl
            have hA : (cs a b i k == loneF a[i] + cs a b (i + 1) k) = alA a b i k := by
              unfold alA
              rw [decide_eq_true (by omega : i < a.length), ga, Bool.true_and]
              rfl
            have HQ1 := Lib.hid (And.intro q1 (And.intro q2 q3))
            clear q1 q2 q3 ga gb
            generalize a[i] = p at *
            generalize b[k] = q at *
            generalize cs a b (i + 1) (k + 1) = cab at *
            generalize cs a b (i + 1) k = ca_ at *
            generalize cs a b i k = cc at *
            cases hb : alB a b i k with
            | true =>
              rw [hb] at hB
              have HFF := Lib.hid (HQ1.out.1 hb)
              clear hb hA HQ1
              go_wp2
              have Xx0 := Bel.cell x0
              have Xx1 := Bel.cell x1
              have Xx2 := Bel.cell x2
              have Xy0 := Bel.cell y0
              have Xy1 := Bel.cell y1
              have Xy2 := Bel.cell y2
              have Xm0 := Bel.cell m0
              have Xt1 := Bel.cell t1
              have Xt2 := Bel.cell t2
              clear x0 x1 x2 y0 y1 y2 m0 t1 t2
              refine wp_bel (by kernel_rfl) (by kernel_rfl) ?_
              repeat (gi_big_quiet_step (fail))
              gi_big_quiet_want
              gi_big_quiet_op
              refine ⟨.int .i64 (apartF p q), fun x => ?_, ?_⟩
              · exact callsIn_wide.2 ((apart_any tb p q x.1 (TW3.out.re.tab.on x.2) fp fq).mono (fun e w' h => ⟨h.1, x.next h.2⟩))
              go_big_quiet_on
              repeat (gi_big_quiet_step (fail))
              gi_big_quiet_want
              gi_big_quiet_op
              refine ⟨.pointer (some ⟨g, (i + 1) * (lb + 1) + (k + 1), none⟩), fun x => ?_, ?_⟩
              · exact callsIn_wide.2 ((at_at tb xb g _ _ la ca lb cb cells (i + 1) (k + 1) ((i : Int) + 1) ((k : Int) + 1) (by omega) (by omega) x.1 (TW3.out.re.on x.2) h1 h2 (by omega) (by omega)).mono (fun e w' h => ⟨h.1, x.next h.2⟩))
              go_big_quiet_on
              repeat (gi_big_quiet_step (fail))
              refine wpQuietIn_nil ?_
              intro _ hw'
              obtain ⟨xW, hw''⟩ := hw'
              subst hw''
              have x0 := Xx0 xW
              have x1 := Xx1 xW
              have x2 := Xx2 xW
              have y0 := Xy0 xW
              have y1 := Xy1 xW
              have y2 := Xy2 xW
              have m0 := Xm0 xW
              have t1 := Xt1 xW
              have t2 := Xt2 xW
              clear Xx0 Xx1 Xx2 Xy0 Xy1 Xy2 Xm0 Xt1 Xt2
              obtain ⟨W4, hbW4⟩ := xW
              dsimp only at x0 x1 x2 y0 y1 y2 m0 t1 t2 ⊢
              have TW4 := Lib.hid (TW3.out.on hbW4)
              clear hbW4 TW3
              obtain ⟨A8, c8, e8⟩ := own_slice TW4.out.own
              subst e8
              have hl0 := TW4.out.below.size
              go_wp2_with (at_builtin; go_must (refine wpList_append_rd _ rfl _ _ 86 rfl w.heap.size 95 k0 (.agg #[.int .i64 0, .int .i64 0]) 2 16 Try.underlying86 HK.out.1 HK.out.2.1 HK.out.2.2.1 HK.out.2.2.2 rfl (by decide) _ _ _ rfl (TW4.out.own.alloc _) _ _ _ 1 1 _ rfl (rd_new_eq rfl rfl) (by simp [Value.oneCell']) (by unfold maxLen; omega) (by omega) (by simp; omega) ?_; intro v4 w4 _ hown hgrow _; have HE := Lib.hid ((TW4.out.on ((Below.refl _ _).alloc (Nat.le_refl _) _)).app ((i : Int), (k : Int)) hown hgrow); clear hown hgrow))
              go_roundw
              case rel => exact ⟨i + 1, k + 1, f', out ++ [((i : Int), (k : Int))], by omega, by omega, by go_num, by go_num, by simp; omega, HE, Lib.hid ⟨by rw [HF.out.1, HFF.out.2]; simp, by have := HFF.out.1; omega⟩⟩
              case measure => simp [intOf]; omega
            | false =>
              rw [hb] at hB
              go_wp2
              have Xx0 := Bel.cell x0
              have Xx1 := Bel.cell x1
              have Xx2 := Bel.cell x2
              have Xy0 := Bel.cell y0
              have Xy1 := Bel.cell y1
              have Xy2 := Bel.cell y2
              have Xm0 := Bel.cell m0
              have Xt1 := Bel.cell t1
              have Xt2 := Bel.cell t2
              clear x0 x1 x2 y0 y1 y2 m0 t1 t2
              refine wp_bel (by kernel_rfl) (by kernel_rfl) ?_
              repeat (gi_big_quiet_step (fail))
              gi_big_quiet_want
              gi_big_quiet_op
              refine ⟨.int .i64 (apartF p q), fun x => ?_, ?_⟩
              · exact callsIn_wide.2 ((apart_any tb p q x.1 (TW3.out.re.tab.on x.2) fp fq).mono (fun e w' h => ⟨h.1, x.next h.2⟩))
              go_big_quiet_on
              repeat (gi_big_quiet_step (fail))
              gi_big_quiet_want
              gi_big_quiet_op
              refine ⟨.pointer (some ⟨g, (i + 1) * (lb + 1) + (k + 1), none⟩), fun x => ?_, ?_⟩
              · exact callsIn_wide.2 ((at_at tb xb g _ _ la ca lb cb cells (i + 1) (k + 1) ((i : Int) + 1) ((k : Int) + 1) (by omega) (by omega) x.1 (TW3.out.re.on x.2) h1 h2 (by omega) (by omega)).mono (fun e w' h => ⟨h.1, x.next h.2⟩))
              go_big_quiet_on
              repeat (gi_big_quiet_step (fail))
              refine wpQuietIn_nil ?_
              intro _ hw'
              obtain ⟨xW, hw''⟩ := hw'
              subst hw''
              have x0 := Xx0 xW
              have x1 := Xx1 xW
              have x2 := Xx2 xW
              have y0 := Xy0 xW
              have y1 := Xy1 xW
              have y2 := Xy2 xW
              have m0 := Xm0 xW
              have t1 := Xt1 xW
              have t2 := Xt2 xW
              clear Xx0 Xx1 Xx2 Xy0 Xy1 Xy2 Xm0 Xt1 Xt2
              obtain ⟨W4, hbW4⟩ := xW
              dsimp only at x0 x1 x2 y0 y1 y2 m0 t1 t2 ⊢
              have TW4 := Lib.hid (TW3.out.on hbW4)
              clear hbW4 TW3
              cases ha : alA a b i k with
              | true =>
                rw [ha] at hA
                have HFF := Lib.hid (HQ1.out.2.1 hb ha)
                clear hb ha HQ1 hB
                go_wp2
                have Xx0 := Bel.cell x0
                have Xx1 := Bel.cell x1
                have Xx2 := Bel.cell x2
                have Xm0 := Bel.cell m0
                have Xt2 := Bel.cell t2
                clear x0 x1 x2 m0 t2
                refine wp_bel (by kernel_rfl) (by kernel_rfl) ?_
                repeat (gi_big_quiet_step (fail))
                gi_big_quiet_want
                gi_big_quiet_op
                refine ⟨.int .i64 (loneF p), fun x => ?_, ?_⟩
                · exact callsIn_wide.2 ((lone_any tb p x.1 (TW4.out.re.tab.on x.2) fp).mono (fun e w' h => ⟨h.1, x.next h.2⟩))
                go_big_quiet_on
                repeat (gi_big_quiet_step (fail))
                gi_big_quiet_want
                gi_big_quiet_op
                refine ⟨.pointer (some ⟨g, (i + 1) * (lb + 1) + (k), none⟩), fun x => ?_, ?_⟩
                · exact callsIn_wide.2 ((at_at tb xb g _ _ la ca lb cb cells (i + 1) (k) ((i : Int) + 1) (k) (by omega) (by omega) x.1 (TW4.out.re.on x.2) h1 h2 (by omega) (by omega)).mono (fun e w' h => ⟨h.1, x.next h.2⟩))
                go_big_quiet_on
                repeat (gi_big_quiet_step (fail))
                refine wpQuietIn_nil ?_
                intro _ hw'
                obtain ⟨xW, hw''⟩ := hw'
                subst hw''
                have x0 := Xx0 xW
                have x1 := Xx1 xW
                have x2 := Xx2 xW
                have m0 := Xm0 xW
                have t2 := Xt2 xW
                clear Xx0 Xx1 Xx2 Xm0 Xt2
                obtain ⟨W5, hbW5⟩ := xW
                dsimp only at x0 x1 x2 m0 t2 ⊢
                have TW5 := Lib.hid (TW4.out.on hbW5)
                clear hbW5 TW4
                obtain ⟨A8, c8, e8⟩ := own_slice TW5.out.own
                subst e8
                have hl0 := TW5.out.below.size
                go_wp2_with (at_builtin; go_must (refine wpList_append_rd _ rfl _ _ 86 rfl w.heap.size 95 k0 (.agg #[.int .i64 0, .int .i64 0]) 2 16 Try.underlying86 HK.out.1 HK.out.2.1 HK.out.2.2.1 HK.out.2.2.2 rfl (by decide) _ _ _ rfl (TW5.out.own.alloc _) _ _ _ 1 1 _ rfl (rd_new_eq rfl rfl) (by simp [Value.oneCell']) (by unfold maxLen; omega) (by omega) (by simp; omega) ?_; intro v4 w4 _ hown hgrow _; have HE := Lib.hid ((TW5.out.on ((Below.refl _ _).alloc (Nat.le_refl _) _)).app ((i : Int), -1) hown hgrow); clear hown hgrow))
                go_roundw
                case rel => exact ⟨i + 1, k, f', out ++ [((i : Int), -1)], by omega, by omega, by go_num, by go_num, by simp; omega, HE, Lib.hid ⟨by rw [HF.out.1, HFF.out.2]; simp, by have := HFF.out.1; omega⟩⟩
                case measure => simp [intOf]; omega
              | false =>
                rw [ha] at hA
                have HFF := Lib.hid (HQ1.out.2.2 hb ha)
                clear hb ha HQ1 hB
                go_wp2
                have Xx0 := Bel.cell x0
                have Xx1 := Bel.cell x1
                have Xx2 := Bel.cell x2
                have Xm0 := Bel.cell m0
                have Xt2 := Bel.cell t2
                clear x0 x1 x2 m0 t2
                refine wp_bel (by kernel_rfl) (by kernel_rfl) ?_
                repeat (gi_big_quiet_step (fail))
                gi_big_quiet_want
                gi_big_quiet_op
                refine ⟨.int .i64 (loneF p), fun x => ?_, ?_⟩
                · exact callsIn_wide.2 ((lone_any tb p x.1 (TW4.out.re.tab.on x.2) fp).mono (fun e w' h => ⟨h.1, x.next h.2⟩))
                go_big_quiet_on
                repeat (gi_big_quiet_step (fail))
                gi_big_quiet_want
                gi_big_quiet_op
                refine ⟨.pointer (some ⟨g, (i + 1) * (lb + 1) + (k), none⟩), fun x => ?_, ?_⟩
                · exact callsIn_wide.2 ((at_at tb xb g _ _ la ca lb cb cells (i + 1) (k) ((i : Int) + 1) (k) (by omega) (by omega) x.1 (TW4.out.re.on x.2) h1 h2 (by omega) (by omega)).mono (fun e w' h => ⟨h.1, x.next h.2⟩))
                go_big_quiet_on
                repeat (gi_big_quiet_step (fail))
                refine wpQuietIn_nil ?_
                intro _ hw'
                obtain ⟨xW, hw''⟩ := hw'
                subst hw''
                have x0 := Xx0 xW
                have x1 := Xx1 xW
                have x2 := Xx2 xW
                have m0 := Xm0 xW
                have t2 := Xt2 xW
                clear Xx0 Xx1 Xx2 Xm0 Xt2
                obtain ⟨W5, hbW5⟩ := xW
                dsimp only at x0 x1 x2 m0 t2 ⊢
                have TW5 := Lib.hid (TW4.out.on hbW5)
                clear hbW5 TW4
                obtain ⟨A8, c8, e8⟩ := own_slice TW5.out.own
                subst e8
                have hl0 := TW5.out.below.size
                go_wp2_with (at_builtin; go_must (refine wpList_append_rd _ rfl _ _ 86 rfl w.heap.size 95 k0 (.agg #[.int .i64 0, .int .i64 0]) 2 16 Try.underlying86 HK.out.1 HK.out.2.1 HK.out.2.2.1 HK.out.2.2.2 rfl (by decide) _ _ _ rfl (TW5.out.own.alloc _) _ _ _ 1 1 _ rfl (rd_new_eq rfl rfl) (by simp [Value.oneCell']) (by unfold maxLen; omega) (by omega) (by simp; omega) ?_; intro v4 w4 _ hown hgrow _; have HE := Lib.hid ((TW5.out.on ((Below.refl _ _).alloc (Nat.le_refl _) _)).app (-1, (k : Int)) hown hgrow); clear hown hgrow))
                go_roundw
                case rel => exact ⟨i, k + 1, f', out ++ [(-1, (k : Int))], by omega, by omega, by go_num, by go_num, by simp; omega, HE, Lib.hid ⟨by rw [HF.out.1, HFF.out.2]; simp, by have := HFF.out.1; omega⟩⟩
                case measure => simp [intOf]; omega
          · skip
            have d1 : decide ((i : Int) < (la : Int)) = true := by simp; omega
            have d2 : decide ((k : Int) < (lb : Int)) = false := by simp; omega
            have i5 : (i : Int) < (la : Int) := by omega
            go_wp2_with fail
            refine (at_any tb xb g A B la ca lb cb cells i k _ HQ.out.re h1 h2 hi hk).mono ?_
            rintro e W3 ⟨rfl, hb3⟩
            have TW3 := Lib.hid (HQ.out.on hb3)
            clear hb3 HQ
            have t0 : W3.cell? ⟨g, (i) * (lb + 1) + (k), none⟩ = some (.int .i64 (cs a b (i) (k))) := (TW3.out.re.bg.cell _).trans (HCC.out (i) (k) (by omega) (by omega))
            have m0 : W3.cell? ⟨xb, 0, none⟩ = some (.map (some tb)) := TW3.out.re.bx.cell 0
            obtain ⟨f', q1, q2, q3⟩ := alGo_step (a := a) (b := b) (f := f) (i := i) (k := k) (by omega) (by have := HF.out.2; omega)
            obtain ⟨ba, oa, hla, eA, _, _, x0, x1, x2⟩ := (HR.out.1.1.below TW3.out.below (Nat.le_refl _)).ph (k := i) (by omega)
            obtain rfl := eA
            have ga : a.getD i (0, false, 0) = a[i] := by rw [List.getD_eq_getElem?_getD, List.getElem?_eq_getElem hla]; rfl
            have fp : fit32 a[i].1 := (HR.out.2.1 _ (List.getElem_mem hla)).1
            have t2 : W3.cell? ⟨g, (i + 1) * (lb + 1) + (k), none⟩ = some (.int .i64 (cs a b (i + 1) (k))) := (TW3.out.re.bg.cell _).trans (HCC.out (i + 1) (k) (by omega) (by omega))
            have lp := lone_hi a[i]
            have lp0 := lone_pos a[i]
            have hbB : alB a b i k = false := by unfold alB; rw [decide_eq_false (by omega : ¬ k < b.length)]; simp
            have haA : alA a b i k = true := by
              cases h : alA a b i k with
              | true => rfl
              | false => have := al_third (a := a) (b := b) (i := i) (k := k) (by omega) h; omega
            have hA : (cs a b i k == loneF a[i] + cs a b (i + 1) k) = true := by
              rw [← haA]
              unfold alA
              rw [decide_eq_true (by omega : i < a.length), ga, Bool.true_and]
              rfl
            have HFF := Lib.hid (q2 hbB haA)
            clear q1 q2 q3 ga hbB haA
            generalize a[i] = p at *
            generalize cs a b (i + 1) k = ca_ at *
            generalize cs a b i k = cc at *
            go_wp2
            have Xx0 := Bel.cell x0
            have Xx1 := Bel.cell x1
            have Xx2 := Bel.cell x2
            have Xm0 := Bel.cell m0
            have Xt2 := Bel.cell t2
            clear x0 x1 x2 m0 t2
            refine wp_bel (by kernel_rfl) (by kernel_rfl) ?_
            repeat (gi_big_quiet_step (fail))
            refine wpQuietIn_nil ?_
            intro _ hw'
            obtain ⟨xW, hw''⟩ := hw'
            subst hw''
            have x0 := Xx0 xW
            have x1 := Xx1 xW
            have x2 := Xx2 xW
            have m0 := Xm0 xW
            have t2 := Xt2 xW
            clear Xx0 Xx1 Xx2 Xm0 Xt2
            obtain ⟨W4, hbW4⟩ := xW
            dsimp only at x0 x1 x2 m0 t2 ⊢
            have TW4 := Lib.hid (TW3.out.on hbW4)
            clear hbW4 TW3
            go_wp2
            have Xx0 := Bel.cell x0
            have Xx1 := Bel.cell x1
            have Xx2 := Bel.cell x2
            have Xm0 := Bel.cell m0
            have Xt2 := Bel.cell t2
            clear x0 x1 x2 m0 t2
            refine wp_bel (by kernel_rfl) (by kernel_rfl) ?_
            repeat (gi_big_quiet_step (fail))
            gi_big_quiet_want
            gi_big_quiet_op
            refine ⟨.int .i64 (loneF p), fun x => ?_, ?_⟩
            · exact callsIn_wide.2 ((lone_any tb p x.1 (TW4.out.re.tab.on x.2) fp).mono (fun e w' h => ⟨h.1, x.next h.2⟩))
            go_big_quiet_on
            repeat (gi_big_quiet_step (fail))
            gi_big_quiet_want
            gi_big_quiet_op
            refine ⟨.pointer (some ⟨g, (i + 1) * (lb + 1) + (k), none⟩), fun x => ?_, ?_⟩
            · exact callsIn_wide.2 ((at_at tb xb g _ _ la ca lb cb cells (i + 1) (k) ((i : Int) + 1) (k) (by omega) (by omega) x.1 (TW4.out.re.on x.2) h1 h2 (by omega) (by omega)).mono (fun e w' h => ⟨h.1, x.next h.2⟩))
            go_big_quiet_on
            repeat (gi_big_quiet_step (fail))
            refine wpQuietIn_nil ?_
            intro _ hw'
            obtain ⟨xW, hw''⟩ := hw'
            subst hw''
            have x0 := Xx0 xW
            have x1 := Xx1 xW
            have x2 := Xx2 xW
            have m0 := Xm0 xW
            have t2 := Xt2 xW
            clear Xx0 Xx1 Xx2 Xm0 Xt2
            obtain ⟨W5, hbW5⟩ := xW
            dsimp only at x0 x1 x2 m0 t2 ⊢
            have TW5 := Lib.hid (TW4.out.on hbW5)
            clear hbW5 TW4
            obtain ⟨A8, c8, e8⟩ := own_slice TW5.out.own
            subst e8
            have hl0 := TW5.out.below.size
            go_wp2_with (at_builtin; go_must (refine wpList_append_rd _ rfl _ _ 86 rfl w.heap.size 95 k0 (.agg #[.int .i64 0, .int .i64 0]) 2 16 Try.underlying86 HK.out.1 HK.out.2.1 HK.out.2.2.1 HK.out.2.2.2 rfl (by decide) _ _ _ rfl (TW5.out.own.alloc _) _ _ _ 1 1 _ rfl (rd_new_eq rfl rfl) (by simp [Value.oneCell']) (by unfold maxLen; omega) (by omega) (by simp; omega) ?_; intro v4 w4 _ hown hgrow _; have HE := Lib.hid ((TW5.out.on ((Below.refl _ _).alloc (Nat.le_refl _) _)).app ((i : Int), -1) hown hgrow); clear hown hgrow))
            go_roundw
            case rel => exact ⟨i + 1, k, f', out ++ [((i : Int), -1)], by omega, by omega, by go_num, by go_num, by simp; omega, HE, Lib.hid ⟨by rw [HF.out.1, HFF.out.2]; simp, by have := HFF.out.1; omega⟩⟩
            case measure => simp [intOf]; omega
        · by_cases hkb : k < lb
          · skip
            have d1 : decide ((i : Int) < (la : Int)) = false := by simp; omega
            have d2 : decide ((k : Int) < (lb : Int)) = true := by simp; omega
            go_wp2_with fail
            refine (at_any tb xb g A B la ca lb cb cells i k _ HQ.out.re h1 h2 hi hk).mono ?_
            rintro e W3 ⟨rfl, hb3⟩
            have TW3 := Lib.hid (HQ.out.on hb3)
            clear hb3 HQ
            have t0 : W3.cell? ⟨g, (i) * (lb + 1) + (k), none⟩ = some (.int .i64 (cs a b (i) (k))) := (TW3.out.re.bg.cell _).trans (HCC.out (i) (k) (by omega) (by omega))
            have m0 : W3.cell? ⟨xb, 0, none⟩ = some (.map (some tb)) := TW3.out.re.bx.cell 0
            obtain ⟨f', q1, q2, q3⟩ := alGo_step (a := a) (b := b) (f := f) (i := i) (k := k) (by omega) (by have := HF.out.2; omega)
            have hbB : alB a b i k = false := by unfold alB; rw [decide_eq_false (by omega : ¬ i < a.length)]; simp
            have haA : alA a b i k = false := by unfold alA; rw [decide_eq_false (by omega : ¬ i < a.length)]; simp
            have HFF := Lib.hid (q3 hbB haA)
            clear q1 q2 q3 hbB haA
            go_wp2
            refine wp_bel (by kernel_rfl) (by kernel_rfl) ?_
            repeat (gi_big_quiet_step (fail))
            refine wpQuietIn_nil ?_
            intro _ hw'
            obtain ⟨xW, hw''⟩ := hw'
            subst hw''
            obtain ⟨W4, hbW4⟩ := xW
            dsimp only
            have TW4 := Lib.hid (TW3.out.on hbW4)
            clear hbW4 TW3
            go_wp2
            refine wp_bel (by kernel_rfl) (by kernel_rfl) ?_
            repeat (gi_big_quiet_step (fail))
            refine wpQuietIn_nil ?_
            intro _ hw'
            obtain ⟨xW, hw''⟩ := hw'
            subst hw''
            obtain ⟨W5, hbW5⟩ := xW
            dsimp only
            have TW5 := Lib.hid (TW4.out.on hbW5)
            clear hbW5 TW4
            obtain ⟨A8, c8, e8⟩ := own_slice TW5.out.own
            subst e8
            have hl0 := TW5.out.below.size
            go_wp2_with (at_builtin; go_must (refine wpList_append_rd _ rfl _ _ 86 rfl w.heap.size 95 k0 (.agg #[.int .i64 0, .int .i64 0]) 2 16 Try.underlying86 HK.out.1 HK.out.2.1 HK.out.2.2.1 HK.out.2.2.2 rfl (by decide) _ _ _ rfl (TW5.out.own.alloc _) _ _ _ 1 1 _ rfl (rd_new_eq rfl rfl) (by simp [Value.oneCell']) (by unfold maxLen; omega) (by omega) (by simp; omega) ?_; intro v4 w4 _ hown hgrow _; have HE := Lib.hid ((TW5.out.on ((Below.refl _ _).alloc (Nat.le_refl _) _)).app (-1, (k : Int)) hown hgrow); clear hown hgrow))
            go_roundw
            case rel => exact ⟨i, k + 1, f', out ++ [(-1, (k : Int))], by omega, by omega, by go_num, by go_num, by simp; omega, HE, Lib.hid ⟨by rw [HF.out.1, HFF.out.2]; simp, by have := HFF.out.1; omega⟩⟩
            case measure => simp [intOf]; omega
          · skip
            have d1 : decide ((i : Int) < (la : Int)) = false := by simp; omega
            have d2 : decide ((k : Int) < (lb : Int)) = false := by simp; omega
            have hend : alL a b = out := by rw [HF.out.1, alGo_end (by omega), List.append_nil]
            have HEND := Lib.hid hend
            clear hend
            go_wp2
            go_ret2
            first
              | exact ⟨_, rfl, by rw [HEND.out]; exact HQ.out.own, HQ.out.below⟩
              | exact ⟨by rw [HEND.out]; exact HQ.out.own, HQ.out.below⟩
end Go.Proofs.Ytogofchpocoebaa

namespace Go.Proofs.Ytogofchpocoebaa
open Go.RowKit Go.Maps

set_option maxHeartbeats 1000000 in
theorem pairsEq_any (A B : Option Addr) (n c d L1 L2 B1 B2 : Nat) (l : List (Int × Int)) (w : World)
    (h1 : Rd w L1 B1 2 A n (prs l)) (h2 : Rd w L2 B2 2 B n (prs l)) (hz : n ≤ maxLen) (z1 : B1 ≤ w.heap.size) (z2 : B2 ≤ w.heap.size) :
    Calls Try.prog 67 #[.slice A n c, .slice B n d] w fun e w' => e = .returned (.bool true) ∧ Below w.heap.size w w' := by
  unfold maxLen at hz
  have H := Lib.hid (And.intro h1 h2)
  clear h1 h2
  have nb : ((n : Int) != (n : Int)) = false := by simp
  go_enter Try.func67, Try.ntmps67
  go_wp2
  go_loopw [5, 13] (fun _ v wr => ∃ k : Nat, k ≤ n ∧ v = .int .i64 k ∧ Hid (Below w.heap.size w wr)) (fun _ v _ => n - (intOf v).toNat)
  case atStart => exact ⟨0, by omega, rfl, Below.refl _ _⟩
  case round =>
    obtain ⟨k, hk, rfl, HR⟩ := hrel
    by_cases hlt : k < n
    · obtain ⟨b, o, hl, rfl, _, _, x0, x1⟩ := (H.out.1.below HR.out z1).two hlt
      obtain ⟨b', o', hl', rfl, _, _, y0, y1⟩ := (H.out.2.below HR.out z2).two hlt
      generalize l[k].1 = p at *
      generalize l[k].2 = q at *
      have n1 : ∀ x : Int, (x != x) = false := fun x => by simp
      have i1 : (0 : Int) ≤ (k : Int) := by omega
      have i2 : (k : Int) < (n : Int) := by omega
      go_wp2
      go_quiet (fail)
      go_wp2
      go_roundw
      case rel => exact ⟨k + 1, by omega, by go_num, Lib.hid (bdrawn HR.out _)⟩
      case measure => simp [intOf]; omega
    · obtain rfl : k = n := by omega
      go_wp2
      go_ret
      exact ⟨rfl, HR.out⟩
end Go.Proofs.Ytogofchpocoebaa

namespace Go.Proofs.Ytogofchpocoebaa
open Go.RowKit Go.Maps

/-- memory while the law runs: both rows, their copies -/
structure RoSt (w0 : World) (A B X Y : Option Addr) (la lb : Nat) (a b : List Ph) (W : World) : Prop where
  below : Below w0.heap.size w0 W
  ra : Rd W 0 W.heap.size 3 A la (phs a)
  rb : Rd W 0 W.heap.size 3 B lb (phs b)
  rx : Rd W 0 W.heap.size 3 X la (phs a)
  ry : Rd W 0 W.heap.size 3 Y lb (phs b)
theorem RoSt.on {w0 : World} {A B X Y : Option Addr} {la lb : Nat} {a b : List Ph} {W W' : World} (h : RoSt w0 A B X Y la lb a b W) (hb : Below W.heap.size W W') : RoSt w0 A B X Y la lb a b W' :=
  ⟨h.below.trans (hb.mono h.below.size), h.ra.up hb hb.size, h.rb.up hb hb.size, h.rx.up hb hb.size, h.ry.up hb hb.size⟩
theorem alGo_len (a b : List Ph) : ∀ (f i k : Nat), (alGo a b f i k).length ≤ f := by
  intro f
  induction f with
  | zero => intro i k; exact Nat.le_refl _
  | succ f ih =>
    intro i k
    unfold alGo
    split
    · split
      · simp only [List.length_cons]; have := ih (i + 1) (k + 1); omega
      · split
        · simp only [List.length_cons]; have := ih (i + 1) k; omega
        · simp only [List.length_cons]; have := ih i (k + 1); omega
    · simp
/-- what Align hands over -/
def alR (a b : List Ph) : List (Int × Int) := if dsE a b = 0 then alL a b else []
theorem alR_len (a b : List Ph) : (alR a b).length ≤ a.length + b.length + 1 := by
  unfold alR
  split
  · exact alGo_len a b _ 0 0
  · simp

set_option maxHeartbeats 8000000 in
set_option maxRecDepth 100000 in
theorem phoneRows_any (A B : Option Addr) (la ca lb cb : Nat) (a b : List Ph) (most : Int) (w : World) (ha : Rd w 0 w.heap.size 3 A la (phs a)) (hb : Rd w 0 w.heap.size 3 B lb (phs b)) (fa : ∀ p ∈ a, fitP p) (fb : ∀ p ∈ b, fitP p) (hna : la * 12 ≤ 140737488351232) (hnb : lb * 12 ≤ 140737488351232) :
    Calls Try.prog 11 #[.slice A la ca, .slice B lb cb, .int .i64 most] w fun e w' => e = .returned (.bool true) ∧ Below w.heap.size w w' := by
  obtain ⟨i0, hi, hz0, hz1, hz2⟩ := info_parts info43'
  have HI := Lib.hid (And.intro hi (And.intro hz0 (And.intro hz1 hz2)))
  clear hi hz0 hz1 hz2
  have HF := Lib.hid (And.intro fa fb)
  have H := Lib.hid (And.intro ha hb)
  have HLA := Lib.hid ha.len_ph
  have HLB := Lib.hid hb.len_ph
  have HNA := Lib.hid (show la ≤ maxLen by unfold maxLen; omega)
  have HNB := Lib.hid (show lb ≤ maxLen by unfold maxLen; omega)
  have HWE := Lib.hid (show wiE a b most = if dsE a b = 0 then if most < 0 then 2 else 0 else dsE a b from rfl)
  have HWB := Lib.hid (show wiB a b most = (decide (dsE a b = 0) && decide (0 ≤ most) && decide (costF a b ≤ most)) from rfl)
  have HWV := Lib.hid (show wiV a b most = if wiB a b most then costF a b else 0 from rfl)
  have HDV := Lib.hid (show dsV a b = if dsE a b = 0 then costF a b else 0 from rfl)
  clear fa fb ha hb
  go_enter Try.func11, Try.ntmps11
  go_wp2_with fail
  refine (works_any _).mono ?_
  rintro e w1 ⟨rfl, hb⟩
  have H1 := Lib.hid (And.intro hb (And.intro (H.out.1.up hb hb.size) (H.out.2.up hb hb.size)))
  clear hb
  go_wp2_with fail
  refine (cloneH_any A la ca 0 _ a _ H1.out.2.1 hna).mono ?_
  rintro e w2 ⟨A', C', rfl, ho, hb⟩
  have H2 := Lib.hid (And.intro (H1.out.1.trans (hb.mono H1.out.1.size)) (And.intro hb (And.intro ho hb.size)))
  clear hb ho
  go_upto_region 4 with (at_builtin; go_must (refine wpList_append_rd _ rfl _ _ 22 rfl w1.heap.size 43 i0 (.agg #[.int .i32 0, .bool false, .int .i32 0]) 3 12 Try.underlying22 HI.out.1 HI.out.2.1 HI.out.2.2.1 HI.out.2.2.2 rfl (by decide) _ _ _ rfl (H2.out.2.2.1.alloc _) _ _ _ 1 1 _ rfl (rd_new _ _ _ _ rfl) (by simp [Value.oneCell']) (by unfold maxLen; omega) (by omega) (by have := H2.out.2.2.2; simp; omega) ?_; intro v4 w4 _ hown hgrow _; obtain ⟨g4, c4, rfl, _, _⟩ := hown.form (by omega); have hcap := (own_cap hown).1; have hb4 : Below w1.heap.size w2 w4 := ((Below.refl _ w2).alloc H2.out.2.2.2 _).grown hgrow (by have := H2.out.2.2.2; simp; omega) (fun k hk => (H2.out.2.2.1.lt k hk).1); have hb1 := H2.out.2.1.trans hb4; have hS : PpSt w A (some ⟨g4, 0, none⟩) la a w4 := ⟨H1.out.1.trans (hb1.mono H1.out.1.size), H1.out.2.1.up hb1 hb1.size, (rd_front (own_rd hown) (phs_len a ▸ HLA.out ▸ rfl) (by omega)).more (Nat.zero_le _) (Nat.le_refl _)⟩; have HS := Lib.hid (And.intro hS (H1.out.2.2.up hb1 hb1.size)); clear hown hgrow hS hb4 hb1))
  have HSa := Lib.hid HS.out
  have hcapa := hcap
  clear HS hcap H2 H1
  generalize hxa : (some ⟨g4, 0, none⟩ : Option Addr) = X at *
  go_wp2_with fail
  refine (cloneH_any B lb cb 0 _ b _ HSa.out.2 hnb).mono ?_
  rintro e w5 ⟨B', D', rfl, ho, hb⟩
  have H5 := Lib.hid (And.intro (HSa.out.1.on hb) (And.intro hb (And.intro ho (And.intro hb.size (HSa.out.2.up hb hb.size)))))
  clear hb ho
  go_upto_region 5 with (at_builtin; go_must (refine wpList_append_rd _ rfl _ _ 22 rfl w4.heap.size 43 i0 (.agg #[.int .i32 0, .bool false, .int .i32 0]) 3 12 Try.underlying22 HI.out.1 HI.out.2.1 HI.out.2.2.1 HI.out.2.2.2 rfl (by decide) _ _ _ rfl (H5.out.2.2.1.alloc _) _ _ _ 1 1 _ rfl (rd_new _ _ _ _ rfl) (by simp [Value.oneCell']) (by unfold maxLen; omega) (by omega) (by have := H5.out.2.2.2.1; simp; omega) ?_; intro v7 w7 _ hown hgrow _; obtain ⟨g7, c7, rfl, _, _⟩ := hown.form (by omega); have hcap := (own_cap hown).1; have hb7 : Below w4.heap.size w5 w7 := ((Below.refl _ w5).alloc H5.out.2.2.2.1 _).grown hgrow (by have := H5.out.2.2.2.1; simp; omega) (fun k hk => (H5.out.2.2.1.lt k hk).1); have hb1 := H5.out.2.1.trans hb7; have hS : RoSt w A B X (some ⟨g7, 0, none⟩) la lb a b w7 := ⟨(HSa.out.1.on hb1).below, (HSa.out.1.on hb1).r0, HSa.out.2.up hb1 hb1.size, (HSa.out.1.on hb1).r1, (rd_front (own_rd hown) (phs_len b ▸ HLB.out ▸ rfl) (by omega)).more (Nat.zero_le _) (Nat.le_refl _)⟩; have HS := Lib.hid hS; clear hown hgrow hS hb7 hb1))
  clear HSa H5
  generalize hya : (some ⟨g7, 0, none⟩ : Option Addr) = Y at *
  go_wp2_with fail
  refine (distance_any X Y la _ lb _ 0 0 a b _ HS.out.rx HS.out.ry HF.out.1 HF.out.2).mono ?_
  rintro e w8 ⟨rfl, hb⟩
  have H8 := Lib.hid (HS.out.on hb)
  clear hb HS
  go_wp2_with fail
  refine (refDistance_any A B la ca lb cb 0 _ 0 _ a b _ H8.out.ra H8.out.rb (Nat.le_refl _) (Nat.le_refl _)).mono ?_
  rintro e w9 ⟨rfl, hb⟩
  have H9 := Lib.hid (H8.out.on hb)
  clear hb H8
  go_wp2_with fail
  refine (align_any X Y la _ lb _ 0 0 a b _ H9.out.rx H9.out.ry HF.out.1 HF.out.2).mono ?_
  rintro e wA ⟨vA, rfl, hoA', hb⟩
  have hoA : wA.ownsRow w9.heap.size 95 2 vA (alR a b).length (prs (alR a b)) := hoA'
  clear hoA'
  obtain ⟨PA, cA, rfl⟩ := own_slice hoA
  have HA := Lib.hid (And.intro (H9.out.on hb) (own_rd hoA))
  clear hb H9 hoA
  go_wp2_with fail
  refine (refAlign_any A B la ca lb cb 0 _ 0 _ a b _ HA.out.1.ra HA.out.1.rb (Nat.le_refl _) (Nat.le_refl _)).mono ?_
  rintro e wB ⟨vB, rfl, hoB', hb⟩
  have hoB : wB.ownsRow wA.heap.size 95 2 vB (alR a b).length (prs (alR a b)) := hoB'
  clear hoB'
  obtain ⟨PB, cB, rfl⟩ := own_slice hoB
  have HB := Lib.hid (And.intro (HA.out.1.on hb) (And.intro (HA.out.2.up hb hb.size) (own_rd hoB)))
  clear hb HA hoB
  go_wp2_with fail
  refine (within_any X Y la _ lb _ 0 0 a b most _ HB.out.1.rx HB.out.1.ry HF.out.1 HF.out.2).mono ?_
  rintro e wC ⟨rfl, hb⟩
  have HC := Lib.hid (And.intro (HB.out.1.on hb) (And.intro (HB.out.2.1.up hb hb.size) (HB.out.2.2.up hb hb.size)))
  clear hb HB
  have hal : (alR a b).length ≤ maxLen := by
    have := alR_len a b
    have h1 := HLA.out
    have h2 := HLB.out
    unfold maxLen
    omega
  have HAL := Lib.hid hal
  clear hal
  generalize alR a b = P at *
  have n1 : ∀ x : Int, (x != x) = false := fun x => by simp
  generalize dsE a b = E at *
  generalize dsV a b = V at *
  generalize wiE a b most = we at *
  generalize wiB a b most = wb at *
  generalize wiV a b most = wv at *
  generalize costF a b = cf at *
  go_wp2_with fail
  refine (pairsEq_any PA PB P.length cA cB _ _ _ _ P _ HC.out.2.1 HC.out.2.2 HAL.out (Nat.le_refl _) (Nat.le_refl _)).mono ?_
  rintro e wD ⟨rfl, hb⟩
  have HD := Lib.hid (HC.out.1.on hb)
  clear hb HC
  go_wp2_with fail
  refine (equalH_any X A la _ la ca _ _ _ _ a a _ HD.out.rx HD.out.ra HNA.out HNA.out (Nat.le_refl _) (Nat.le_refl _)).mono ?_
  rw [decide_eq_true (rfl : a = a)]
  rintro e wE ⟨rfl, hb⟩
  have HE := Lib.hid (HD.out.on hb)
  clear hb HD
  go_wp2_with fail
  refine (equalH_any Y B lb _ lb cb _ _ _ _ b b _ HE.out.ry HE.out.rb HNB.out HNB.out (Nat.le_refl _) (Nat.le_refl _)).mono ?_
  rw [decide_eq_true (rfl : b = b)]
  rintro e wF ⟨rfl, hb⟩
  have HG := Lib.hid (HE.out.on hb)
  clear hb HE
  by_cases hE : E = 0
  · have hEb : (E == 0) = true := by rw [hE]; rfl
    have hEn : (E != 0) = false := by rw [hE]; rfl
    have e1 := HWE.out
    have e2 := HWB.out
    have e3 := HWV.out
    have e4 := HDV.out
    rw [if_pos hE] at e1 e4
    rw [decide_eq_true hE, Bool.true_and] at e2
    by_cases hm : most < 0
    · have hmd : decide (most < 0) = true := by simpa using hm
      rw [if_pos hm] at e1
      rw [decide_eq_false (show ¬ 0 ≤ most by omega), Bool.false_and] at e2
      rw [e2] at e3
      subst e1 e2 e3
      clear HWE HWB HWV HDV e4
      go_wp2_with fail
      refine (works_any _).mono ?_
      rintro e wZ ⟨rfl, hb⟩
      have HZ := Lib.hid (HG.out.below.trans (hb.mono HG.out.below.size))
      clear hb HG
      go_wp2
      go_ret
      exact ⟨rfl, HZ.out⟩
    · have hmd : decide (most < 0) = false := by simpa using hm
      rw [if_neg hm] at e1
      rw [decide_eq_true (show 0 ≤ most by omega), Bool.true_and] at e2
      by_cases hc : cf ≤ most
      · have hcd : decide (cf ≤ most) = true := by simpa using hc
        have hcg : decide (most < cf) = false := by simp; omega
        rw [hcd] at e2
        rw [e2] at e3
        subst e1 e2
        replace e3 : wv = cf := e3
        subst e3 e4
        clear HWE HWB HWV HDV
        go_wp2_with fail
        refine (works_any _).mono ?_
        rintro e wZ ⟨rfl, hb⟩
        have HZ := Lib.hid (HG.out.below.trans (hb.mono HG.out.below.size))
        clear hb HG
        go_wp2
        go_ret
        exact ⟨rfl, HZ.out⟩
      · have hcd : decide (cf ≤ most) = false := by simpa using hc
        have hcg : decide (most < cf) = true := by simp; omega
        rw [hcd] at e2
        rw [e2] at e3
        subst e1 e2
        replace e3 : wv = 0 := e3
        subst e3 e4
        clear HWE HWB HWV HDV
        go_wp2_with fail
        refine (works_any _).mono ?_
        rintro e wZ ⟨rfl, hb⟩
        have HZ := Lib.hid (HG.out.below.trans (hb.mono HG.out.below.size))
        clear hb HG
        go_wp2
        go_ret
        exact ⟨rfl, HZ.out⟩
  · have hEb : (E == 0) = false := by simpa using hE
    have hEn : (E != 0) = true := by simpa using hE
    have e1 := HWE.out
    have e2 := HWB.out
    have e3 := HWV.out
    rw [if_neg hE] at e1
    rw [decide_eq_false hE, Bool.false_and, Bool.false_and] at e2
    rw [e2] at e3
    subst e1 e2
    replace e3 : wv = 0 := e3
    subst e3
    clear HWE HWB HWV HDV
    go_wp2_with fail
    refine (works_any _).mono ?_
    rintro e wZ ⟨rfl, hb⟩
    have HZ := Lib.hid (HG.out.below.trans (hb.mono HG.out.below.size))
    clear hb HG
    go_wp2
    go_ret
    exact ⟨rfl, HZ.out⟩
end Go.Proofs.Ytogofchpocoebaa
