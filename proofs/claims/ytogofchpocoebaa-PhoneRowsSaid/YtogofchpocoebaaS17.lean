/- phone.Align; equal rows of pairs. -/
import Derived.Test.YtogofchpocoebaaS16
import Derived.Test.YtogofchpocoebaaQ8
namespace Go.Proofs.Ytogofchpocoebaa
open Go.RowKit Go.Maps

/-- memory while phone.Align runs: the costs, the pairs so far -/
structure AgSt (w0 : World) (tb xb g : Nat) (A B : Option Addr) (la ca lb cb : Nat) (cells : Array Value) (v8 : Value) (out : List (Int × Int)) (W : World) : Prop where
  re : ReIn tb xb g A B la ca lb cb cells W
  own : W.ownsRow w0.heap.size 95 2 v8 out.length (prs out)
  below : Below w0.heap.size w0 W
theorem AgSt.on {w0 : World} {tb xb g la ca lb cb : Nat} {A B : Option Addr} {cells : Array Value} {v8 : Value} {out : List (Int × Int)} {W W' : World} (h : AgSt w0 tb xb g A B la ca lb cb cells v8 out W) (hb : Below W.heap.size W W') : AgSt w0 tb xb g A B la ca lb cb cells v8 out W' :=
  ⟨h.re.on hb, own_stay h.own (Only.of_below hb _), h.below.trans (hb.mono h.below.size)⟩
theorem AgSt.app {w0 : World} {tb xb g la ca lb cb : Nat} {A B : Option Addr} {cells : Array Value} {v8 v8' : Value} {out : List (Int × Int)} {W W' : World} (h : AgSt w0 tb xb g A B la ca lb cb cells v8 out W) (x : Int × Int) (ho : W'.ownsRow w0.heap.size 95 2 v8' (out.length + 1) (prs out ++ [.int .i64 x.1, .int .i64 x.2])) (hg : W.grownBy W' v8.ownBlock) : AgSt w0 tb xb g A B la ca lb cb cells v8' (out ++ [x]) W' := by
  have hO : Only (fun k => v8.ownBlock = some k) W W' := (Only.refl _ _).grown hg (fun _ hg => .inl hg)
  refine ⟨⟨h.re.bx.only hO (fun hs => ?_), h.re.bg.only hO (fun hs => ?_), h.re.sz, h.re.tab.only hO (fun hs => ?_)⟩, ?_, h.below.trans (hO.below h.below.size fun k hk hs => by have := (h.own.lt _ hs).1; omega)⟩
  · obtain ⟨c2, h2⟩ := own_blk h.own hs
    have := blk_ty h.re.bx h2
    cases this
  · obtain ⟨c2, h2⟩ := own_blk h.own hs
    have := blk_ty h.re.bg h2
    cases this
  · exact tab_own h.own h.re.tab hs
  · rw [prs_append, List.length_append]
    simpa [prs] using ho

set_option maxHeartbeats 8000000 in
set_option maxRecDepth 100000 in
theorem align_any (A B : Option Addr) (la ca lb cb L1 L2 : Nat) (a b : List Ph) (w : World) (ra : Rd w L1 w.heap.size 3 A la (phs a)) (rb : Rd w L2 w.heap.size 3 B lb (phs b)) (fa : ∀ p ∈ a, fitP p) (fb : ∀ p ∈ b, fitP p) :
    Calls Try.prog 64 #[.slice A la ca, .slice B lb cb] w fun e w' => ∃ v, e = .returned (.tuple #[v, .int .i64 (dsE a b)]) ∧ w'.ownsRow w.heap.size 95 2 v (if dsE a b = 0 then alL a b else []).length (prs (if dsE a b = 0 then alL a b else [])) ∧ Below w.heap.size w w' := by
  have ea := ra.len_ph
  have eb := rb.len_ph
  have HV := Lib.hid (show dsE a b = if 128 < a.length ∨ 128 < b.length then 3 else if a.all isF && b.all isF then 0 else 2 from rfl)
  have HR := Lib.hid (And.intro (And.intro ra rb) (And.intro fa fb))
  obtain ⟨k0, hk0, kz0, kz1, kz2⟩ := info_parts info95
  have HK := Lib.hid (And.intro hk0 (And.intro kz0 (And.intro kz1 kz2)))
  clear ra rb fa fb hk0 kz0 kz1 kz2
  by_cases hl : 128 < la ∨ 128 < lb
  · have he : dsE a b = 3 := by rw [HV.out, if_pos (by omega)]
    rw [he, if_neg (by decide)]
    clear he HV
    go_enter Try.func64, Try.ntmps64
    go_wp2_with fail
    refine (newRest_long A B la ca lb cb _ hl).mono ?_
    rintro e w1 ⟨rfl, hb⟩
    have H1 := Lib.hid hb
    clear hb
    go_wp2
    go_ret2
    exact ⟨_, rfl, World.ownsRow_nil _ _ _ _, H1.out⟩
  · have h1 : la ≤ 128 := by omega
    have h2 : lb ≤ 128 := by omega
    cases hall : (a.all isF && b.all isF) with
    | false =>
      have he : dsE a b = 2 := by rw [HV.out, if_neg (by omega), hall]; rfl
      rw [he, if_neg (by decide)]
      clear he HV
      go_enter Try.func64, Try.ntmps64
      go_wp2_with fail
      refine (newRest_ok A B la ca lb cb L1 L2 a b _ HR.out.1.1 HR.out.1.2 HR.out.2.1 HR.out.2.2 h1 h2).mono ?_
      rintro e w1 h
      rcases h with ⟨hn, rfl, hb⟩ | ⟨hy, _⟩
      · have H1 := Lib.hid hb
        clear hb hn
        go_wp2
        go_ret2
        exact ⟨_, rfl, World.ownsRow_nil _ _ _ _, H1.out⟩
      · rw [hy.1, hy.2] at hall
        cases hall
    | true =>
      have he : dsE a b = 0 := by rw [HV.out, if_neg (by omega), hall]; rfl
      rw [he, if_pos rfl]
      clear he HV hl
      go_enter Try.func64, Try.ntmps64
      go_wp2_with fail
      refine (newRest_ok A B la ca lb cb L1 L2 a b _ HR.out.1.1 HR.out.1.2 HR.out.2.1 HR.out.2.2 h1 h2).mono ?_
      rintro e w1 h
      rcases h with ⟨hn, _, _⟩ | ⟨hy, tb, xb, g, cells, rfl, hs, hc⟩
      · rw [Bool.and_eq_true] at hall
        exact absurd hall hn
      have HS := Lib.hid (show AgSt w tb xb g A B la ca lb cb cells (.slice none 0 0) [] w1 from ⟨hs.re, World.ownsRow_nil _ _ _ _, hs.below⟩)
      have HCC := Lib.hid hc
      clear hs hc hy hall
      have wf : ∀ k, Fence.wide.fn k := fun _ => trivial
      have wd : Fence.wide.depth = none := rfl
      have HAL := Lib.hid (show alL a b = alGo a b (a.length + b.length + 1) 0 0 from rfl)
      go_wp2
      go_loopw [8, 9, 10, 11] (fun v8 v9 v10 _ wr => ∃ (i k f : Nat) (out : List (Int × Int)), i ≤ la ∧ k ≤ lb ∧ v9 = .int .i64 i ∧ v10 = .int .i64 k ∧ out.length ≤ i + k ∧ Hid (AgSt w tb xb g A B la ca lb cb cells v8 out wr) ∧ Hid (alL a b = out ++ alGo a b f i k ∧ (la - i) + (lb - k) < f)) (fun _ v9 v10 _ _ => (la + lb) - ((intOf v9).toNat + (intOf v10).toNat))
      case atStart => exact ⟨0, 0, la + lb + 1, [], by omega, by omega, rfl, rfl, by simp, HS, Lib.hid ⟨by rw [HAL.out, ea, eb]; rfl, by omega⟩⟩
      case round =>
        clear HS
        obtain ⟨i, k, f, out, hi, hk, rfl, rfl, hol, HQ, HF⟩ := hrel
        have i1 : (0 : Int) ≤ (i : Int) := by omega
        have i3 : (0 : Int) ≤ (k : Int) := by omega
        have b0 := cs_bound a b i k (by omega) (by omega)
        have b1 := cs_bound a b (i + 1) (k + 1) (by omega) (by omega)
        have b2 := cs_bound a b (i + 1) k (by omega) (by omega)
        have bb1 : (lb : Int) ≤ 128 ∧ (la : Int) ≤ 128 := by omega
        by_cases hia : i < la
        · by_cases hkb : k < lb
          · skip
            have d1 : decide ((i : Int) < (la : Int)) = true := by simp; omega
            have d2 : decide ((k : Int) < (lb : Int)) = true := by simp; omega
            have i5 : (i : Int) < (la : Int) := by omega
            have i6 : (k : Int) < (lb : Int) := by omega
            go_wp2_with fail
            refine (at_any tb xb g A B la ca lb cb cells i k _ HQ.out.re h1 h2 hi hk).mono ?_
            rintro e W3 ⟨rfl, hb3⟩
            have TW3 := Lib.hid (HQ.out.on hb3)
            clear hb3 HQ
            have t0 : W3.cell? ⟨g, (i) * (lb + 1) + (k), none⟩ = some (.int .i64 (cs a b (i) (k))) := (TW3.out.re.bg.cell _).trans (HCC.out (i) (k) (by omega) (by omega))
            have m0 : W3.cell? ⟨xb, 0, none⟩ = some (.map (some tb)) := TW3.out.re.bx.cell 0
            obtain ⟨f', q1, q2, q3⟩ := alGo_step (a := a) (b := b) (f := f) (i := i) (k := k) (by omega) (by have := HF.out.2; omega)
            obtain ⟨ba, oa, hla, eA, _, _, x0, x1, x2⟩ := (HR.out.1.1.below TW3.out.below (Nat.le_refl _)).ph (k := i) (by omega)
            obtain rfl := eA
            have ga : a.getD i (0, false, 0) = a[i] := by rw [List.getD_eq_getElem?_getD, List.getElem?_eq_getElem hla]; rfl
            have fp : fit32 a[i].1 := (HR.out.2.1 _ (List.getElem_mem hla)).1
            obtain ⟨bb, o2, hlb, eB, _, _, y0, y1, y2⟩ := (HR.out.1.2.below TW3.out.below (Nat.le_refl _)).ph (k := k) (by omega)
            obtain rfl := eB
            have gb : b.getD k (0, false, 0) = b[k] := by rw [List.getD_eq_getElem?_getD, List.getElem?_eq_getElem hlb]; rfl
            have fq : fit32 b[k].1 := (HR.out.2.2 _ (List.getElem_mem hlb)).1
            have t1 : W3.cell? ⟨g, (i + 1) * (lb + 1) + (k + 1), none⟩ = some (.int .i64 (cs a b (i + 1) (k + 1))) := (TW3.out.re.bg.cell _).trans (HCC.out (i + 1) (k + 1) (by omega) (by omega))
            have t2 : W3.cell? ⟨g, (i + 1) * (lb + 1) + (k), none⟩ = some (.int .i64 (cs a b (i + 1) (k))) := (TW3.out.re.bg.cell _).trans (HCC.out (i + 1) (k) (by omega) (by omega))
            have lp := lone_hi a[i]
            have lp0 := lone_pos a[i]
            have lpq := apart_hi a[i] b[k]
            have lpq0 := apart_nn a[i] b[k]
            have hB : (cs a b i k == apartF a[i] b[k] + cs a b (i + 1) (k + 1)) = alB a b i k := by
              unfold alB
              rw [decide_eq_true (by omega : i < a.length), decide_eq_true (by omega : k < b.length), ga, gb, Bool.true_and, Bool.true_and]
              rfl
            have hA : (cs a b i k == loneF a[i] + cs a b (i + 1) k) = alA a b i k := by
              unfold alA
              rw [decide_eq_true (by omega : i < a.length), ga, Bool.true_and]
              rfl
            have HQ1 := Lib.hid (And.intro q1 (And.intro q2 q3))
            clear q1 q2 q3 ga gb
            generalize a[i] = p at *
            generalize b[k] = q at *
            generalize cs a b (i + 1) (k + 1) = cab at *
            generalize cs a b (i + 1) k = ca_ at *
            generalize cs a b i k = cc at *
            cases hb : alB a b i k with
            | true =>
              rw [hb] at hB
              have HFF := Lib.hid (HQ1.out.1 hb)
              clear hb hA HQ1
              go_wp2
              have Xx0 := Bel.cell x0
              have Xx1 := Bel.cell x1
              have Xx2 := Bel.cell x2
              have Xy0 := Bel.cell y0
              have Xy1 := Bel.cell y1
              have Xy2 := Bel.cell y2
              have Xm0 := Bel.cell m0
              have Xt1 := Bel.cell t1
              have Xt2 := Bel.cell t2
              clear x0 x1 x2 y0 y1 y2 m0 t1 t2
              refine wp_bel (by kernel_rfl) (by kernel_rfl) ?_
              repeat (gi_big_quiet_step (fail))
              gi_big_quiet_want
              gi_big_quiet_op
              refine ⟨.int .i64 (apartF p q), fun x => ?_, ?_⟩
              · exact callsIn_wide.2 ((apart_any tb p q x.1 (TW3.out.re.tab.on x.2) fp fq).mono (fun e w' h => ⟨h.1, x.next h.2⟩))
              go_big_quiet_on
              repeat (gi_big_quiet_step (fail))
              gi_big_quiet_want
              gi_big_quiet_op
              refine ⟨.pointer (some ⟨g, (i + 1) * (lb + 1) + (k + 1), none⟩), fun x => ?_, ?_⟩
              · exact callsIn_wide.2 ((at_at tb xb g _ _ la ca lb cb cells (i + 1) (k + 1) ((i : Int) + 1) ((k : Int) + 1) (by omega) (by omega) x.1 (TW3.out.re.on x.2) h1 h2 (by omega) (by omega)).mono (fun e w' h => ⟨h.1, x.next h.2⟩))
              go_big_quiet_on
              repeat (gi_big_quiet_step (fail))
              refine wpQuietIn_nil ?_
              intro _ hw'
              obtain ⟨xW, hw''⟩ := hw'
              subst hw''
              have x0 := Xx0 xW
              have x1 := Xx1 xW
              have x2 := Xx2 xW
              have y0 := Xy0 xW
              have y1 := Xy1 xW
              have y2 := Xy2 xW
              have m0 := Xm0 xW
              have t1 := Xt1 xW
              have t2 := Xt2 xW
              clear Xx0 Xx1 Xx2 Xy0 Xy1 Xy2 Xm0 Xt1 Xt2
              obtain ⟨W4, hbW4⟩ := xW
              dsimp only at x0 x1 x2 y0 y1 y2 m0 t1 t2 ⊢
              have TW4 := Lib.hid (TW3.out.on hbW4)
              clear hbW4 TW3
              obtain ⟨A8, c8, e8⟩ := own_slice TW4.out.own
              subst e8
              have hl0 := TW4.out.below.size
              go_wp2_with (at_builtin; go_must (refine wpList_append_rd _ rfl _ _ 86 rfl w.heap.size 95 k0 (.agg #[.int .i64 0, .int .i64 0]) 2 16 Try.underlying86 HK.out.1 HK.out.2.1 HK.out.2.2.1 HK.out.2.2.2 rfl (by decide) _ _ _ rfl (TW4.out.own.alloc _) _ _ _ 1 1 _ rfl (rd_new_eq rfl rfl) (by simp [Value.oneCell']) (by unfold maxLen; omega) (by omega) (by simp; omega) ?_; intro v4 w4 _ hown hgrow _; have HE := Lib.hid ((TW4.out.on ((Below.refl _ _).alloc (Nat.le_refl _) _)).app ((i : Int), (k : Int)) hown hgrow); clear hown hgrow))
              go_roundw
              case rel => exact ⟨i + 1, k + 1, f', out ++ [((i : Int), (k : Int))], by omega, by omega, by go_num, by go_num, by simp; omega, HE, Lib.hid ⟨by rw [HF.out.1, HFF.out.2]; simp, by have := HFF.out.1; omega⟩⟩
              case measure => simp [intOf]; omega
            | false =>
              rw [hb] at hB
              go_wp2
              have Xx0 := Bel.cell x0
              have Xx1 := Bel.cell x1
              have Xx2 := Bel.cell x2
              have Xy0 := Bel.cell y0
              have Xy1 := Bel.cell y1
              have Xy2 := Bel.cell y2
              have Xm0 := Bel.cell m0
              have Xt1 := Bel.cell t1
              have Xt2 := Bel.cell t2
              clear x0 x1 x2 y0 y1 y2 m0 t1 t2
              refine wp_bel (by kernel_rfl) (by kernel_rfl) ?_
              repeat (gi_big_quiet_step (fail))
              gi_big_quiet_want
              gi_big_quiet_op
              refine ⟨.int .i64 (apartF p q), fun x => ?_, ?_⟩
              · exact callsIn_wide.2 ((apart_any tb p q x.1 (TW3.out.re.tab.on x.2) fp fq).mono (fun e w' h => ⟨h.1, x.next h.2⟩))
              go_big_quiet_on
              repeat (gi_big_quiet_step (fail))
              gi_big_quiet_want
              gi_big_quiet_op
              refine ⟨.pointer (some ⟨g, (i + 1) * (lb + 1) + (k + 1), none⟩), fun x => ?_, ?_⟩
              · exact callsIn_wide.2 ((at_at tb xb g _ _ la ca lb cb cells (i + 1) (k + 1) ((i : Int) + 1) ((k : Int) + 1) (by omega) (by omega) x.1 (TW3.out.re.on x.2) h1 h2 (by omega) (by omega)).mono (fun e w' h => ⟨h.1, x.next h.2⟩))
              go_big_quiet_on
              repeat (gi_big_quiet_step (fail))
              refine wpQuietIn_nil ?_
              intro _ hw'
              obtain ⟨xW, hw''⟩ := hw'
              subst hw''
              have x0 := Xx0 xW
              have x1 := Xx1 xW
              have x2 := Xx2 xW
              have y0 := Xy0 xW
              have y1 := Xy1 xW
              have y2 := Xy2 xW
              have m0 := Xm0 xW
              have t1 := Xt1 xW
              have t2 := Xt2 xW
              clear Xx0 Xx1 Xx2 Xy0 Xy1 Xy2 Xm0 Xt1 Xt2
              obtain ⟨W4, hbW4⟩ := xW
              dsimp only at x0 x1 x2 y0 y1 y2 m0 t1 t2 ⊢
              have TW4 := Lib.hid (TW3.out.on hbW4)
              clear hbW4 TW3
              cases ha : alA a b i k with
              | true =>
                rw [ha] at hA
                have HFF := Lib.hid (HQ1.out.2.1 hb ha)
                clear hb ha HQ1 hB
                go_wp2
                have Xx0 := Bel.cell x0
                have Xx1 := Bel.cell x1
                have Xx2 := Bel.cell x2
                have Xm0 := Bel.cell m0
                have Xt2 := Bel.cell t2
                clear x0 x1 x2 m0 t2
                refine wp_bel (by kernel_rfl) (by kernel_rfl) ?_
                repeat (gi_big_quiet_step (fail))
                gi_big_quiet_want
                gi_big_quiet_op
                refine ⟨.int .i64 (loneF p), fun x => ?_, ?_⟩
                · exact callsIn_wide.2 ((lone_any tb p x.1 (TW4.out.re.tab.on x.2) fp).mono (fun e w' h => ⟨h.1, x.next h.2⟩))
                go_big_quiet_on
                repeat (gi_big_quiet_step (fail))
                gi_big_quiet_want
                gi_big_quiet_op
                refine ⟨.pointer (some ⟨g, (i + 1) * (lb + 1) + (k), none⟩), fun x => ?_, ?_⟩
                · exact callsIn_wide.2 ((at_at tb xb g _ _ la ca lb cb cells (i + 1) (k) ((i : Int) + 1) (k) (by omega) (by omega) x.1 (TW4.out.re.on x.2) h1 h2 (by omega) (by omega)).mono (fun e w' h => ⟨h.1, x.next h.2⟩))
                go_big_quiet_on
                repeat (gi_big_quiet_step (fail))
                refine wpQuietIn_nil ?_
                intro _ hw'
                obtain ⟨xW, hw''⟩ := hw'
                subst hw''
                have x0 := Xx0 xW
                have x1 := Xx1 xW
                have x2 := Xx2 xW
                have m0 := Xm0 xW
                have t2 := Xt2 xW
                clear Xx0 Xx1 Xx2 Xm0 Xt2
                obtain ⟨W5, hbW5⟩ := xW
                dsimp only at x0 x1 x2 m0 t2 ⊢
                have TW5 := Lib.hid (TW4.out.on hbW5)
                clear hbW5 TW4
                obtain ⟨A8, c8, e8⟩ := own_slice TW5.out.own
                subst e8
                have hl0 := TW5.out.below.size
                go_wp2_with (at_builtin; go_must (refine wpList_append_rd _ rfl _ _ 86 rfl w.heap.size 95 k0 (.agg #[.int .i64 0, .int .i64 0]) 2 16 Try.underlying86 HK.out.1 HK.out.2.1 HK.out.2.2.1 HK.out.2.2.2 rfl (by decide) _ _ _ rfl (TW5.out.own.alloc _) _ _ _ 1 1 _ rfl (rd_new_eq rfl rfl) (by simp [Value.oneCell']) (by unfold maxLen; omega) (by omega) (by simp; omega) ?_; intro v4 w4 _ hown hgrow _; have HE := Lib.hid ((TW5.out.on ((Below.refl _ _).alloc (Nat.le_refl _) _)).app ((i : Int), -1) hown hgrow); clear hown hgrow))
                go_roundw
                case rel => exact ⟨i + 1, k, f', out ++ [((i : Int), -1)], by omega, by omega, by go_num, by go_num, by simp; omega, HE, Lib.hid ⟨by rw [HF.out.1, HFF.out.2]; simp, by have := HFF.out.1; omega⟩⟩
                case measure => simp [intOf]; omega
              | false =>
                rw [ha] at hA
                have HFF := Lib.hid (HQ1.out.2.2 hb ha)
                clear hb ha HQ1 hB
                go_wp2
                have Xx0 := Bel.cell x0
                have Xx1 := Bel.cell x1
                have Xx2 := Bel.cell x2
                have Xm0 := Bel.cell m0
                have Xt2 := Bel.cell t2
                clear x0 x1 x2 m0 t2
                refine wp_bel (by kernel_rfl) (by kernel_rfl) ?_
                repeat (gi_big_quiet_step (fail))
                gi_big_quiet_want
                gi_big_quiet_op
                refine ⟨.int .i64 (loneF p), fun x => ?_, ?_⟩
                · exact callsIn_wide.2 ((lone_any tb p x.1 (TW4.out.re.tab.on x.2) fp).mono (fun e w' h => ⟨h.1, x.next h.2⟩))
                go_big_quiet_on
                repeat (gi_big_quiet_step (fail))
                gi_big_quiet_want
                gi_big_quiet_op
                refine ⟨.pointer (some ⟨g, (i + 1) * (lb + 1) + (k), none⟩), fun x => ?_, ?_⟩
                · exact callsIn_wide.2 ((at_at tb xb g _ _ la ca lb cb cells (i + 1) (k) ((i : Int) + 1) (k) (by omega) (by omega) x.1 (TW4.out.re.on x.2) h1 h2 (by omega) (by omega)).mono (fun e w' h => ⟨h.1, x.next h.2⟩))
                go_big_quiet_on
                repeat (gi_big_quiet_step (fail))
                refine wpQuietIn_nil ?_
                intro _ hw'
                obtain ⟨xW, hw''⟩ := hw'
                subst hw''
                have x0 := Xx0 xW
                have x1 := Xx1 xW
                have x2 := Xx2 xW
                have m0 := Xm0 xW
                have t2 := Xt2 xW
                clear Xx0 Xx1 Xx2 Xm0 Xt2
                obtain ⟨W5, hbW5⟩ := xW
                dsimp only at x0 x1 x2 m0 t2 ⊢
                have TW5 := Lib.hid (TW4.out.on hbW5)
                clear hbW5 TW4
                obtain ⟨A8, c8, e8⟩ := own_slice TW5.out.own
                subst e8
                have hl0 := TW5.out.below.size
                go_wp2_with (at_builtin; go_must (refine wpList_append_rd _ rfl _ _ 86 rfl w.heap.size 95 k0 (.agg #[.int .i64 0, .int .i64 0]) 2 16 Try.underlying86 HK.out.1 HK.out.2.1 HK.out.2.2.1 HK.out.2.2.2 rfl (by decide) _ _ _ rfl (TW5.out.own.alloc _) _ _ _ 1 1 _ rfl (rd_new_eq rfl rfl) (by simp [Value.oneCell']) (by unfold maxLen; omega) (by omega) (by simp; omega) ?_; intro v4 w4 _ hown hgrow _; have HE := Lib.hid ((TW5.out.on ((Below.refl _ _).alloc (Nat.le_refl _) _)).app (-1, (k : Int)) hown hgrow); clear hown hgrow))
                go_roundw
                case rel => exact ⟨i, k + 1, f', out ++ [(-1, (k : Int))], by omega, by omega, by go_num, by go_num, by simp; omega, HE, Lib.hid ⟨by rw [HF.out.1, HFF.out.2]; simp, by have := HFF.out.1; omega⟩⟩
                case measure => simp [intOf]; omega
          · skip
            have d1 : decide ((i : Int) < (la : Int)) = true := by simp; omega
            have d2 : decide ((k : Int) < (lb : Int)) = false := by simp; omega
            have i5 : (i : Int) < (la : Int) := by omega
            go_wp2_with fail
            refine (at_any tb xb g A B la ca lb cb cells i k _ HQ.out.re h1 h2 hi hk).mono ?_
            rintro e W3 ⟨rfl, hb3⟩
            have TW3 := Lib.hid (HQ.out.on hb3)
            clear hb3 HQ
            have t0 : W3.cell? ⟨g, (i) * (lb + 1) + (k), none⟩ = some (.int .i64 (cs a b (i) (k))) := (TW3.out.re.bg.cell _).trans (HCC.out (i) (k) (by omega) (by omega))
            have m0 : W3.cell? ⟨xb, 0, none⟩ = some (.map (some tb)) := TW3.out.re.bx.cell 0
            obtain ⟨f', q1, q2, q3⟩ := alGo_step (a := a) (b := b) (f := f) (i := i) (k := k) (by omega) (by have := HF.out.2; omega)
            obtain ⟨ba, oa, hla, eA, _, _, x0, x1, x2⟩ := (HR.out.1.1.below TW3.out.below (Nat.le_refl _)).ph (k := i) (by omega)
            obtain rfl := eA
            have ga : a.getD i (0, false, 0) = a[i] := by rw [List.getD_eq_getElem?_getD, List.getElem?_eq_getElem hla]; rfl
            have fp : fit32 a[i].1 := (HR.out.2.1 _ (List.getElem_mem hla)).1
            have t2 : W3.cell? ⟨g, (i + 1) * (lb + 1) + (k), none⟩ = some (.int .i64 (cs a b (i + 1) (k))) := (TW3.out.re.bg.cell _).trans (HCC.out (i + 1) (k) (by omega) (by omega))
            have lp := lone_hi a[i]
            have lp0 := lone_pos a[i]
            have hbB : alB a b i k = false := by unfold alB; rw [decide_eq_false (by omega : ¬ k < b.length)]; simp
            have haA : alA a b i k = true := by
              cases h : alA a b i k with
              | true => rfl
              | false => have := al_third (a := a) (b := b) (i := i) (k := k) (by omega) h; omega
            have hA : (cs a b i k == loneF a[i] + cs a b (i + 1) k) = true := by
              rw [← haA]
              unfold alA
              rw [decide_eq_true (by omega : i < a.length), ga, Bool.true_and]
              rfl
            have HFF := Lib.hid (q2 hbB haA)
            clear q1 q2 q3 ga hbB haA
            generalize a[i] = p at *
            generalize cs a b (i + 1) k = ca_ at *
            generalize cs a b i k = cc at *
            go_wp2
            have Xx0 := Bel.cell x0
            have Xx1 := Bel.cell x1
            have Xx2 := Bel.cell x2
            have Xm0 := Bel.cell m0
            have Xt2 := Bel.cell t2
            clear x0 x1 x2 m0 t2
            refine wp_bel (by kernel_rfl) (by kernel_rfl) ?_
            repeat (gi_big_quiet_step (fail))
            refine wpQuietIn_nil ?_
            intro _ hw'
            obtain ⟨xW, hw''⟩ := hw'
            subst hw''
            have x0 := Xx0 xW
            have x1 := Xx1 xW
            have x2 := Xx2 xW
            have m0 := Xm0 xW
            have t2 := Xt2 xW
            clear Xx0 Xx1 Xx2 Xm0 Xt2
            obtain ⟨W4, hbW4⟩ := xW
            dsimp only at x0 x1 x2 m0 t2 ⊢
            have TW4 := Lib.hid (TW3.out.on hbW4)
            clear hbW4 TW3
            go_wp2
            have Xx0 := Bel.cell x0
            have Xx1 := Bel.cell x1
            have Xx2 := Bel.cell x2
            have Xm0 := Bel.cell m0
            have Xt2 := Bel.cell t2
            clear x0 x1 x2 m0 t2
            refine wp_bel (by kernel_rfl) (by kernel_rfl) ?_
            repeat (gi_big_quiet_step (fail))
            gi_big_quiet_want
            gi_big_quiet_op
            refine ⟨.int .i64 (loneF p), fun x => ?_, ?_⟩
            · exact callsIn_wide.2 ((lone_any tb p x.1 (TW4.out.re.tab.on x.2) fp).mono (fun e w' h => ⟨h.1, x.next h.2⟩))
            go_big_quiet_on
            repeat (gi_big_quiet_step (fail))
            gi_big_quiet_want
            gi_big_quiet_op
            refine ⟨.pointer (some ⟨g, (i + 1) * (lb + 1) + (k), none⟩), fun x => ?_, ?_⟩
            · exact callsIn_wide.2 ((at_at tb xb g _ _ la ca lb cb cells (i + 1) (k) ((i : Int) + 1) (k) (by omega) (by omega) x.1 (TW4.out.re.on x.2) h1 h2 (by omega) (by omega)).mono (fun e w' h => ⟨h.1, x.next h.2⟩))
            go_big_quiet_on
            repeat (gi_big_quiet_step (fail))
            refine wpQuietIn_nil ?_
            intro _ hw'
            obtain ⟨xW, hw''⟩ := hw'
            subst hw''
            have x0 := Xx0 xW
            have x1 := Xx1 xW
            have x2 := Xx2 xW
            have m0 := Xm0 xW
            have t2 := Xt2 xW
            clear Xx0 Xx1 Xx2 Xm0 Xt2
            obtain ⟨W5, hbW5⟩ := xW
            dsimp only at x0 x1 x2 m0 t2 ⊢
            have TW5 := Lib.hid (TW4.out.on hbW5)
            clear hbW5 TW4
            obtain ⟨A8, c8, e8⟩ := own_slice TW5.out.own
            subst e8
            have hl0 := TW5.out.below.size
            go_wp2_with (at_builtin; go_must (refine wpList_append_rd _ rfl _ _ 86 rfl w.heap.size 95 k0 (.agg #[.int .i64 0, .int .i64 0]) 2 16 Try.underlying86 HK.out.1 HK.out.2.1 HK.out.2.2.1 HK.out.2.2.2 rfl (by decide) _ _ _ rfl (TW5.out.own.alloc _) _ _ _ 1 1 _ rfl (rd_new_eq rfl rfl) (by simp [Value.oneCell']) (by unfold maxLen; omega) (by omega) (by simp; omega) ?_; intro v4 w4 _ hown hgrow _; have HE := Lib.hid ((TW5.out.on ((Below.refl _ _).alloc (Nat.le_refl _) _)).app ((i : Int), -1) hown hgrow); clear hown hgrow))
            go_roundw
            case rel => exact ⟨i + 1, k, f', out ++ [((i : Int), -1)], by omega, by omega, by go_num, by go_num, by simp; omega, HE, Lib.hid ⟨by rw [HF.out.1, HFF.out.2]; simp, by have := HFF.out.1; omega⟩⟩
            case measure => simp [intOf]; omega
        · by_cases hkb : k < lb
          · skip
            have d1 : decide ((i : Int) < (la : Int)) = false := by simp; omega
            have d2 : decide ((k : Int) < (lb : Int)) = true := by simp; omega
            go_wp2_with fail
            refine (at_any tb xb g A B la ca lb cb cells i k _ HQ.out.re h1 h2 hi hk).mono ?_
            rintro e W3 ⟨rfl, hb3⟩
            have TW3 := Lib.hid (HQ.out.on hb3)
            clear hb3 HQ
            have t0 : W3.cell? ⟨g, (i) * (lb + 1) + (k), none⟩ = some (.int .i64 (cs a b (i) (k))) := (TW3.out.re.bg.cell _).trans (HCC.out (i) (k) (by omega) (by omega))
            have m0 : W3.cell? ⟨xb, 0, none⟩ = some (.map (some tb)) := TW3.out.re.bx.cell 0
            obtain ⟨f', q1, q2, q3⟩ := alGo_step (a := a) (b := b) (f := f) (i := i) (k := k) (by omega) (by have := HF.out.2; omega)
            have hbB : alB a b i k = false := by unfold alB; rw [decide_eq_false (by omega : ¬ i < a.length)]; simp
            have haA : alA a b i k = false := by unfold alA; rw [decide_eq_false (by omega : ¬ i < a.length)]; simp
            have HFF := Lib.hid (q3 hbB haA)
            clear q1 q2 q3 hbB haA
            go_wp2
            refine wp_bel (by kernel_rfl) (by kernel_rfl) ?_
            repeat (gi_big_quiet_step (fail))
            refine wpQuietIn_nil ?_
            intro _ hw'
            obtain ⟨xW, hw''⟩ := hw'
            subst hw''
            obtain ⟨W4, hbW4⟩ := xW
            dsimp only
            have TW4 := Lib.hid (TW3.out.on hbW4)
            clear hbW4 TW3
            go_wp2
            refine wp_bel (by kernel_rfl) (by kernel_rfl) ?_
            repeat (gi_big_quiet_step (fail))
            refine wpQuietIn_nil ?_
            intro _ hw'
            obtain ⟨xW, hw''⟩ := hw'
            subst hw''
            obtain ⟨W5, hbW5⟩ := xW
            dsimp only
            have TW5 := Lib.hid (TW4.out.on hbW5)
            clear hbW5 TW4
            obtain ⟨A8, c8, e8⟩ := own_slice TW5.out.own
            subst e8
            have hl0 := TW5.out.below.size
            go_wp2_with (at_builtin; go_must (refine wpList_append_rd _ rfl _ _ 86 rfl w.heap.size 95 k0 (.agg #[.int .i64 0, .int .i64 0]) 2 16 Try.underlying86 HK.out.1 HK.out.2.1 HK.out.2.2.1 HK.out.2.2.2 rfl (by decide) _ _ _ rfl (TW5.out.own.alloc _) _ _ _ 1 1 _ rfl (rd_new_eq rfl rfl) (by simp [Value.oneCell']) (by unfold maxLen; omega) (by omega) (by simp; omega) ?_; intro v4 w4 _ hown hgrow _; have HE := Lib.hid ((TW5.out.on ((Below.refl _ _).alloc (Nat.le_refl _) _)).app (-1, (k : Int)) hown hgrow); clear hown hgrow))
            go_roundw
            case rel => exact ⟨i, k + 1, f', out ++ [(-1, (k : Int))], by omega, by omega, by go_num, by go_num, by simp; omega, HE, Lib.hid ⟨by rw [HF.out.1, HFF.out.2]; simp, by have := HFF.out.1; omega⟩⟩
            case measure => simp [intOf]; omega
          · skip
            have d1 : decide ((i : Int) < (la : Int)) = false := by simp; omega
            have d2 : decide ((k : Int) < (lb : Int)) = false := by simp; omega
            have hend : alL a b = out := by rw [HF.out.1, alGo_end (by omega), List.append_nil]
            have HEND := Lib.hid hend
            clear hend
            go_wp2
            go_ret2
            first
              | exact ⟨_, rfl, by rw [HEND.out]; exact HQ.out.own, HQ.out.below⟩
              | exact ⟨by rw [HEND.out]; exact HQ.out.own, HQ.out.below⟩
end Go.Proofs.Ytogofchpocoebaa
