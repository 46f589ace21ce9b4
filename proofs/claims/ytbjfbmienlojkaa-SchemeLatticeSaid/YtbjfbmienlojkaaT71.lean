/- The reference's Join: the walk. -/
import Derived.Test.YtbjfbmienlojkaaT69
import Derived.Test.YtbjfbmienlojkaaT64
import Derived.Deep.QuietTactic
import Derived.BigQuiet
import Derived.Deep.RegionHeld3
namespace Go.Proofs.Ytbjfbmienlojkaa
open Go.RowKit Go.Maps
open BigFrame

/-- a region that only reads, and whose callees keep within a class of worlds: one walk -/
theorem region_quiet_in {P : Program} {id : Nat} {Q : Exit → Act → World → Prop} {a : Act} {w : World} {l : List Oper} (C : World → Prop) (hm : P.follows .mixedOrders = true) (hB : Region.lexB .any l.toArray = true) (hC : C w.drew)
    (h : wpQuiet P l.toArray C (fun a' => ∀ w', C w' → Q .normal a' w') l a) : (Code.region id l.toArray true).wp P Q a w :=
  wp_region_quiet (C := C) hm hB hC (by simpa using h)

/-- a flag as a number -/
def boolV : Value → Nat
  | .bool true => 1
  | _ => 0
/-- a round of the reference's joining, so far: nothing has moved and the lines seen are settled, or the marks' sum has fallen -/
def rjRound (n : Nat) (l1 l2 : List (Int × Int)) (S : Nat) (i k : Nat) (mv : Bool) (f : Nat → Nat) : Prop :=
  sumM n f ≤ S ∧ (mv = true → sumM n f < S) ∧ (mv = false → ∀ x y, x < n → y < n → (x < i ∨ (x = i ∧ y < k)) → (alikeB l1 x y = true ∨ alikeB l2 x y = true) → ¬ f y < f x)
theorem rjRound.start (n : Nat) (l1 l2 : List (Int × Int)) (f : Nat → Nat) : rjRound n l1 l2 (sumM n f) 0 0 false f := ⟨Nat.le_refl _, fun h => by simp at h, fun _ x y _ _ h => by omega⟩
theorem rjRound.line {n : Nat} {l1 l2 : List (Int × Int)} {S i : Nat} {mv : Bool} {f : Nat → Nat} (h : rjRound n l1 l2 S i n mv f) : rjRound n l1 l2 S (i + 1) 0 mv f := ⟨h.1, h.2.1, fun hm x y hx hy hxy ha => h.2.2 hm x y hx hy (by omega) ha⟩
theorem rjRound.stay {n : Nat} {l1 l2 : List (Int × Int)} {S i k : Nat} {mv : Bool} {f : Nat → Nat} (h : rjRound n l1 l2 S i k mv f) (hs : (alikeB l1 i k = true ∨ alikeB l2 i k = true) → ¬ f k < f i) : rjRound n l1 l2 S i (k + 1) mv f :=
  ⟨h.1, h.2.1, fun hm x y hx hy hxy ha => by
    by_cases e : x = i ∧ y = k
    · obtain ⟨rfl, rfl⟩ := e
      exact hs ha
    · exact h.2.2 hm x y hx hy (by omega) ha⟩
theorem rjRound.move {n : Nat} {l1 l2 : List (Int × Int)} {S i k : Nat} {mv : Bool} {f : Nat → Nat} (h : rjRound n l1 l2 S i k mv f) (hi : i < n) (hl : f k < f i) : rjRound n l1 l2 S i (k + 1) true (upd f i (f k)) := by
  have := sumM_less (n := n) hi hl
  exact ⟨by have := h.1; omega, fun _ => by have := h.1; omega, fun hm => by simp at hm⟩

set_option maxHeartbeats 4000000 in
set_option maxRecDepth 100000 in
theorem refJoin_any (A1 A2 B1 B2 : Option Addr) (n c1 n2 c2 d1 m2 d2 L1 L2 L3 : Nat) (l1 l2 : List (Int × Int)) (s1 : List Int) (w : World)
    (h1 : Rd w L1 w.heap.size 2 A1 n (prs l1)) (h2 : Rd w L2 w.heap.size 1 A2 n2 (s1.map (Value.int .i64))) (h3 : Rd w L3 w.heap.size 2 B1 n (prs l2)) (hn : n ≤ 512) (e2 : n2 ≤ 512) :
    Calls Try.prog 48 #[.agg #[.slice A1 n c1, .slice A2 n2 c2], .agg #[.slice B1 n d1, .slice B2 m2 d2]] w fun e w' => ∃ E1 e1 E2 e2, e = .returned (.tuple #[.agg #[.slice E1 (madeL l1 l2 (jnF l1 l2 n)).length e1, .slice E2 (madeS l1 l2 (jnF l1 l2 n) s1).length e2], .int .i64 (madeE l1 l2 (jnF l1 l2 n))]) ∧
      w'.ownsRow w.heap.size 66 2 (.slice E1 (madeL l1 l2 (jnF l1 l2 n)).length e1) (madeL l1 l2 (jnF l1 l2 n)).length (prs (madeL l1 l2 (jnF l1 l2 n))) ∧ w'.ownsRow w.heap.size 3 1 (.slice E2 (madeS l1 l2 (jnF l1 l2 n) s1).length e2) (madeS l1 l2 (jnF l1 l2 n) s1).length ((madeS l1 l2 (jnF l1 l2 n) s1).map (Value.int .i64)) ∧ Below w.heap.size w w' := by
  have H1 := Lib.hid h1
  have H2 := Lib.hid h2
  have H3 := Lib.hid h3
  have hinfo : (Try.prog.info? 3).map (fun i => (i.zero, i.size, i.bytes)) = some (some (.int .i64 0), 1, 8) := by kernel_rfl
  obtain ⟨i0, hi, hz0, hz1, hz2⟩ := info_parts hinfo
  obtain ⟨Z, hZ, hmk⟩ := made_full 24 3 i0 _ 1 Try.underlying24 hi hz0 hz1 n (by rw [hz2]; omega) (by unfold maxLen; omega)
  have HZ := Lib.hid hZ
  clear h1 h2 h3 hi hz0 hz1 hz2 hinfo hZ
  go_enter Try.func48, Try.ntmps48
  go_upto_region 1 with (fail)
  refine wp_abs (fun wx => TwoIn w (.slice A1 n c1) (.slice A2 n2 c2) (.slice B1 n d1) (.slice B2 m2 d2) wx ∧ Blk wx (w.heap.size + 2) 26 #[.slice none 0 0, .slice none 0 0] ∧ wx.heap.size = w.heap.size + 3) ⟨(TwoIn.init w _ _ _ _).on ((Below.refl _ _).alloc (Nat.le_refl _) _), blk_new_eq (by simp), by simp⟩ ?_
  rintro w1 ⟨hw, hq, hsz⟩
  have c0 : w1.cell? ⟨w.heap.size, 0, none⟩ = some (.slice A1 n c1) := hw.b0.cell 0
  have HX := Lib.hid (And.intro hw hq)
  have hsz2 : w.heap.size + 3 ≤ w1.heap.size := by omega
  clear hw hq hsz
  go_upto_region 2 with (fail)
  generalize hg : w1.heap.size = g at *
  refine wp_abs (JkSt w (.slice A1 n c1) (.slice A2 n2 c2) (.slice B1 n d1) (.slice B2 m2 d2) g Z) ?_ ?_
  · subst hg
    exact ⟨HX.out.1.on ((Below.refl _ _).alloc (Nat.le_refl _) _), HX.out.2.alloc _, Blk.new _ _ _, hsz2⟩
  intro w3 hS
  have HS := Lib.hid hS
  clear hS HX hmk c0 hsz2 hg
  go_wp2
  go_loopw [17] (fun iv wr => ∃ (i : Nat) (cs : Array Value), i ≤ n ∧ iv = .int .i64 i ∧ Hid (JkSt w (.slice A1 n c1) (.slice A2 n2 c2) (.slice B1 n d1) (.slice B2 m2 d2) g cs wr ∧ cs.size = n ∧ ∀ j, j < i → cs[j]? = some (.int .i64 j))) (fun iv _ => n - (intOf iv).toNat)
  case atStart => exact ⟨0, Z, by omega, rfl, Lib.hid ⟨HS.out, by rw [HZ.out, Nat.mul_one], fun j hj => absurd hj (Nat.not_lt_zero _)⟩⟩
  case round =>
    obtain ⟨i, cs, hi, rfl, HR⟩ := hrel
    clear HS
    by_cases hlt : i < n
    · have y0 : wr.cell? ⟨g, i, none⟩ = some (cs[i]'(by rw [HR.out.2.1]; exact hlt)) := by rw [HR.out.1.bk.cell, Array.getElem?_eq_getElem]
      have f0 : wr.frozen? ⟨g, i, none⟩ = false := HR.out.1.bk.frozen i
      go_wp2
      go_roundw
      case rel => exact ⟨i + 1, _, by omega, by go_num, Lib.hid ⟨HR.out.1.put i _, by simp; exact HR.out.2.1, fun j hj => by
        rw [Array.getElem?_setIfInBounds]
        by_cases e : i = j
        · subst e; rw [if_pos rfl, if_pos (by rw [HR.out.2.1]; exact hlt)]
        · rw [if_neg e]; exact HR.out.2.2 j (by omega)⟩⟩
      case measure => simp [intOf]; omega
    · have hin : n = i := by omega
      subst hin
      have hcs : cs = arr n (fun i => i) := arr_of HR.out.2.1 fun j hj => HR.out.2.2 j hj
      subst hcs
      have HS := Lib.hid HR.out.1
      clear HR
      go_wp2
      go_loopw [8] (fun mv wr => ∃ (b : Bool) (f : Nat → Nat), mv = .bool b ∧ Hid (JkSt w (.slice A1 n c1) (.slice A2 n2 c2) (.slice B1 n d1) (.slice B2 m2 d2) g (arr n f) wr ∧ RjInv n l1 l2 f ∧ (b = false → Least n l1 l2 f))) (fun mv wr => boolV mv + sumW wr g)
      case atStart => exact ⟨true, _, rfl, Lib.hid ⟨HS.out, RjInv.init n l1 l2, fun h => by simp at h⟩⟩
      case round =>
        obtain ⟨b, f, rfl, HR⟩ := hrel
        clear HS
        cases b with
        | false =>
          have hmf : mks n f = jnF l1 l2 n := jnF_of (HR.out.2.2 rfl)
          have HMK := Lib.hid hmf
          have hS := HR.out.1
          have hrm : Rd wr 0 wr.heap.size 1 (some ⟨g, 0, none⟩) n ((mks n f).map (Value.int .i64)) := rd_arr hS.bk (Nat.zero_le _)
          generalize mks n f = mk at *
          have HRM := Lib.hid hrm
          have c0 : wr.cell? ⟨w.heap.size, 0, none⟩ = some (.slice A1 n c1) := hS.two.b0.cell 0
          have c1' : wr.cell? ⟨w.heap.size, 1, none⟩ = some (.slice A2 n2 c2) := hS.two.b0.cell 1
          have d0 : wr.cell? ⟨w.heap.size + 1, 0, none⟩ = some (.slice B1 n d1) := hS.two.b1.cell 0
          have d1' : wr.cell? ⟨w.heap.size + 1, 1, none⟩ = some (.slice B2 m2 d2) := hS.two.b1.cell 1
          have HX := Lib.hid hS
          clear hS HR hrm hmf
          go_wp2_with fail
          refine (both_any A1 A2 B1 B2 (some ⟨g, 0, none⟩) n c1 n2 c2 d1 m2 d2 n L1 L2 L3 0 l1 l2 s1 mk wr (H1.out.up HX.out.two.below HX.out.two.below.size) (H2.out.up HX.out.two.below HX.out.two.below.size) (H3.out.up HX.out.two.below HX.out.two.below.size) HRM.out hn e2).mono ?_
          rintro e w5 ⟨E1, x1, E2, x2, rfl, o1, o2, hb5⟩
          have HY := Lib.hid (And.intro (HX.out.on hb5) (And.intro o1 o2))
          have bz := HX.out.two.below.size
          have hwr : w.heap.size + 2 < wr.heap.size := HX.out.b4.lt
          clear c0 c1' d0 d1' o1 o2 hb5 HX HRM
          have f0 : w5.frozen? ⟨w.heap.size + 2, 0, none⟩ = false := HY.out.1.b4.frozen 0
          have f1 : w5.frozen? ⟨w.heap.size + 2, 1, none⟩ = false := HY.out.1.b4.frozen 1
          have g0 : w5.cell? ⟨w.heap.size + 2, 0, none⟩ = some (.slice none 0 0) := HY.out.1.b4.cell 0
          have g1 : w5.cell? ⟨w.heap.size + 2, 1, none⟩ = some (.slice none 0 0) := HY.out.1.b4.cell 1
          have hq1 := HY.out.1.two.below.size
          generalize hg1 : madeL l1 l2 mk = ml at *
          generalize hg2 : madeS l1 l2 mk s1 = ms at *
          generalize hg3 : madeE l1 l2 mk = me at *
          have HG := Lib.hid (And.intro hg1 (And.intro hg2 hg3))
          clear hg1 hg2 hg3
          go_wp2
          have HF := (HY.out.1.b4.set_ 0 (.slice E1 ml.length x1)).set_ 1 (.slice E2 ms.length x2)
          have t0 := HF.cell 0
          have t1 := HF.cell 1
          simp at t0 t1
          refine bodyPost_ret (v := .tuple #[.agg #[.slice E1 ml.length x1, .slice E2 ms.length x2], .int .i64 me]) (by simp [results, Try.results48, go_sem, t0, t1]) rfl ?_
          rw [← HMK.out, HG.out.1, HG.out.2.1, HG.out.2.2]
          exact ⟨E1, x1, E2, x2, rfl, own_more (own_setCell (p := ⟨w.heap.size + 2, 1, none⟩) (own_setCell (p := ⟨w.heap.size + 2, 0, none⟩) HY.out.2.1 hwr _) hwr _) bz, own_more (own_setCell (p := ⟨w.heap.size + 2, 1, none⟩) (own_setCell (p := ⟨w.heap.size + 2, 0, none⟩) HY.out.2.2 hwr _) hwr _) bz, (HY.out.1.two.below.setCell (by simp; omega) _).setCell (by simp; omega) _⟩
        | true =>
          have HSW := Lib.hid (sumW_of HR.out.1.bk)
          have HS := Lib.hid (And.intro HR.out.1 (And.intro HR.out.2.1 (rjRound.start n l1 l2 f)))
          generalize hSm : sumM n f = S at *
          clear HR hSm
          go_wp2
          go_loopw [8, 28] (fun mv iv wq => ∃ (i : Nat) (b : Bool) (f : Nat → Nat), i ≤ n ∧ mv = .bool b ∧ iv = .int .i64 i ∧ Hid (JkSt w (.slice A1 n c1) (.slice A2 n2 c2) (.slice B1 n d1) (.slice B2 m2 d2) g (arr n f) wq ∧ RjInv n l1 l2 f ∧ rjRound n l1 l2 S i 0 b f)) (fun _ iv _ => n - (intOf iv).toNat)
          case atStart => exact ⟨0, false, f, by omega, rfl, rfl, HS⟩
          case round =>
            rename_i wq
            clear HS
            obtain ⟨i, b, f, hi, rfl, rfl, HR⟩ := hrel
            by_cases hlt : i < n
            · go_wp2
              go_loopw [8, 33] (fun mv kv wq => ∃ (k : Nat) (b : Bool) (f : Nat → Nat), k ≤ n ∧ mv = .bool b ∧ kv = .int .i64 k ∧ Hid (JkSt w (.slice A1 n c1) (.slice A2 n2 c2) (.slice B1 n d1) (.slice B2 m2 d2) g (arr n f) wq ∧ RjInv n l1 l2 f ∧ rjRound n l1 l2 S i k b f)) (fun _ kv _ => n - (intOf kv).toNat)
              case atStart => exact ⟨0, b, f, by omega, rfl, rfl, HR⟩
              case round =>
                clear HR
                obtain ⟨k, b, f, hk, rfl, rfl, HR⟩ := hrel
                by_cases hkn : k < n
                · obtain ⟨fi, hfi⟩ : ∃ x, f i = x := ⟨_, rfl⟩
                  obtain ⟨fk, hfk⟩ : ∃ x, f k = x := ⟨_, rfl⟩
                  have HKB : Hid (∀ W, Below wr.heap.size wr W → W.cell? ⟨w.heap.size, 0, none⟩ = some (.slice A1 n c1) ∧ W.cell? ⟨w.heap.size, 1, none⟩ = some (.slice A2 n2 c2) ∧ W.cell? ⟨w.heap.size + 1, 0, none⟩ = some (.slice B1 n d1) ∧ W.cell? ⟨w.heap.size + 1, 1, none⟩ = some (.slice B2 m2 d2) ∧ W.cell? ⟨g, i, none⟩ = some (.int .i64 fi) ∧ W.cell? ⟨g, k, none⟩ = some (.int .i64 fk)) := by
                    intro W hb
                    have h := HR.out.1.on hb
                    exact ⟨h.two.b0.cell 0, h.two.b0.cell 1, h.two.b1.cell 0, h.two.b1.cell 1, by rw [h.cell hlt, hfi], by rw [h.cell hkn, hfk]⟩
                  have HFK := Lib.hid (And.intro hfi hfk)
                  have j1 : (0 : Int) ≤ (i : Int) := by omega
                  have j2 : (i : Int) < (n : Int) := by omega
                  have j3 : (0 : Int) ≤ (k : Int) := by omega
                  have j4 : (k : Int) < (n : Int) := by omega
                  clear hfi hfk
                  go_upto_region 16 with (fail)
                  cases ha1 : alikeB l1 i k with
                  | true =>
                    have HA1 := Lib.hid ha1
                    have HAL : Hid (alikeB l1 i k = true ∨ alikeB l2 i k = true) := .inl ha1
                    clear ha1
                    by_cases hlf : fk < fi
                    · have hd : decide ((fk : Int) < (fi : Int)) = true := by simp; omega
                      refine region_quiet_in (fun W => Below wr.heap.size wr W) (by kernel_rfl) (by kernel_rfl) ⟨rfl, rfl, rfl, Nat.le_refl _, fun _ _ => rfl⟩ ?_
                      repeat (first
                        | go_big_quiet_skip
                        | (go_big_quiet_want
                           first
                           | (go_big_quiet_op; go_big_quiet_on)
                           | (apply Exists.intro
                              refine ⟨fun W hW => ?_, ?_⟩
                              · obtain ⟨q1, q2, q3, q4, q5, q6⟩ := HKB.out W hW
                                first
                                | (go_simp; done)
                                | (go_simp; exact rfl)
                                | (go_simp
                                   go_at_call_of 61 (Value.slice A1 n c1)
                                   refine (alike_any A1 A2 n c1 n2 c2 L1 l1 i k W (H1.out.up (HR.out.1.on hW).two.below (HR.out.1.on hW).two.below.size) (by unfold maxLen; omega) hlt hkn).mono ?_
                                   rw [HA1.out]
                                   rintro e v1 ⟨rfl, hb⟩
                                   exact ⟨rfl, hW.trans (hb.mono hW.size)⟩)
                              go_big_quiet_on
                              simp only [Act.put, List.setIfInBounds_toArray, List.set_cons_zero, List.set_cons_succ])))
                      refine wpQuiet_nil ?_
                      intro v1 hv1
                      have HR1 := Lib.hid hv1
                      clear hv1
                      have HX := Lib.hid (And.intro (HR.out.1.on HR1.out) HR.out.2)
                      have hy1 : v1.cell? ⟨g, k, none⟩ = some (.int .i64 fk) := (HKB.out _ HR1.out).2.2.2.2.2
                      have hy0 : v1.cell? ⟨g, i, none⟩ = some (.int .i64 fi) := (HKB.out _ HR1.out).2.2.2.2.1
                      have hyf : v1.frozen? ⟨g, i, none⟩ = false := HX.out.1.bk.frozen i
                      clear HR HKB
                      go_wp2
                      go_roundw
                      case rel => exact ⟨k + 1, true, upd f i fk, by omega, rfl, by go_num, Lib.hid ⟨HX.out.1.set i fk, HFK.out.2 ▸ HX.out.2.1.move hlt hkn HAL.out (by rw [HFK.out.1, HFK.out.2]; exact hlf), HFK.out.2 ▸ HX.out.2.2.move hlt (by rw [HFK.out.1, HFK.out.2]; exact hlf)⟩⟩
                      case measure => simp [intOf]; omega
                    · have hd : decide ((fk : Int) < (fi : Int)) = false := by simp; omega
                      refine region_quiet_in (fun W => Below wr.heap.size wr W) (by kernel_rfl) (by kernel_rfl) ⟨rfl, rfl, rfl, Nat.le_refl _, fun _ _ => rfl⟩ ?_
                      repeat (first
                        | go_big_quiet_skip
                        | (go_big_quiet_want
                           first
                           | (go_big_quiet_op; go_big_quiet_on)
                           | (apply Exists.intro
                              refine ⟨fun W hW => ?_, ?_⟩
                              · obtain ⟨q1, q2, q3, q4, q5, q6⟩ := HKB.out W hW
                                first
                                | (go_simp; done)
                                | (go_simp; exact rfl)
                                | (go_simp
                                   go_at_call_of 61 (Value.slice A1 n c1)
                                   refine (alike_any A1 A2 n c1 n2 c2 L1 l1 i k W (H1.out.up (HR.out.1.on hW).two.below (HR.out.1.on hW).two.below.size) (by unfold maxLen; omega) hlt hkn).mono ?_
                                   rw [HA1.out]
                                   rintro e v1 ⟨rfl, hb⟩
                                   exact ⟨rfl, hW.trans (hb.mono hW.size)⟩)
                              go_big_quiet_on
                              simp only [Act.put, List.setIfInBounds_toArray, List.set_cons_zero, List.set_cons_succ])))
                      refine wpQuiet_nil ?_
                      intro v1 hv1
                      have HR1 := Lib.hid hv1
                      clear hv1
                      have HX := Lib.hid (And.intro (HR.out.1.on HR1.out) HR.out.2)
                      clear HR HKB
                      go_wp2
                      go_roundw
                      case rel => exact ⟨k + 1, b, f, by omega, rfl, by go_num, Lib.hid ⟨HX.out.1, HX.out.2.1, HX.out.2.2.stay (fun _ => by rw [HFK.out.1, HFK.out.2]; exact hlf)⟩⟩
                      case measure => simp [intOf]; omega
                  | false =>
                    have HA1 := Lib.hid ha1
                    clear ha1
                    cases ha2 : alikeB l2 i k with
                    | true =>
                      have HA2 := Lib.hid ha2
                      have HAL : Hid (alikeB l1 i k = true ∨ alikeB l2 i k = true) := .inr ha2
                      clear ha2
                      by_cases hlf : fk < fi
                      · have hd : decide ((fk : Int) < (fi : Int)) = true := by simp; omega
                        refine region_quiet_in (fun W => Below wr.heap.size wr W) (by kernel_rfl) (by kernel_rfl) ⟨rfl, rfl, rfl, Nat.le_refl _, fun _ _ => rfl⟩ ?_
                        repeat (first
                          | go_big_quiet_skip
                          | (go_big_quiet_want
                             first
                             | (go_big_quiet_op; go_big_quiet_on)
                             | (apply Exists.intro
                                refine ⟨fun W hW => ?_, ?_⟩
                                · obtain ⟨q1, q2, q3, q4, q5, q6⟩ := HKB.out W hW
                                  first
                                  | (go_simp; done)
                                  | (go_simp; exact rfl)
                                  | (go_simp
                                     go_at_call_of 61 (Value.slice A1 n c1)
                                     refine (alike_any A1 A2 n c1 n2 c2 L1 l1 i k W (H1.out.up (HR.out.1.on hW).two.below (HR.out.1.on hW).two.below.size) (by unfold maxLen; omega) hlt hkn).mono ?_
                                     rw [HA1.out]
                                     rintro e v1 ⟨rfl, hb⟩
                                     exact ⟨rfl, hW.trans (hb.mono hW.size)⟩)
                                  | (go_simp
                                     go_at_call_of 61 (Value.slice B1 n d1)
                                     refine (alike_any B1 B2 n d1 m2 d2 L3 l2 i k W (H3.out.up (HR.out.1.on hW).two.below (HR.out.1.on hW).two.below.size) (by unfold maxLen; omega) hlt hkn).mono ?_
                                     rw [HA2.out]
                                     rintro e v1 ⟨rfl, hb⟩
                                     exact ⟨rfl, hW.trans (hb.mono hW.size)⟩)
                                go_big_quiet_on
                                simp only [Act.put, List.setIfInBounds_toArray, List.set_cons_zero, List.set_cons_succ])))
                        refine wpQuiet_nil ?_
                        intro v1 hv1
                        have HR1 := Lib.hid hv1
                        clear hv1
                        have HX := Lib.hid (And.intro (HR.out.1.on HR1.out) HR.out.2)
                        have hy1 : v1.cell? ⟨g, k, none⟩ = some (.int .i64 fk) := (HKB.out _ HR1.out).2.2.2.2.2
                        have hy0 : v1.cell? ⟨g, i, none⟩ = some (.int .i64 fi) := (HKB.out _ HR1.out).2.2.2.2.1
                        have hyf : v1.frozen? ⟨g, i, none⟩ = false := HX.out.1.bk.frozen i
                        clear HR HKB
                        go_wp2
                        go_roundw
                        case rel => exact ⟨k + 1, true, upd f i fk, by omega, rfl, by go_num, Lib.hid ⟨HX.out.1.set i fk, HFK.out.2 ▸ HX.out.2.1.move hlt hkn HAL.out (by rw [HFK.out.1, HFK.out.2]; exact hlf), HFK.out.2 ▸ HX.out.2.2.move hlt (by rw [HFK.out.1, HFK.out.2]; exact hlf)⟩⟩
                        case measure => simp [intOf]; omega
                      · have hd : decide ((fk : Int) < (fi : Int)) = false := by simp; omega
                        refine region_quiet_in (fun W => Below wr.heap.size wr W) (by kernel_rfl) (by kernel_rfl) ⟨rfl, rfl, rfl, Nat.le_refl _, fun _ _ => rfl⟩ ?_
                        repeat (first
                          | go_big_quiet_skip
                          | (go_big_quiet_want
                             first
                             | (go_big_quiet_op; go_big_quiet_on)
                             | (apply Exists.intro
                                refine ⟨fun W hW => ?_, ?_⟩
                                · obtain ⟨q1, q2, q3, q4, q5, q6⟩ := HKB.out W hW
                                  first
                                  | (go_simp; done)
                                  | (go_simp; exact rfl)
                                  | (go_simp
                                     go_at_call_of 61 (Value.slice A1 n c1)
                                     refine (alike_any A1 A2 n c1 n2 c2 L1 l1 i k W (H1.out.up (HR.out.1.on hW).two.below (HR.out.1.on hW).two.below.size) (by unfold maxLen; omega) hlt hkn).mono ?_
                                     rw [HA1.out]
                                     rintro e v1 ⟨rfl, hb⟩
                                     exact ⟨rfl, hW.trans (hb.mono hW.size)⟩)
                                  | (go_simp
                                     go_at_call_of 61 (Value.slice B1 n d1)
                                     refine (alike_any B1 B2 n d1 m2 d2 L3 l2 i k W (H3.out.up (HR.out.1.on hW).two.below (HR.out.1.on hW).two.below.size) (by unfold maxLen; omega) hlt hkn).mono ?_
                                     rw [HA2.out]
                                     rintro e v1 ⟨rfl, hb⟩
                                     exact ⟨rfl, hW.trans (hb.mono hW.size)⟩)
                                go_big_quiet_on
                                simp only [Act.put, List.setIfInBounds_toArray, List.set_cons_zero, List.set_cons_succ])))
                        refine wpQuiet_nil ?_
                        intro v1 hv1
                        have HR1 := Lib.hid hv1
                        clear hv1
                        have HX := Lib.hid (And.intro (HR.out.1.on HR1.out) HR.out.2)
                        clear HR HKB
                        go_wp2
                        go_roundw
                        case rel => exact ⟨k + 1, b, f, by omega, rfl, by go_num, Lib.hid ⟨HX.out.1, HX.out.2.1, HX.out.2.2.stay (fun _ => by rw [HFK.out.1, HFK.out.2]; exact hlf)⟩⟩
                        case measure => simp [intOf]; omega
                    | false =>
                      have HA2 := Lib.hid ha2
                      clear ha2
                      refine region_quiet_in (fun W => Below wr.heap.size wr W) (by kernel_rfl) (by kernel_rfl) ⟨rfl, rfl, rfl, Nat.le_refl _, fun _ _ => rfl⟩ ?_
                      repeat (first
                        | go_big_quiet_skip
                        | (go_big_quiet_want
                           first
                           | (go_big_quiet_op; go_big_quiet_on)
                           | (apply Exists.intro
                              refine ⟨fun W hW => ?_, ?_⟩
                              · obtain ⟨q1, q2, q3, q4, q5, q6⟩ := HKB.out W hW
                                first
                                | (go_simp; done)
                                | (go_simp; exact rfl)
                                | (go_simp
                                   go_at_call_of 61 (Value.slice A1 n c1)
                                   refine (alike_any A1 A2 n c1 n2 c2 L1 l1 i k W (H1.out.up (HR.out.1.on hW).two.below (HR.out.1.on hW).two.below.size) (by unfold maxLen; omega) hlt hkn).mono ?_
                                   rw [HA1.out]
                                   rintro e v1 ⟨rfl, hb⟩
                                   exact ⟨rfl, hW.trans (hb.mono hW.size)⟩)
                                | (go_simp
                                   go_at_call_of 61 (Value.slice B1 n d1)
                                   refine (alike_any B1 B2 n d1 m2 d2 L3 l2 i k W (H3.out.up (HR.out.1.on hW).two.below (HR.out.1.on hW).two.below.size) (by unfold maxLen; omega) hlt hkn).mono ?_
                                   rw [HA2.out]
                                   rintro e v1 ⟨rfl, hb⟩
                                   exact ⟨rfl, hW.trans (hb.mono hW.size)⟩)
                              go_big_quiet_on
                              simp only [Act.put, List.setIfInBounds_toArray, List.set_cons_zero, List.set_cons_succ])))
                      refine wpQuiet_nil ?_
                      intro v1 hv1
                      have HR1 := Lib.hid hv1
                      clear hv1
                      have HX := Lib.hid (And.intro (HR.out.1.on HR1.out) HR.out.2)
                      clear HR HKB
                      go_wp2
                      go_roundw
                      case rel => exact ⟨k + 1, b, f, by omega, rfl, by go_num, Lib.hid ⟨HX.out.1, HX.out.2.1, HX.out.2.2.stay (fun h => by rw [HA1.out, HA2.out] at h; simp at h)⟩⟩
                      case measure => simp [intOf]; omega
                · have hin : n = k := by omega
                  subst hin
                  have HX := Lib.hid (And.intro HR.out.1 (And.intro HR.out.2.1 HR.out.2.2.line))
                  clear HR
                  go_wp2
                  go_roundw
                  case rel => exact ⟨i + 1, b, f, by omega, rfl, by go_num, HX⟩
                  case measure => simp [intOf]; omega
            · have hin : n = i := by omega
              subst hin
              have HX := Lib.hid HR.out
              clear HR
              go_wp2
              go_roundw
              case rel => exact ⟨b, f, rfl, Lib.hid ⟨HX.out.1, HX.out.2.1, fun hb => HX.out.2.1.least fun x hx y hy ha => HX.out.2.2.2.2 hb x y hx hy (.inl hx) ha⟩⟩
              case measure =>
                rw [HSW.out, sumW_of HX.out.1.bk]
                cases b with
                | true => have := HX.out.2.2.2.1 rfl; simp [boolV]; omega
                | false => have := HX.out.2.2.1; simp [boolV]; omega
end Go.Proofs.Ytbjfbmienlojkaa
