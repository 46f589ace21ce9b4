/- The reference's Meet: the walk. -/
import Derived.Test.YtbjfbmienlojkaaT65
import Derived.Test.YtbjfbmienlojkaaT64
import Derived.Test.YtbjfbmienlojkaaT50
namespace Go.Proofs.Ytbjfbmienlojkaa
open Go.RowKit

/-- memory while the reference's Meet runs -/
structure RmSt (w0 : World) (a1 a2 b1 b2 v : Value) (mk : List Int) (w : World) : Prop where
  two : TwoIn w0 a1 a2 b1 b2 w
  b4 : Blk w (w0.heap.size + 2) 26 #[.slice none 0 0, .slice none 0 0]
  own : w.ownsRow (w0.heap.size + 3) 3 1 v mk.length (mk.map (Value.int .i64))
section
variable {w0 : World} {a1 a2 b1 b2 v v' : Value} {mk mk' : List Int} {w w' : World}
theorem RmSt.on (h : RmSt w0 a1 a2 b1 b2 v mk w) (hb : Below w.heap.size w w') : RmSt w0 a1 a2 b1 b2 v mk w' :=
  ⟨h.two.on hb, h.b4.below hb h.b4.lt, own_stay h.own (Only.of_below hb _)⟩
theorem RmSt.app {n : Nat} {cs : List Value} (h : RmSt w0 a1 a2 b1 b2 v mk w) (hown : w'.ownsRow (w0.heap.size + 3) 3 1 v' n cs) (hg : w.grownBy w' v.ownBlock) (hc : cs = mk'.map (Value.int .i64)) : RmSt w0 a1 a2 b1 b2 v' mk' w' := by
  subst hc
  have hn : n = mk'.length := by have := hown.1; simp at this; omega
  subst hn
  have ho : Only (fun k => v.ownBlock = some k) w w' := (Only.refl _ _).grown hg (fun _ hg => .inl hg)
  have hq : ∀ {k : Nat}, k < w0.heap.size + 3 → ¬ (v.ownBlock = some k) := fun hk hh => by have := (h.own.lt _ hh).1; omega
  exact ⟨⟨h.two.b0.only ho (hq (by omega)), h.two.b1.only ho (hq (by omega)), h.two.below.trans (ho.below h.two.below.size (fun k hk hh => by have := (h.own.lt _ hh).1; omega))⟩, h.b4.only ho (hq (by omega)), hown⟩
end

set_option maxHeartbeats 4000000 in
set_option maxRecDepth 100000 in
theorem refMeet_any (A1 A2 B1 B2 : Option Addr) (n c1 n2 c2 d1 m2 d2 L1 L2 L3 : Nat) (l1 l2 : List (Int × Int)) (s1 : List Int) (w : World)
    (h1 : Rd w L1 w.heap.size 2 A1 n (prs l1)) (h2 : Rd w L2 w.heap.size 1 A2 n2 (s1.map (Value.int .i64))) (h3 : Rd w L3 w.heap.size 2 B1 n (prs l2)) (hn : n ≤ 512) (e2 : n2 ≤ 512) :
    Calls Try.prog 47 #[.agg #[.slice A1 n c1, .slice A2 n2 c2], .agg #[.slice B1 n d1, .slice B2 m2 d2]] w fun e w' => ∃ E1 e1 E2 e2, e = .returned (.tuple #[.agg #[.slice E1 (madeL l1 l2 (mtF l1 l2 n)).length e1, .slice E2 (madeS l1 l2 (mtF l1 l2 n) s1).length e2], .int .i64 (madeE l1 l2 (mtF l1 l2 n))]) ∧
      w'.ownsRow w.heap.size 66 2 (.slice E1 (madeL l1 l2 (mtF l1 l2 n)).length e1) (madeL l1 l2 (mtF l1 l2 n)).length (prs (madeL l1 l2 (mtF l1 l2 n))) ∧ w'.ownsRow w.heap.size 3 1 (.slice E2 (madeS l1 l2 (mtF l1 l2 n) s1).length e2) (madeS l1 l2 (mtF l1 l2 n) s1).length ((madeS l1 l2 (mtF l1 l2 n) s1).map (Value.int .i64)) ∧ Below w.heap.size w w' := by
  have H1 := Lib.hid h1
  have H2 := Lib.hid h2
  have H3 := Lib.hid h3
  have hinfo : (Try.prog.info? 3).map (fun i => (i.zero, i.size, i.bytes)) = some (some (.int .i64 0), 1, 8) := by kernel_rfl
  obtain ⟨i0, hi, hz0, hz1, hz2⟩ := info_parts hinfo
  have HI := Lib.hid (And.intro hi (And.intro hz0 (And.intro hz1 hz2)))
  clear h1 h2 h3 hi hz0 hz1 hz2 hinfo
  go_enter Try.func47, Try.ntmps47
  go_upto_region 2 with (fail)
  refine wp_abs (RmSt w (.slice A1 n c1) (.slice A2 n2 c2) (.slice B1 n d1) (.slice B2 m2 d2) (.slice none 0 0) (mtF l1 l2 0)) ⟨(TwoIn.init w _ _ _ _).on ((Below.refl _ _).alloc (Nat.le_refl _) _), blk_new_eq (by simp), World.ownsRow_nil _ _ _ _⟩ ?_
  intro w1 hS
  have c0 : w1.cell? ⟨w.heap.size, 0, none⟩ = some (.slice A1 n c1) := hS.two.b0.cell 0
  have HS := Lib.hid hS
  clear hS
  go_wp2
  clear c0
  go_loopw [6, 13] (fun lv iv wr => ∃ i : Nat, i ≤ n ∧ iv = .int .i64 i ∧ Hid (RmSt w (.slice A1 n c1) (.slice A2 n2 c2) (.slice B1 n d1) (.slice B2 m2 d2) lv (mtF l1 l2 i) wr)) (fun _ iv _ => n - (intOf iv).toNat)
  case atStart => exact ⟨0, by omega, rfl, HS⟩
  case round =>
    obtain ⟨i, hi, rfl, HR⟩ := hrel
    clear HS
    by_cases hlt : i < n
    · have hms := mtF_succ l1 l2 i
      have hml := mtF_len l1 l2 i
      generalize mtF l1 l2 i = mk at *
      have hSt : RmSt w _ _ _ _ _ mk wr := HR.out
      obtain ⟨XV, XC, rfl⟩ := own_slice hSt.own
      have HST := Lib.hid hSt
      have HMS := Lib.hid hms
      have HML := Lib.hid hml
      clear hms hml hSt HR
      go_wp2
      go_loopw [8, 9] (fun mv kv wq => ∃ (t : Nat) (kk : Int), t ≤ i ∧ kv = .int .i64 kk ∧ kk = (i : Int) - 1 - t ∧ mv = .int .i64 (rmAt l1 l2 i t) ∧ Hid (RmSt w (.slice A1 n c1) (.slice A2 n2 c2) (.slice B1 n d1) (.slice B2 m2 d2) (.slice XV mk.length XC) mk wq)) (fun _ kv _ => (intOf kv + 1).toNat)
      case atStart => exact ⟨0, _, by omega, by go_num, by omega, rfl, HST⟩
      case round =>
        obtain ⟨t, kk, ht, rfl, hkk, rfl, HS⟩ := hrel
        clear HST
        by_cases hti : t < i
        · obtain ⟨k, hk⟩ : ∃ k : Nat, i = k + 1 + t := ⟨i - 1 - t, by omega⟩
          obtain rfl : kk = (k : Int) := by omega
          have hrs : rmAt l1 l2 i (t + 1) = if (alikeB l1 i k && alikeB l2 i k) = true then k else rmAt l1 l2 i t := by
            have e : i - 1 - t = k := by omega
            rw [rmAt, e]
          have HRS := Lib.hid hrs
          have hki : k < i := by omega
          have HKT := Lib.hid hk
          clear hrs hkk hk
          have c0 : wr.cell? ⟨w.heap.size, 0, none⟩ = some (.slice A1 n c1) := HS.out.two.b0.cell 0
          have c1' : wr.cell? ⟨w.heap.size, 1, none⟩ = some (.slice A2 n2 c2) := HS.out.two.b0.cell 1
          go_wp2_with fail
          refine (alike_any A1 A2 n c1 n2 c2 L1 l1 i k wr (H1.out.up HS.out.two.below HS.out.two.below.size) (by unfold maxLen; omega) hlt (by omega)).mono ?_
          rintro e v2 ⟨rfl, hb2⟩
          have HT := Lib.hid (HS.out.on hb2)
          clear hb2 c0 c1' HS
          cases ha : alikeB l1 i k with
          | false =>
            have HA := Lib.hid ha
            clear ha
            go_wp2
            go_roundw
            case rel => exact ⟨t + 1, (k : Int) - 1, by omega, by go_num, by have := HKT.out; omega, by rw [HRS.out, HA.out, Bool.false_and, if_neg (by simp)], HT⟩
            case measure => simp [intOf]
          | true =>
            have HA := Lib.hid ha
            have d0 : v2.cell? ⟨w.heap.size + 1, 0, none⟩ = some (.slice B1 n d1) := HT.out.two.b1.cell 0
            have d1' : v2.cell? ⟨w.heap.size + 1, 1, none⟩ = some (.slice B2 m2 d2) := HT.out.two.b1.cell 1
            clear ha
            go_wp2_with fail
            refine (alike_any B1 B2 n d1 m2 d2 L3 l2 i k v2 (H3.out.up HT.out.two.below HT.out.two.below.size) (by unfold maxLen; omega) hlt (by omega)).mono ?_
            rintro e v3 ⟨rfl, hb3⟩
            have HU := Lib.hid (HT.out.on hb3)
            clear hb3 d0 d1' HT
            cases hb : alikeB l2 i k with
            | false =>
              have HB := Lib.hid hb
              clear hb
              go_wp2
              go_roundw
              case rel => exact ⟨t + 1, (k : Int) - 1, by omega, by go_num, by have := HKT.out; omega, by rw [HRS.out, HB.out, Bool.and_false, if_neg (by simp)], HU⟩
              case measure => simp [intOf]
            | true =>
              have HB := Lib.hid hb
              clear hb
              go_wp2
              go_roundw
              case rel => exact ⟨t + 1, (k : Int) - 1, by omega, by go_num, by have := HKT.out; omega, by rw [HRS.out, HA.out, HB.out, Bool.and_true, if_pos rfl], HU⟩
              case measure => simp [intOf]
        · obtain rfl : t = i := by omega
          obtain rfl : kk = -1 := by omega
          clear hkk
          have hmt := rmAt_mt l1 l2 t
          have hle := mtAt_le l1 l2 t
          rw [hmt]
          generalize mtAt l1 l2 t = ma at *
          have bw := HS.out.two.below.size
          have bw2 := HS.out.b4.lt
          have hml2 : mk.length ≤ 512 := by have := HML.out; omega
          clear hmt
          go_wp2_with (at_builtin; go_must (refine wpList_append_rd _ rfl _ _ 24 rfl (w.heap.size + 3) 3 i0 (.int .i64 0) 1 8 Try.underlying24 HI.out.1 HI.out.2.1 HI.out.2.2.1 HI.out.2.2.2 rfl (by decide) _ _ _ rfl (HS.out.own.alloc _) _ _ _ 1 1 _ rfl (rd_newS _ _ _) (by simp [Value.oneCell']) (by unfold maxLen; omega) (by omega) (by simp; omega) ?_; intro v4 w4 _ hown hgrow _; have HN := Lib.hid ((HS.out.on ((Below.refl _ _).alloc (Nat.le_refl _) _)).app (mk' := mk ++ [(ma : Int)]) hown hgrow (by rw [List.map_append]; rfl)); clear hown hgrow))
          go_roundw
          case rel => exact ⟨t + 1, by omega, by go_num, Lib.hid (by rw [HMS.out]; exact HN.out)⟩
          case measure => simp [intOf]; omega
    · have hin : i = n := by omega
      subst hin
      have hml := mtF_len l1 l2 i
      have hmb : ∀ x ∈ mtF l1 l2 i, 0 ≤ x ∧ x ≤ 1000 := by
        intro x hx
        obtain ⟨j, hj, rfl⟩ := List.mem_map.1 hx
        have := List.mem_range.1 hj
        have := mtAt_le l1 l2 j
        omega
      generalize hmk : mtF l1 l2 i = mk at *
      have HMK := Lib.hid hmk
      clear hmk
      have hSt : RmSt w _ _ _ _ _ mk wr := HR.out
      obtain ⟨XV, XC, rfl⟩ := own_slice hSt.own
      have HMB := Lib.hid hmb
      have HML := Lib.hid hml
      have c0 : wr.cell? ⟨w.heap.size, 0, none⟩ = some (.slice A1 i c1) := hSt.two.b0.cell 0
      have c1' : wr.cell? ⟨w.heap.size, 1, none⟩ = some (.slice A2 n2 c2) := hSt.two.b0.cell 1
      have d0 : wr.cell? ⟨w.heap.size + 1, 0, none⟩ = some (.slice B1 i d1) := hSt.two.b1.cell 0
      have d1' : wr.cell? ⟨w.heap.size + 1, 1, none⟩ = some (.slice B2 m2 d2) := hSt.two.b1.cell 1
      have HX := Lib.hid hSt
      clear hSt HR hml hmb
      go_wp2_with fail
      have hrm : Rd wr 0 wr.heap.size 1 XV i (mk.map (Value.int .i64)) := by have h5 := (own_rd HX.out.own).more (Nat.zero_le _) (Nat.le_refl _); rw [HML.out] at h5; exact h5
      rw [HML.out]
      refine (both_any A1 A2 B1 B2 XV i c1 n2 c2 d1 m2 d2 XC L1 L2 L3 0 l1 l2 s1 mk wr (H1.out.up HX.out.two.below HX.out.two.below.size) (H2.out.up HX.out.two.below HX.out.two.below.size) (H3.out.up HX.out.two.below HX.out.two.below.size) hrm hn e2).mono ?_
      rintro e w5 ⟨E1, x1, E2, x2, rfl, o1, o2, hb5⟩
      have HY := Lib.hid (And.intro (HX.out.on hb5) (And.intro o1 o2))
      have bz := HX.out.two.below.size
      have hwr : w.heap.size + 2 < wr.heap.size := HX.out.b4.lt
      clear c0 c1' d0 d1' o1 o2 hb5 HX hrm
      have f0 : w5.frozen? ⟨w.heap.size + 2, 0, none⟩ = false := HY.out.1.b4.frozen 0
      have f1 : w5.frozen? ⟨w.heap.size + 2, 1, none⟩ = false := HY.out.1.b4.frozen 1
      have g0 : w5.cell? ⟨w.heap.size + 2, 0, none⟩ = some (.slice none 0 0) := HY.out.1.b4.cell 0
      have g1 : w5.cell? ⟨w.heap.size + 2, 1, none⟩ = some (.slice none 0 0) := HY.out.1.b4.cell 1
      have hq1 := HY.out.1.two.below.size
      generalize hg1 : madeL l1 l2 mk = ml at *
      generalize hg2 : madeS l1 l2 mk s1 = ms at *
      generalize hg3 : madeE l1 l2 mk = me at *
      have HG := Lib.hid (And.intro hg1 (And.intro hg2 hg3))
      clear hg1 hg2 hg3
      go_wp2
      have HF := (HY.out.1.b4.set_ 0 (.slice E1 ml.length x1)).set_ 1 (.slice E2 ms.length x2)
      have t0 := HF.cell 0
      have t1 := HF.cell 1
      simp at t0 t1
      refine bodyPost_ret (v := .tuple #[.agg #[.slice E1 ml.length x1, .slice E2 ms.length x2], .int .i64 me]) (by simp [results, Try.results47, go_sem, t0, t1]) rfl ?_
      rw [HMK.out, HG.out.1, HG.out.2.1, HG.out.2.2]
      exact ⟨E1, x1, E2, x2, rfl, own_more (own_setCell (p := ⟨w.heap.size + 2, 1, none⟩) (own_setCell (p := ⟨w.heap.size + 2, 0, none⟩) HY.out.2.1 hwr _) hwr _) bz, own_more (own_setCell (p := ⟨w.heap.size + 2, 1, none⟩) (own_setCell (p := ⟨w.heap.size + 2, 0, none⟩) HY.out.2.2 hwr _) hwr _) bz, (HY.out.1.two.below.setCell (by simp; omega) _).setCell (by simp; omega) _⟩
end Go.Proofs.Ytbjfbmienlojkaa

