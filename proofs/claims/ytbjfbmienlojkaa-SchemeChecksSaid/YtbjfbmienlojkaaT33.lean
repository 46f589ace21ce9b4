/- Turn: a scheme from its end on. -/
import Derived.Test.YtbjfbmienlojkaaT24
import Derived.Test.YtbjfbmienlojkaaT32
namespace Go.Proofs.Ytbjfbmienlojkaa
open Go.RowKit

set_option maxHeartbeats 2000000 in
set_option maxRecDepth 100000 in
theorem turn_bad (A1 A2 : Option Addr) (n1 c1 n2 c2 L1 L2 : Nat) (ls : List (Int × Int)) (st : List Int) (w : World)
    (h1 : Rd w L1 w.heap.size 2 A1 n1 (prs ls)) (h2 : Rd w L2 w.heap.size 1 A2 n2 (st.map (Value.int .i64))) (hn2 : n2 ≤ maxLen) (hn1 : n1 ≤ maxLen) (hm : may ls st = false) :
    Calls Try.prog 28 #[.agg #[.slice A1 n1 c1, .slice A2 n2 c2]] w fun e w' => e = .returned (.tuple #[.agg #[.slice none 0 0, .slice none 0 0], .int .i64 2]) ∧ Below w.heap.size w w' := by
  have H1 := Lib.hid h1
  have H2 := Lib.hid h2
  have HM := Lib.hid hm
  clear h1 h2 hm
  go_enter Try.func28, Try.ntmps28
  go_upto_region 1 with (fail)
  refine wp_abs (fun wx => Blk wx w.heap.size 26 #[.slice A1 n1 c1, .slice A2 n2 c2] ∧ Blk wx (w.heap.size + 1) 26 #[.slice none 0 0, .slice none 0 0] ∧ Below w.heap.size w wx) ⟨(Blk.new _ _ _).alloc _, by simpa using Blk.new (w.alloc (.cells #[.slice A1 n1 c1, .slice A2 n2 c2] 26)) 26 #[.slice none 0 0, .slice none 0 0], ((Below.refl _ _).alloc (Nat.le_refl _) _).alloc (by simp) _⟩ ?_
  rintro wx ⟨k0, k1, hb⟩
  have c00 : wx.cell? ⟨w.heap.size, 0, none⟩ = some (.slice A1 n1 c1) := k0.cell 0
  have c01 : wx.cell? ⟨w.heap.size, 1, none⟩ = some (.slice A2 n2 c2) := k0.cell 1
  have HK := Lib.hid (And.intro k0 (And.intro k1 hb))
  clear k0 k1 hb
  go_wp2_with fail
  refine (check_any A1 A2 n1 c1 n2 c2 L1 L2 ls st wx (H1.out.up HK.out.2.2 HK.out.2.2.size) (H2.out.up HK.out.2.2 HK.out.2.2.size) hn2 hn1).mono ?_
  rintro e w1 ⟨rfl, hb1⟩
  have HA := Lib.hid (show Blk w1 (w.heap.size + 1) 26 #[.slice none 0 0, .slice none 0 0] ∧ Below w.heap.size w w1 from ⟨HK.out.2.1.below hb1 HK.out.2.1.lt, HK.out.2.2.trans (hb1.mono HK.out.2.2.size)⟩)
  have e0 : w1.cell? ⟨w.heap.size + 1, 0, none⟩ = some (.slice none 0 0) := HA.out.1.cell 0
  have e1 : w1.cell? ⟨w.heap.size + 1, 1, none⟩ = some (.slice none 0 0) := HA.out.1.cell 1
  have f0 : w1.frozen? ⟨w.heap.size + 1, 0, none⟩ = false := HA.out.1.frozen 0
  have f1 : w1.frozen? ⟨w.heap.size + 1, 1, none⟩ = false := HA.out.1.frozen 1
  rw [HM.out]
  clear hb1
  show _
  simp only [errOf]
  go_wp2
  have HF := (HA.out.1.set_ 0 (.slice none 0 0)).set_ 1 (.slice none 0 0)
  have g0 := HF.cell 0
  have g1 := HF.cell 1
  simp at g0 g1
  exact bodyPost_ret (v := .tuple #[.agg #[.slice none 0 0, .slice none 0 0], .int .i64 2]) (by simp [results, Try.results28, go_sem, g0, g1]) rfl ⟨rfl, (HA.out.2.setCell (by simp) _).setCell (by simp) _⟩

/-- memory while Turn runs behind the copying -/
structure TurnSt (w0 : World) (q2 q5 : Nat) (v1 v2 : Value) (n m : Nat) (cur : List (Int × Int)) (st : List Int) (w : World) : Prop where
  b2 : Blk w (w0.heap.size + 1) 26 #[.slice none 0 0, .slice none 0 0]
  b5 : Blk w q5 26 #[v1, v2]
  o1 : w.ownsRow q2 66 2 v1 n (prs cur)
  o2 : w.ownsRow q2 3 1 v2 m (st.map (Value.int .i64))
  u1 : ∀ k, v1.ownBlock = some k → k < q5
  u2 : ∀ k, v2.ownBlock = some k → k < q5
  s1 : w0.heap.size + 2 ≤ q2
  below : Below w0.heap.size w0 w

theorem TurnSt.turn1 {w0 : World} {q2 q5 : Nat} {v1 v2 : Value} {n m : Nat} {cur cur' : List (Int × Int)} {st : List Int} {w w' : World} (h : TurnSt w0 q2 q5 v1 v2 n m cur st w)
    (ho : w'.ownsRow q2 66 2 v1 n (prs cur')) (hO : Only (fun k => v1.ownBlock = some k) w w') : TurnSt w0 q2 q5 v1 v2 n m cur' st w' := by
  have hs := h.s1
  refine ⟨h.b2.only hO (fun hk => ?_), h.b5.only hO (fun hk => absurd (h.u1 _ hk) (Nat.lt_irrefl _)), ho, own_keep h.o2 (own_ne h.o2 h.o1 (by decide)) hO, h.u1, h.u2, hs, h.below.trans (hO.below h.below.size (fun k hk hh => ?_))⟩
  · have := (h.o1.lt _ hk).1; omega
  · have := (h.o1.lt _ hh).1; omega
theorem TurnSt.turn2 {w0 : World} {q2 q5 : Nat} {v1 v2 : Value} {n m : Nat} {cur : List (Int × Int)} {st st' : List Int} {w w' : World} (h : TurnSt w0 q2 q5 v1 v2 n m cur st w)
    (ho : w'.ownsRow q2 3 1 v2 m (st'.map (Value.int .i64))) (hO : Only (fun k => v2.ownBlock = some k) w w') : TurnSt w0 q2 q5 v1 v2 n m cur st' w' := by
  have hs := h.s1
  refine ⟨h.b2.only hO (fun hk => ?_), h.b5.only hO (fun hk => absurd (h.u2 _ hk) (Nat.lt_irrefl _)), own_keep h.o1 (own_ne h.o1 h.o2 (by decide)) hO, ho, h.u1, h.u2, hs, h.below.trans (hO.below h.below.size (fun k hk hh => ?_))⟩
  · have := (h.o2.lt _ hk).1; omega
  · have := (h.o2.lt _ hh).1; omega

set_option maxHeartbeats 4000000 in
set_option maxRecDepth 100000 in
theorem turn_ok (A1 A2 : Option Addr) (c1 c2 L1 L2 : Nat) (ls : List (Int × Int)) (st : List Int) (w : World)
    (h1 : Rd w L1 w.heap.size 2 A1 ls.length (prs ls)) (h2 : Rd w L2 w.heap.size 1 A2 st.length (st.map (Value.int .i64))) (hm : may ls st = true) :
    Calls Try.prog 28 #[.agg #[.slice A1 ls.length c1, .slice A2 st.length c2]] w fun e w' => ∃ B1 d1 B2 d2, e = .returned (.tuple #[.agg #[.slice B1 ls.length d1, .slice B2 st.length d2], .int .i64 0]) ∧
      w'.ownsRow w.heap.size 66 2 (.slice B1 ls.length d1) ls.length (prs ls.reverse) ∧ w'.ownsRow w.heap.size 3 1 (.slice B2 st.length d2) st.length (st.reverse.map (Value.int .i64)) ∧ Below w.heap.size w w' := by
  have n1 := mayLen hm
  have n2 := mayStan hm
  have H1 := Lib.hid h1
  have H2 := Lib.hid h2
  have HM := Lib.hid hm
  clear h1 h2 hm
  go_enter Try.func28, Try.ntmps28
  go_upto_region 1 with (fail)
  refine wp_abs (fun wx => Blk wx w.heap.size 26 #[.slice A1 ls.length c1, .slice A2 st.length c2] ∧ Blk wx (w.heap.size + 1) 26 #[.slice none 0 0, .slice none 0 0] ∧ Below w.heap.size w wx) ⟨(Blk.new _ _ _).alloc _, by simpa using Blk.new (w.alloc (.cells #[.slice A1 ls.length c1, .slice A2 st.length c2] 26)) 26 #[.slice none 0 0, .slice none 0 0], ((Below.refl _ _).alloc (Nat.le_refl _) _).alloc (by simp) _⟩ ?_
  rintro wx ⟨k0, k1, hb⟩
  have c00 : wx.cell? ⟨w.heap.size, 0, none⟩ = some (.slice A1 ls.length c1) := k0.cell 0
  have c01 : wx.cell? ⟨w.heap.size, 1, none⟩ = some (.slice A2 st.length c2) := k0.cell 1
  have HK := Lib.hid (And.intro k0 (And.intro k1 hb))
  clear k0 k1 hb
  go_wp2_with fail
  refine (check_any A1 A2 ls.length c1 st.length c2 L1 L2 ls st wx (H1.out.up HK.out.2.2 HK.out.2.2.size) (H2.out.up HK.out.2.2 HK.out.2.2.size) (by unfold maxLen; omega) (by unfold maxLen; omega)).mono ?_
  rintro e w1 ⟨rfl, hb1⟩
  have HA := Lib.hid (show Blk w1 w.heap.size 26 #[.slice A1 ls.length c1, .slice A2 st.length c2] ∧ Blk w1 (w.heap.size + 1) 26 #[.slice none 0 0, .slice none 0 0] ∧ Below w.heap.size w w1 from ⟨HK.out.1.below hb1 HK.out.1.lt, HK.out.2.1.below hb1 HK.out.2.1.lt, HK.out.2.2.trans (hb1.mono HK.out.2.2.size)⟩)
  clear hb1 HK c00 c01
  have c00 : w1.cell? ⟨w.heap.size, 0, none⟩ = some (.slice A1 ls.length c1) := HA.out.1.cell 0
  have c01 : w1.cell? ⟨w.heap.size, 1, none⟩ = some (.slice A2 st.length c2) := HA.out.1.cell 1
  rw [HM.out]
  simp only [errOf]
  go_wp2_with fail
  refine (copied_any A1 A2 ls.length c1 st.length c2 L1 L2 ls st w1 (H1.out.up HA.out.2.2 HA.out.2.2.size) (H2.out.up HA.out.2.2 HA.out.2.2.size) (by omega) (by omega)).mono ?_
  rintro e w2 ⟨B1, d1, B2, d2, rfl, o1, o2, hb2⟩
  have zz := HA.out.2.1.lt
  have HB := Lib.hid (show Blk w2 (w.heap.size + 1) 26 #[.slice none 0 0, .slice none 0 0] ∧ Below w.heap.size w w2 ∧ w1.heap.size ≤ w2.heap.size ∧ w2.ownsRow w1.heap.size 66 2 (.slice B1 ls.length d1) ls.length (prs ls) ∧ w2.ownsRow w1.heap.size 3 1 (.slice B2 st.length d2) st.length (st.map (Value.int .i64)) from
    ⟨HA.out.2.1.below hb2 HA.out.2.1.lt, HA.out.2.2.trans (hb2.mono HA.out.2.2.size), hb2.size, o1, o2⟩)
  clear hb2 o1 o2 c00 c01
  go_upto_region 5 with (fail)
  refine wp_abs (TurnSt w w1.heap.size w2.heap.size (.slice B1 ls.length d1) (.slice B2 st.length d2) ls.length st.length ls st) ⟨HB.out.1.alloc _, Blk.new _ _ _, HB.out.2.2.2.1.alloc _, HB.out.2.2.2.2.alloc _, fun k hk => (HB.out.2.2.2.1.lt k hk).2, fun k hk => (HB.out.2.2.2.2.lt k hk).2, by omega, HB.out.2.1.alloc HB.out.2.1.size _⟩ ?_
  intro w3 hC
  have c00 : w3.cell? ⟨w2.heap.size, 0, none⟩ = some (.slice B1 ls.length d1) := hC.b5.cell 0
  have HC := Lib.hid hC
  clear hC HB
  go_wp2_with fail
  refine (revP_any _ B1 ls.length d1 ls w3 HC.out.o1 (by omega)).mono ?_
  rintro e w4 ⟨rfl, o1, hO⟩
  have HD := Lib.hid (HC.out.turn1 o1 hO)
  clear c00 o1 hO HC
  have c01 : w4.cell? ⟨w2.heap.size, 1, none⟩ = some (.slice B2 st.length d2) := HD.out.b5.cell 1
  go_wp2_with fail
  refine (revI_any _ B2 st.length d2 st w4 HD.out.o2 (by omega)).mono ?_
  rintro e w5 ⟨rfl, o2, hO⟩
  have HE := Lib.hid (HD.out.turn2 o2 hO)
  clear c01 o2 hO HD
  have c00 : w5.cell? ⟨w2.heap.size, 0, none⟩ = some (.slice B1 ls.length d1) := HE.out.b5.cell 0
  have c01 : w5.cell? ⟨w2.heap.size, 1, none⟩ = some (.slice B2 st.length d2) := HE.out.b5.cell 1
  have e0 : w5.cell? ⟨w.heap.size + 1, 0, none⟩ = some (.slice none 0 0) := HE.out.b2.cell 0
  have e1 : w5.cell? ⟨w.heap.size + 1, 1, none⟩ = some (.slice none 0 0) := HE.out.b2.cell 1
  have f0 : w5.frozen? ⟨w.heap.size + 1, 0, none⟩ = false := HE.out.b2.frozen 0
  have f1 : w5.frozen? ⟨w.heap.size + 1, 1, none⟩ = false := HE.out.b2.frozen 1
  go_wp2
  have HF := (HE.out.b2.set_ 0 (.slice B1 ls.length d1)).set_ 1 (.slice B2 st.length d2)
  have g0 := HF.cell 0
  have g1 := HF.cell 1
  simp at g0 g1
  refine bodyPost_ret (v := .tuple #[.agg #[.slice B1 ls.length d1, .slice B2 st.length d2], .int .i64 0]) (by simp [results, Try.results28, go_sem, g0, g1]) rfl ?_
  have h5 := HE.out.s1
  exact ⟨B1, d1, B2, d2, rfl, own_more (own_setCell (own_setCell HE.out.o1 (by simp; omega) _) (by simp; omega) _) (by omega), own_more (own_setCell (own_setCell HE.out.o2 (by simp; omega) _) (by simp; omega) _) (by omega), (HE.out.below.setCell (by simp) _).setCell (by simp) _⟩
end Go.Proofs.Ytbjfbmienlojkaa
