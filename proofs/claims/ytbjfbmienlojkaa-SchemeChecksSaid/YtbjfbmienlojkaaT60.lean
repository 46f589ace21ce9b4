/- SchemeChecks: the walk of the law. -/
import Derived.Test.YtbjfbmienlojkaaT12
import Derived.Test.YtbjfbmienlojkaaT19
import Derived.Test.YtbjfbmienlojkaaT26
import Derived.Test.YtbjfbmienlojkaaT24
import Derived.Test.YtbjfbmienlojkaaT33
import Derived.Test.YtbjfbmienlojkaaT34
import Derived.Test.YtbjfbmienlojkaaT47
import Derived.Test.YtbjfbmienlojkaaT51
import Derived.Test.YtbjfbmienlojkaaT59
namespace Go.Proofs.Ytbjfbmienlojkaa
open Go.RowKit

def abS : ByteArray := ⟨#[97, 98]⟩
theorem read_ab : readF abS = .ok [(0, 0), (1, 0)] [2] := by
  unfold readF
  rw [if_neg (by decide), if_neg (by decide)]
  simp [abS, rdF, smallOf, placeF, lettersB]

/-- memory of the law: the scheme's box, the box of the good scheme, and boxes of no scheme -/
structure CkSt (w0 : World) (a1 a2 : Value) (q5 : Nat) (O1 O2 : Option Addr) (k1 k2 : Nat) (l : List Nat) (w : World) : Prop where
  b0 : Blk w w0.heap.size 26 #[a1, a2]
  b5 : Blk w q5 26 #[.slice O1 2 k1, .slice O2 1 k2]
  r1 : ∃ b, w.ownsRow b 66 2 (.slice O1 2 k1) 2 (prs [(0, 0), (1, 0)])
  r2 : ∃ b, w.ownsRow b 3 1 (.slice O2 1 k2) 1 ([(2 : Int)].map (Value.int .i64))
  nils : ∀ q ∈ l, Blk w q 26 #[.slice none 0 0, .slice none 0 0]
  below : Below w0.heap.size w0 w
section
variable {w0 : World} {a1 a2 : Value} {q5 k1 k2 : Nat} {O1 O2 : Option Addr} {l : List Nat} {w w' : World}
theorem CkSt.on (h : CkSt w0 a1 a2 q5 O1 O2 k1 k2 l w) (hb : Below w.heap.size w w') : CkSt w0 a1 a2 q5 O1 O2 k1 k2 l w' :=
  ⟨h.b0.below hb h.b0.lt, h.b5.below hb h.b5.lt, let ⟨b, h1⟩ := h.r1; ⟨b, own_stay h1 (Only.of_below hb _)⟩, let ⟨b, h1⟩ := h.r2; ⟨b, own_stay h1 (Only.of_below hb _)⟩, fun q hq => (h.nils q hq).below hb (h.nils q hq).lt, h.below.trans (hb.mono h.below.size)⟩
theorem CkSt.add (h : CkSt w0 a1 a2 q5 O1 O2 k1 k2 l w) : CkSt w0 a1 a2 q5 O1 O2 k1 k2 (w.heap.size :: l) (w.alloc (.cells #[.slice none 0 0, .slice none 0 0] 26)) := by
  have ho := h.on (w' := w.alloc (.cells #[.slice none 0 0, .slice none 0 0] 26)) ((Below.refl _ _).alloc (Nat.le_refl _) _)
  refine ⟨ho.b0, ho.b5, ho.r1, ho.r2, fun q hq => ?_, ho.below⟩
  rcases List.mem_cons.1 hq with rfl | hq
  · exact Blk.new _ _ _
  · exact ho.nils q hq
theorem CkSt.rd1 (h : CkSt w0 a1 a2 q5 O1 O2 k1 k2 l w) : Rd w 0 w.heap.size 2 O1 2 (prs [(0, 0), (1, 0)]) := let ⟨_, h1⟩ := h.r1; own_rdz h1
theorem CkSt.rd2 (h : CkSt w0 a1 a2 q5 O1 O2 k1 k2 l w) : Rd w 0 w.heap.size 1 O2 1 ([(2 : Int)].map (Value.int .i64)) := let ⟨_, h1⟩ := h.r2; own_rdz h1
end
set_option maxHeartbeats 8000000 in
set_option maxRecDepth 100000 in
theorem schemeChecks_w (A1 A2 : Option Addr) (n1 c1 n2 c2 L1 L2 : Nat) (ls : List (Int × Int)) (st : List Int) (w : World)
    (h1 : Rd w L1 w.heap.size 2 A1 n1 (prs ls)) (h2 : Rd w L2 w.heap.size 1 A2 n2 (st.map (Value.int .i64))) (hn1 : n1 ≤ maxLen) (hn2 : n2 ≤ maxLen) (hc1 : n1 ≤ c1) (hc1m : c1 ≤ maxLen) :
    Calls Try.prog 12 #[.agg #[.slice A1 n1 c1, .slice A2 n2 c2]] w fun e w' => e = .returned (.bool true) ∧ Below w.heap.size w w' := by
  have H1 := Lib.hid h1
  have H2 := Lib.hid h2
  clear h1 h2
  go_enter Try.func12, Try.ntmps12
  go_upto_region 1 with (fail)
  refine wp_abs (fun wx => Blk wx w.heap.size 26 #[.slice A1 n1 c1, .slice A2 n2 c2] ∧ Below w.heap.size w wx) ⟨Blk.new _ _ _, (Below.refl _ _).alloc (Nat.le_refl _) _⟩ ?_
  rintro wx ⟨k0, hb⟩
  have HK := Lib.hid (And.intro k0 hb)
  clear k0 hb
  go_wp2_with fail
  refine (wakes_any wx).mono ?_
  rintro e w1 ⟨rfl, hb1⟩
  have H3 := Lib.hid (And.intro (HK.out.1.below hb1 HK.out.1.lt) (HK.out.2.trans (hb1.mono HK.out.2.size)))
  clear hb1 HK
  have c0 : w1.cell? ⟨w.heap.size, 0, none⟩ = some (.slice A1 n1 c1) := H3.out.1.cell 0
  have c1' : w1.cell? ⟨w.heap.size, 1, none⟩ = some (.slice A2 n2 c2) := H3.out.1.cell 1
  go_wp2_with fail
  refine (refMay_any A1 A2 n1 c1 n2 c2 L1 L2 ls st w1 (H1.out.up H3.out.2 H3.out.2.size) (H2.out.up H3.out.2 H3.out.2.size) hn2 hn1).mono ?_
  rintro e w2 ⟨rfl, hb1⟩
  have H4 := Lib.hid (And.intro (H3.out.1.below hb1 H3.out.1.lt) (H3.out.2.trans (hb1.mono H3.out.2.size)))
  clear hb1 H3 c0 c1'
  have c0 : w2.cell? ⟨w.heap.size, 0, none⟩ = some (.slice A1 n1 c1) := H4.out.1.cell 0
  have c1' : w2.cell? ⟨w.heap.size, 1, none⟩ = some (.slice A2 n2 c2) := H4.out.1.cell 1
  go_wp2_with fail
  refine (check_any A1 A2 n1 c1 n2 c2 L1 L2 ls st w2 (H1.out.up H4.out.2 H4.out.2.size) (H2.out.up H4.out.2 H4.out.2.size) hn2 hn1).mono ?_
  rintro e w3 ⟨rfl, hb1⟩
  have H5 := Lib.hid (And.intro (H4.out.1.below hb1 H4.out.1.lt) (H4.out.2.trans (hb1.mono H4.out.2.size)))
  clear hb1 H4 c0 c1'
  have c0 : w3.cell? ⟨w.heap.size, 0, none⟩ = some (.slice A1 n1 c1) := H5.out.1.cell 0
  have c1' : w3.cell? ⟨w.heap.size, 1, none⟩ = some (.slice A2 n2 c2) := H5.out.1.cell 1
  have hsm : sameB ls ls st st = may ls st := by unfold sameB; rw [eqS_same]; cases may ls st <;> rfl
  have HS := Lib.hid hsm
  clear hsm
  cases hm : may ls st with
  | true =>
    have HM := Lib.hid hm
    clear hm
    simp only [errOf]
    go_wp2_with fail
    refine (same_any A1 A2 A1 A2 n1 c1 n2 c2 n1 c1 n2 c2 L1 L2 L1 L2 ls ls st st w3 (H1.out.up H5.out.2 H5.out.2.size) (H2.out.up H5.out.2 H5.out.2.size) (H1.out.up H5.out.2 H5.out.2.size) (H2.out.up H5.out.2 H5.out.2.size) hn1 hn2 hn1 hn2).mono ?_
    rw [HS.out, HM.out]
    rintro e w4 ⟨rfl, hb1⟩
    have H6 := Lib.hid (H5.out.2.trans (hb1.mono H5.out.2.size))
    clear hb1
    go_wp2_with fail
    refine (wakes_any w4).mono ?_
    rintro e w5 ⟨rfl, hb1⟩
    have H7 := Lib.hid (H6.out.trans (hb1.mono H6.out.size))
    clear hb1
    go_wp2
    go_ret
    exact ⟨rfl, H7.out⟩
  | false =>
    have HM := Lib.hid hm
    clear hm
    simp only [errOf]
    go_wp2_with fail
    refine (same_any A1 A2 A1 A2 n1 c1 n2 c2 n1 c1 n2 c2 L1 L2 L1 L2 ls ls st st w3 (H1.out.up H5.out.2 H5.out.2.size) (H2.out.up H5.out.2 H5.out.2.size) (H1.out.up H5.out.2 H5.out.2.size) (H2.out.up H5.out.2 H5.out.2.size) hn1 hn2 hn1 hn2).mono ?_
    rw [HS.out, HM.out]
    rintro e w4 ⟨rfl, hb1⟩
    have H6 := Lib.hid (And.intro (H5.out.1.below hb1 H5.out.1.lt) (H5.out.2.trans (hb1.mono H5.out.2.size)))
    clear hb1 H5 c0 c1' HS
    go_wp2_with fail
    refine (read_any abS w4 (by decide)).mono ?_
    rintro e w5 hr
    rw [read_ab] at hr
    obtain ⟨hb1, O1, k1, O2, k2, rfl, o1, o2⟩ := hr
    have H7 := Lib.hid (And.intro (H6.out.1.below hb1 H6.out.1.lt) (And.intro (H6.out.2.trans (hb1.mono H6.out.2.size)) (And.intro o1 o2)))
    clear hb1 H6 o1 o2
    go_upto_region 12 with (fail)
    refine wp_abs (CkSt w (.slice A1 n1 c1) (.slice A2 n2 c2) w5.heap.size O1 O2 k1 k2 []) ⟨(H7.out.1.alloc _).alloc _, (Blk.new _ _ _).alloc _, ⟨_, (H7.out.2.2.1.alloc _).alloc _⟩, ⟨_, (H7.out.2.2.2.alloc _).alloc _⟩, fun q hq => absurd hq (List.not_mem_nil), (H7.out.2.1.alloc H7.out.2.1.size _).alloc (by have := H7.out.2.1.size; simp; omega) _⟩ ?_
    clear H7
    intro v0 hS
    have S0 := Lib.hid hS
    clear hS
    have c0 : v0.cell? ⟨w.heap.size, 0, none⟩ = some (.slice A1 n1 c1) := S0.out.b0.cell 0
    have c1' : v0.cell? ⟨w.heap.size, 1, none⟩ = some (.slice A2 n2 c2) := S0.out.b0.cell 1
    go_wp2_with fail
    refine (print_any A1 A2 n1 c1 n2 c2 L1 L2 ls st v0 (H1.out.up S0.out.below S0.out.below.size) (H2.out.up S0.out.below S0.out.below.size) hn2 hn1 hc1 hc1m).mono ?_
    rw [show printF ls st = ⟨#[]⟩ by unfold printF; rw [HM.out]; rfl, HM.out]
    simp only [errOf]
    rintro e v1 ⟨rfl, hb1⟩
    have S1 := Lib.hid (S0.out.on hb1)
    clear hb1 S0 c0 c1'
    have c0 : v1.cell? ⟨w.heap.size, 0, none⟩ = some (.slice A1 n1 c1) := S1.out.b0.cell 0
    have c1' : v1.cell? ⟨w.heap.size, 1, none⟩ = some (.slice A2 n2 c2) := S1.out.b0.cell 1
    go_wp2_with fail
    refine (canon_bad A1 A2 n1 c1 n2 c2 L1 L2 ls st v1 (H1.out.up S1.out.below S1.out.below.size) (H2.out.up S1.out.below S1.out.below.size) hn2 hn1 HM.out).mono ?_
    rintro e v2 ⟨rfl, hb1⟩
    have S2 := Lib.hid (S1.out.on hb1)
    clear hb1 S1 c0 c1'
    go_upto_region 14 with (fail)
    refine wp_abs (CkSt w (.slice A1 n1 c1) (.slice A2 n2 c2) w5.heap.size O1 O2 k1 k2 (v2.heap.size :: [])) S2.out.add ?_
    clear S2
    intro v3 hS
    have S3 := Lib.hid hS
    clear hS
    have c0 : v3.cell? ⟨w.heap.size, 0, none⟩ = some (.slice A1 n1 c1) := S3.out.b0.cell 0
    have c1' : v3.cell? ⟨w.heap.size, 1, none⟩ = some (.slice A2 n2 c2) := S3.out.b0.cell 1
    go_wp2_with fail
    refine (turn_bad A1 A2 n1 c1 n2 c2 L1 L2 ls st v3 (H1.out.up S3.out.below S3.out.below.size) (H2.out.up S3.out.below S3.out.below.size) hn2 hn1 HM.out).mono ?_
    rintro e v4 ⟨rfl, hb1⟩
    have S4 := Lib.hid (S3.out.on hb1)
    clear hb1 S3 c0 c1'
    go_upto_region 15 with (fail)
    refine wp_abs (CkSt w (.slice A1 n1 c1) (.slice A2 n2 c2) w5.heap.size O1 O2 k1 k2 (v4.heap.size :: (v2.heap.size :: []))) S4.out.add ?_
    clear S4
    intro v5 hS
    have S5 := Lib.hid hS
    clear hS
    have c0 : v5.cell? ⟨w.heap.size, 0, none⟩ = some (.slice A1 n1 c1) := S5.out.b0.cell 0
    have c1' : v5.cell? ⟨w.heap.size, 1, none⟩ = some (.slice A2 n2 c2) := S5.out.b0.cell 1
    go_wp2_with fail
    refine (classes_bad A1 A2 n1 c1 n2 c2 L1 L2 ls st v5 (H1.out.up S5.out.below S5.out.below.size) (H2.out.up S5.out.below S5.out.below.size) hn2 hn1 HM.out).mono ?_
    rintro e v6 ⟨rfl, hb1⟩
    have S6 := Lib.hid (S5.out.on hb1)
    clear hb1 S5 c0 c1'
    have hz := S6.out.below.size
    have c0 : v6.cell? ⟨w.heap.size, 0, none⟩ = some (.slice A1 n1 c1) := S6.out.b0.cell 0
    have c1' : v6.cell? ⟨w.heap.size, 1, none⟩ = some (.slice A2 n2 c2) := S6.out.b0.cell 1
    go_wp2_with fail
    refine (faults_bad A1 A2 _ n1 c1 n2 c2 2 2 L1 L2 ls st _ ((H1.out.up S6.out.below S6.out.below.size).below ((Below.refl _ _).alloc (Nat.le_refl _) _) (Nat.le_refl _)|>.more (Nat.le_refl _) (by simp)) ((H2.out.up S6.out.below S6.out.below.size).below ((Below.refl _ _).alloc (Nat.le_refl _) _) (Nat.le_refl _)|>.more (Nat.le_refl _) (by simp)) hn2 hn1 (.inl HM.out)).mono ?_
    rintro e v7 ⟨rfl, hb1⟩
    have S7 := Lib.hid ((S6.out.on ((Below.refl _ _).alloc (Nat.le_refl _) _)).on hb1)
    clear hb1 S6 c0 c1'
    have c0 : v7.cell? ⟨w.heap.size, 0, none⟩ = some (.slice A1 n1 c1) := S7.out.b0.cell 0
    have c1' : v7.cell? ⟨w.heap.size, 1, none⟩ = some (.slice A2 n2 c2) := S7.out.b0.cell 1
    have d0 : v7.cell? ⟨w5.heap.size, 0, none⟩ = some (.slice O1 2 k1) := S7.out.b5.cell 0
    have d1' : v7.cell? ⟨w5.heap.size, 1, none⟩ = some (.slice O2 1 k2) := S7.out.b5.cell 1
    go_wp2_with fail
    refine (within_bad A1 A2 O1 O2 n1 c1 n2 c2 2 k1 1 k2 L1 L2 0 0 ls [(0, 0), (1, 0)] st [2] v7 (H1.out.up S7.out.below S7.out.below.size) (H2.out.up S7.out.below S7.out.below.size) S7.out.rd1 S7.out.rd2 hn1 hn2 (by decide) (by decide) (by unfold mayTwo; rw [HM.out]; simp)).mono ?_
    rintro e v8 ⟨rfl, hb1⟩
    have S8 := Lib.hid (S7.out.on hb1)
    clear hb1 S7 c0 c1' d0 d1'
    have c0 : v8.cell? ⟨w.heap.size, 0, none⟩ = some (.slice A1 n1 c1) := S8.out.b0.cell 0
    have c1' : v8.cell? ⟨w.heap.size, 1, none⟩ = some (.slice A2 n2 c2) := S8.out.b0.cell 1
    have d0 : v8.cell? ⟨w5.heap.size, 0, none⟩ = some (.slice O1 2 k1) := S8.out.b5.cell 0
    have d1' : v8.cell? ⟨w5.heap.size, 1, none⟩ = some (.slice O2 1 k2) := S8.out.b5.cell 1
    go_wp2_with fail
    refine (within_bad O1 O2 A1 A2 2 k1 1 k2 n1 c1 n2 c2 0 0 L1 L2 [(0, 0), (1, 0)] ls [2] st v8 S8.out.rd1 S8.out.rd2 (H1.out.up S8.out.below S8.out.below.size) (H2.out.up S8.out.below S8.out.below.size) (by decide) (by decide) hn1 hn2 (by unfold mayTwo; rw [HM.out]; simp)).mono ?_
    rintro e v9 ⟨rfl, hb1⟩
    have S9 := Lib.hid (S8.out.on hb1)
    clear hb1 S8 c0 c1' d0 d1'
    have c0 : v9.cell? ⟨w.heap.size, 0, none⟩ = some (.slice A1 n1 c1) := S9.out.b0.cell 0
    have c1' : v9.cell? ⟨w.heap.size, 1, none⟩ = some (.slice A2 n2 c2) := S9.out.b0.cell 1
    have d0 : v9.cell? ⟨w5.heap.size, 0, none⟩ = some (.slice O1 2 k1) := S9.out.b5.cell 0
    have d1' : v9.cell? ⟨w5.heap.size, 1, none⟩ = some (.slice O2 1 k2) := S9.out.b5.cell 1
    go_wp2_with fail
    refine (meet_bad A1 A2 O1 O2 n1 c1 n2 c2 2 k1 1 k2 L1 L2 0 0 ls [(0, 0), (1, 0)] st [2] v9 (H1.out.up S9.out.below S9.out.below.size) (H2.out.up S9.out.below S9.out.below.size) S9.out.rd1 S9.out.rd2 hn1 hn2 (by decide) (by decide) (by unfold mayTwo; rw [HM.out]; simp)).mono ?_
    rintro e v10 ⟨rfl, hb1⟩
    have S10 := Lib.hid (S9.out.on hb1)
    clear hb1 S9 c0 c1' d0 d1'
    go_upto_region 20 with (fail)
    refine wp_abs (CkSt w (.slice A1 n1 c1) (.slice A2 n2 c2) w5.heap.size O1 O2 k1 k2 (v10.heap.size :: (v4.heap.size :: (v2.heap.size :: [])))) S10.out.add ?_
    clear S10
    intro v11 hS
    have S11 := Lib.hid hS
    clear hS
    have c0 : v11.cell? ⟨w.heap.size, 0, none⟩ = some (.slice A1 n1 c1) := S11.out.b0.cell 0
    have c1' : v11.cell? ⟨w.heap.size, 1, none⟩ = some (.slice A2 n2 c2) := S11.out.b0.cell 1
    have d0 : v11.cell? ⟨w5.heap.size, 0, none⟩ = some (.slice O1 2 k1) := S11.out.b5.cell 0
    have d1' : v11.cell? ⟨w5.heap.size, 1, none⟩ = some (.slice O2 1 k2) := S11.out.b5.cell 1
    go_wp2_with fail
    refine (meet_bad O1 O2 A1 A2 2 k1 1 k2 n1 c1 n2 c2 0 0 L1 L2 [(0, 0), (1, 0)] ls [2] st v11 S11.out.rd1 S11.out.rd2 (H1.out.up S11.out.below S11.out.below.size) (H2.out.up S11.out.below S11.out.below.size) (by decide) (by decide) hn1 hn2 (by unfold mayTwo; rw [HM.out]; simp)).mono ?_
    rintro e v12 ⟨rfl, hb1⟩
    have S12 := Lib.hid (S11.out.on hb1)
    clear hb1 S11 c0 c1' d0 d1'
    go_upto_region 21 with (fail)
    refine wp_abs (CkSt w (.slice A1 n1 c1) (.slice A2 n2 c2) w5.heap.size O1 O2 k1 k2 (v12.heap.size :: (v10.heap.size :: (v4.heap.size :: (v2.heap.size :: []))))) S12.out.add ?_
    clear S12
    intro v13 hS
    have S13 := Lib.hid hS
    clear hS
    have c0 : v13.cell? ⟨w.heap.size, 0, none⟩ = some (.slice A1 n1 c1) := S13.out.b0.cell 0
    have c1' : v13.cell? ⟨w.heap.size, 1, none⟩ = some (.slice A2 n2 c2) := S13.out.b0.cell 1
    have d0 : v13.cell? ⟨w5.heap.size, 0, none⟩ = some (.slice O1 2 k1) := S13.out.b5.cell 0
    have d1' : v13.cell? ⟨w5.heap.size, 1, none⟩ = some (.slice O2 1 k2) := S13.out.b5.cell 1
    go_wp2_with fail
    refine (join_bad A1 A2 O1 O2 n1 c1 n2 c2 2 k1 1 k2 L1 L2 0 0 ls [(0, 0), (1, 0)] st [2] v13 (H1.out.up S13.out.below S13.out.below.size) (H2.out.up S13.out.below S13.out.below.size) S13.out.rd1 S13.out.rd2 hn1 hn2 (by decide) (by decide) (by unfold mayTwo; rw [HM.out]; simp)).mono ?_
    rintro e v14 ⟨rfl, hb1⟩
    have S14 := Lib.hid (S13.out.on hb1)
    clear hb1 S13 c0 c1' d0 d1'
    go_upto_region 22 with (fail)
    refine wp_abs (CkSt w (.slice A1 n1 c1) (.slice A2 n2 c2) w5.heap.size O1 O2 k1 k2 (v14.heap.size :: (v12.heap.size :: (v10.heap.size :: (v4.heap.size :: (v2.heap.size :: [])))))) S14.out.add ?_
    clear S14
    intro v15 hS
    have S15 := Lib.hid hS
    clear hS
    have c0 : v15.cell? ⟨w.heap.size, 0, none⟩ = some (.slice A1 n1 c1) := S15.out.b0.cell 0
    have c1' : v15.cell? ⟨w.heap.size, 1, none⟩ = some (.slice A2 n2 c2) := S15.out.b0.cell 1
    have d0 : v15.cell? ⟨w5.heap.size, 0, none⟩ = some (.slice O1 2 k1) := S15.out.b5.cell 0
    have d1' : v15.cell? ⟨w5.heap.size, 1, none⟩ = some (.slice O2 1 k2) := S15.out.b5.cell 1
    go_wp2_with fail
    refine (join_bad O1 O2 A1 A2 2 k1 1 k2 n1 c1 n2 c2 0 0 L1 L2 [(0, 0), (1, 0)] ls [2] st v15 S15.out.rd1 S15.out.rd2 (H1.out.up S15.out.below S15.out.below.size) (H2.out.up S15.out.below S15.out.below.size) (by decide) (by decide) hn1 hn2 (by unfold mayTwo; rw [HM.out]; simp)).mono ?_
    rintro e v16 ⟨rfl, hb1⟩
    have S16 := Lib.hid (S15.out.on hb1)
    clear hb1 S15 c0 c1' d0 d1'
    go_upto_region 23 with (fail)
    refine wp_abs (CkSt w (.slice A1 n1 c1) (.slice A2 n2 c2) w5.heap.size O1 O2 k1 k2 (v16.heap.size :: (v14.heap.size :: (v12.heap.size :: (v10.heap.size :: (v4.heap.size :: (v2.heap.size :: []))))))) S16.out.add ?_
    clear S16
    intro v17 hS
    have S17 := Lib.hid hS
    clear hS
    have c0 : v17.cell? ⟨w.heap.size, 0, none⟩ = some (.slice A1 n1 c1) := S17.out.b0.cell 0
    have c1' : v17.cell? ⟨w.heap.size, 1, none⟩ = some (.slice A2 n2 c2) := S17.out.b0.cell 1
    go_wp2_with fail
    refine (rank_bad A1 A2 n1 c1 n2 c2 L1 L2 ls st v17 (H1.out.up S17.out.below S17.out.below.size) (H2.out.up S17.out.below S17.out.below.size) hn2 hn1 HM.out).mono ?_
    rintro e v18 ⟨rfl, hb1⟩
    have S18 := Lib.hid (S17.out.on hb1)
    clear hb1 S17 c0 c1'
    have i0 : ∀ w, (Instr.index 80 (.agg #[.int .i64 2, .int .i64 2, .int .i64 2, .int .i64 2, .int .i64 2, .int .i64 2, .int .i64 2, .int .i64 2, .int .i64 2, .int .i64 2, .int .i64 2, .int .i64 2]) (.int .i64 0)).run Try.prog w = .ok (.int .i64 2) w := fun _ => by kernel_rfl
    have i1 : ∀ w, (Instr.index 80 (.agg #[.int .i64 2, .int .i64 2, .int .i64 2, .int .i64 2, .int .i64 2, .int .i64 2, .int .i64 2, .int .i64 2, .int .i64 2, .int .i64 2, .int .i64 2, .int .i64 2]) (.int .i64 1)).run Try.prog w = .ok (.int .i64 2) w := fun _ => by kernel_rfl
    have i2 : ∀ w, (Instr.index 80 (.agg #[.int .i64 2, .int .i64 2, .int .i64 2, .int .i64 2, .int .i64 2, .int .i64 2, .int .i64 2, .int .i64 2, .int .i64 2, .int .i64 2, .int .i64 2, .int .i64 2]) (.int .i64 2)).run Try.prog w = .ok (.int .i64 2) w := fun _ => by kernel_rfl
    have i3 : ∀ w, (Instr.index 80 (.agg #[.int .i64 2, .int .i64 2, .int .i64 2, .int .i64 2, .int .i64 2, .int .i64 2, .int .i64 2, .int .i64 2, .int .i64 2, .int .i64 2, .int .i64 2, .int .i64 2]) (.int .i64 3)).run Try.prog w = .ok (.int .i64 2) w := fun _ => by kernel_rfl
    have i4 : ∀ w, (Instr.index 80 (.agg #[.int .i64 2, .int .i64 2, .int .i64 2, .int .i64 2, .int .i64 2, .int .i64 2, .int .i64 2, .int .i64 2, .int .i64 2, .int .i64 2, .int .i64 2, .int .i64 2]) (.int .i64 4)).run Try.prog w = .ok (.int .i64 2) w := fun _ => by kernel_rfl
    have i5 : ∀ w, (Instr.index 80 (.agg #[.int .i64 2, .int .i64 2, .int .i64 2, .int .i64 2, .int .i64 2, .int .i64 2, .int .i64 2, .int .i64 2, .int .i64 2, .int .i64 2, .int .i64 2, .int .i64 2]) (.int .i64 5)).run Try.prog w = .ok (.int .i64 2) w := fun _ => by kernel_rfl
    have i6 : ∀ w, (Instr.index 80 (.agg #[.int .i64 2, .int .i64 2, .int .i64 2, .int .i64 2, .int .i64 2, .int .i64 2, .int .i64 2, .int .i64 2, .int .i64 2, .int .i64 2, .int .i64 2, .int .i64 2]) (.int .i64 6)).run Try.prog w = .ok (.int .i64 2) w := fun _ => by kernel_rfl
    have i7 : ∀ w, (Instr.index 80 (.agg #[.int .i64 2, .int .i64 2, .int .i64 2, .int .i64 2, .int .i64 2, .int .i64 2, .int .i64 2, .int .i64 2, .int .i64 2, .int .i64 2, .int .i64 2, .int .i64 2]) (.int .i64 7)).run Try.prog w = .ok (.int .i64 2) w := fun _ => by kernel_rfl
    have i8 : ∀ w, (Instr.index 80 (.agg #[.int .i64 2, .int .i64 2, .int .i64 2, .int .i64 2, .int .i64 2, .int .i64 2, .int .i64 2, .int .i64 2, .int .i64 2, .int .i64 2, .int .i64 2, .int .i64 2]) (.int .i64 8)).run Try.prog w = .ok (.int .i64 2) w := fun _ => by kernel_rfl
    have i9 : ∀ w, (Instr.index 80 (.agg #[.int .i64 2, .int .i64 2, .int .i64 2, .int .i64 2, .int .i64 2, .int .i64 2, .int .i64 2, .int .i64 2, .int .i64 2, .int .i64 2, .int .i64 2, .int .i64 2]) (.int .i64 9)).run Try.prog w = .ok (.int .i64 2) w := fun _ => by kernel_rfl
    have i10 : ∀ w, (Instr.index 80 (.agg #[.int .i64 2, .int .i64 2, .int .i64 2, .int .i64 2, .int .i64 2, .int .i64 2, .int .i64 2, .int .i64 2, .int .i64 2, .int .i64 2, .int .i64 2, .int .i64 2]) (.int .i64 10)).run Try.prog w = .ok (.int .i64 2) w := fun _ => by kernel_rfl
    have i11 : ∀ w, (Instr.index 80 (.agg #[.int .i64 2, .int .i64 2, .int .i64 2, .int .i64 2, .int .i64 2, .int .i64 2, .int .i64 2, .int .i64 2, .int .i64 2, .int .i64 2, .int .i64 2, .int .i64 2]) (.int .i64 11)).run Try.prog w = .ok (.int .i64 2) w := fun _ => by kernel_rfl
    go_wp2
    go_loopw [142] (fun iv wr => ∃ i : Nat, i ≤ 12 ∧ iv = .int .i64 i ∧ Hid (CkSt w (.slice A1 n1 c1) (.slice A2 n2 c2) w5.heap.size O1 O2 k1 k2 (v16.heap.size :: (v14.heap.size :: (v12.heap.size :: (v10.heap.size :: (v4.heap.size :: (v2.heap.size :: [])))))) wr)) (fun iv _ => 12 - (intOf iv).toNat)
    case atStart => exact ⟨0, by omega, rfl, S18⟩
    case round =>
      obtain ⟨i, hi, rfl, HR⟩ := hrel
      clear S18
      by_cases hlt : i < 12
      · have hii : i = 0 ∨ i = 1 ∨ i = 2 ∨ i = 3 ∨ i = 4 ∨ i = 5 ∨ i = 6 ∨ i = 7 ∨ i = 8 ∨ i = 9 ∨ i = 10 ∨ i = 11 := by omega
        rcases hii with rfl | rfl | rfl | rfl | rfl | rfl | rfl | rfl | rfl | rfl | rfl | rfl
        all_goals go_wp2
        all_goals go_roundw
        case rel => exact ⟨1, by omega, by go_num, HR⟩
        case measure => simp [intOf]
        case rel => exact ⟨2, by omega, by go_num, HR⟩
        case measure => simp [intOf]
        case rel => exact ⟨3, by omega, by go_num, HR⟩
        case measure => simp [intOf]
        case rel => exact ⟨4, by omega, by go_num, HR⟩
        case measure => simp [intOf]
        case rel => exact ⟨5, by omega, by go_num, HR⟩
        case measure => simp [intOf]
        case rel => exact ⟨6, by omega, by go_num, HR⟩
        case measure => simp [intOf]
        case rel => exact ⟨7, by omega, by go_num, HR⟩
        case measure => simp [intOf]
        case rel => exact ⟨8, by omega, by go_num, HR⟩
        case measure => simp [intOf]
        case rel => exact ⟨9, by omega, by go_num, HR⟩
        case measure => simp [intOf]
        case rel => exact ⟨10, by omega, by go_num, HR⟩
        case measure => simp [intOf]
        case rel => exact ⟨11, by omega, by go_num, HR⟩
        case measure => simp [intOf]
        case rel => exact ⟨12, by omega, by go_num, HR⟩
        case measure => simp [intOf]
      · clear i0 i1 i2 i3 i4 i5 i6 i7 i8 i9 i10 i11
        obtain rfl : i = 12 := by omega
        have c0 : wr.cell? ⟨v2.heap.size, 0, none⟩ = some (.slice none 0 0) := (HR.out.nils _ (by simp)).cell 0
        have c1' : wr.cell? ⟨v2.heap.size, 1, none⟩ = some (.slice none 0 0) := (HR.out.nils _ (by simp)).cell 1
        go_wp2_with fail
        refine (none_any 0 0 wr).mono ?_
        rintro e v101 ⟨rfl, hb1⟩
        have S101 := Lib.hid (HR.out.on hb1)
        clear hb1 HR c0 c1'
        have c0 : v101.cell? ⟨v4.heap.size, 0, none⟩ = some (.slice none 0 0) := (S101.out.nils _ (by simp)).cell 0
        have c1' : v101.cell? ⟨v4.heap.size, 1, none⟩ = some (.slice none 0 0) := (S101.out.nils _ (by simp)).cell 1
        go_wp2_with fail
        refine (none_any 0 0 v101).mono ?_
        rintro e v102 ⟨rfl, hb1⟩
        have S102 := Lib.hid (S101.out.on hb1)
        clear hb1 S101 c0 c1'
        have c0 : v102.cell? ⟨v10.heap.size, 0, none⟩ = some (.slice none 0 0) := (S102.out.nils _ (by simp)).cell 0
        have c1' : v102.cell? ⟨v10.heap.size, 1, none⟩ = some (.slice none 0 0) := (S102.out.nils _ (by simp)).cell 1
        go_wp2_with fail
        refine (none_any 0 0 v102).mono ?_
        rintro e v103 ⟨rfl, hb1⟩
        have S103 := Lib.hid (S102.out.on hb1)
        clear hb1 S102 c0 c1'
        have c0 : v103.cell? ⟨v12.heap.size, 0, none⟩ = some (.slice none 0 0) := (S103.out.nils _ (by simp)).cell 0
        have c1' : v103.cell? ⟨v12.heap.size, 1, none⟩ = some (.slice none 0 0) := (S103.out.nils _ (by simp)).cell 1
        go_wp2_with fail
        refine (none_any 0 0 v103).mono ?_
        rintro e v104 ⟨rfl, hb1⟩
        have S104 := Lib.hid (S103.out.on hb1)
        clear hb1 S103 c0 c1'
        have c0 : v104.cell? ⟨v14.heap.size, 0, none⟩ = some (.slice none 0 0) := (S104.out.nils _ (by simp)).cell 0
        have c1' : v104.cell? ⟨v14.heap.size, 1, none⟩ = some (.slice none 0 0) := (S104.out.nils _ (by simp)).cell 1
        go_wp2_with fail
        refine (none_any 0 0 v104).mono ?_
        rintro e v105 ⟨rfl, hb1⟩
        have S105 := Lib.hid (S104.out.on hb1)
        clear hb1 S104 c0 c1'
        have c0 : v105.cell? ⟨v16.heap.size, 0, none⟩ = some (.slice none 0 0) := (S105.out.nils _ (by simp)).cell 0
        have c1' : v105.cell? ⟨v16.heap.size, 1, none⟩ = some (.slice none 0 0) := (S105.out.nils _ (by simp)).cell 1
        go_wp2_with fail
        refine (none_any 0 0 v105).mono ?_
        rintro e v106 ⟨rfl, hb1⟩
        have S106 := Lib.hid (S105.out.on hb1)
        clear hb1 S105 c0 c1'
        go_wp2_with fail
        refine (wakes_any v106).mono ?_
        rintro e vz ⟨rfl, hb1⟩
        have SZ := Lib.hid (S106.out.on hb1)
        clear hb1 S106
        go_wp2
        go_ret
        exact ⟨rfl, SZ.out.below⟩
end Go.Proofs.Ytbjfbmienlojkaa
