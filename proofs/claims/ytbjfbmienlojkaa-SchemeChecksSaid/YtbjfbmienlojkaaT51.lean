/- SchemeFinds: the walk of the law. -/
import Derived.Test.YtbjfbmienlojkaaT12
import Derived.Test.YtbjfbmienlojkaaT15
import Derived.Test.YtbjfbmienlojkaaT19
import Derived.Test.YtbjfbmienlojkaaT46
import Derived.Test.YtbjfbmienlojkaaT48
import Derived.Test.YtbjfbmienlojkaaT49
import Derived.Test.YtbjfbmienlojkaaT50
import Derived.Deep.RegionHeld3
namespace Go.Proofs.Ytbjfbmienlojkaa
open Go.RowKit

/-- memory of the law: the box of the scheme, and the keys with room behind them -/
structure LfSt (w0 : World) (a1 a2 : Value) (p : Nat) (X : Option Addr) (n C : Nat) (ks : List ByteArray) (w : World) : Prop where
  b0 : Blk w w0.heap.size 26 #[a1, a2]
  own : w.ownsRow p 9 1 (.slice X (n + 20) C) (n + 20) (strs (padded ks 20))
  below : Below w0.heap.size w0 w
theorem LfSt.on {w0 : World} {a1 a2 : Value} {p : Nat} {X : Option Addr} {n C : Nat} {ks : List ByteArray} {w w' : World} (h : LfSt w0 a1 a2 p X n C ks w) (hb : Below w.heap.size w w') : LfSt w0 a1 a2 p X n C ks w' :=
  ⟨h.b0.below hb h.b0.lt, own_stay h.own (Only.of_below hb _), h.below.trans (hb.mono h.below.size)⟩
theorem own_rdz {w : World} {base : Nat} {e : TypeId} {size : Nat} {A : Option Addr} {c n : Nat} {xs : List Value} (h : w.ownsRow base e size (.slice A n c) n xs) : Rd w 0 w.heap.size size A n xs := (own_rd h).more (Nat.zero_le _) (Nat.le_refl _)
theorem eqS_same (l : List (Int × Int)) (s : List Int) : eqS l l s s = true := by simp [eqS]
theorem foundL_len (ks : List ByteArray) : (foundL ks).length ≤ 512 ∧ (foundS ks).length ≤ 1 := by
  unfold foundL foundS
  constructor
  · split
    · rw [(fnd_len ks ks.length (Nat.le_refl _)).1]
      rename_i h
      unfold foundE at h
      split at h
      · cases h
      · omega
    · simp
  · split
    · unfold plainS; split <;> simp
    · simp

/-- memory behind Found and the reference's Found -/
structure Lf2 (w0 : World) (a1 a2 : Value) (p : Nat) (X : Option Addr) (n C : Nat) (ks : List ByteArray) (q6 q8 : Nat) (x1 x2 y1 y2 : Value) (w : World) : Prop where
  lf : LfSt w0 a1 a2 p X n C ks w
  b6 : Blk w q6 26 #[x1, x2]
  b8 : Blk w q8 26 #[y1, y2]
  x1 : ∃ b, w.ownsRow b 66 2 x1 (foundL ks).length (prs (foundL ks))
  x2 : ∃ b, w.ownsRow b 3 1 x2 (foundS ks).length ((foundS ks).map (Value.int .i64))
  y1 : ∃ b, w.ownsRow b 66 2 y1 (foundL ks).length (prs (foundL ks))
  y2 : ∃ b, w.ownsRow b 3 1 y2 (foundS ks).length ((foundS ks).map (Value.int .i64))

set_option maxHeartbeats 4000000 in
set_option maxRecDepth 100000 in
theorem schemeFinds_bad (A1 A2 A : Option Addr) (n1 c1 n2 c2 n c L1 L2 L3 : Nat) (ls : List (Int × Int)) (st : List Int) (ks : List ByteArray) (w : World)
    (h1 : Rd w L1 w.heap.size 2 A1 n1 (prs ls)) (h2 : Rd w L2 w.heap.size 1 A2 n2 (st.map (Value.int .i64))) (h3 : Rd w L3 w.heap.size 1 A n (strs ks)) (hfit : ∀ k ∈ ks, k.size ≤ maxLen)
    (e1 : n1 ≤ maxLen) (e2 : n2 ≤ maxLen) (hnc : n ≤ c) (hc : c * 16 ≤ 140737488351232) (hbad : may ls st = false ∨ n ≠ n1) :
    Calls Try.prog 7 #[.agg #[.slice A1 n1 c1, .slice A2 n2 c2], .slice A n c] w fun e w' => e = .returned (.bool true) ∧ Below w.heap.size w w' := by
  have H1 := Lib.hid h1
  have H2 := Lib.hid h2
  have H3 := Lib.hid h3
  have HF := Lib.hid hfit
  have hn : n * 16 ≤ 140737488351232 := by omega
  have hnm : n ≤ maxLen := by unfold maxLen; omega
  clear h1 h2 h3 hfit
  go_enter Try.func7, Try.ntmps7
  go_upto_region 1 with (fail)
  refine wp_abs (fun wx => Blk wx w.heap.size 26 #[.slice A1 n1 c1, .slice A2 n2 c2] ∧ Below w.heap.size w wx) ⟨Blk.new _ _ _, (Below.refl _ _).alloc (Nat.le_refl _) _⟩ ?_
  rintro wx ⟨k0, hb⟩
  have HK := Lib.hid (And.intro k0 hb)
  clear k0 hb
  go_wp2_with fail
  refine (wakes_any wx).mono ?_
  rintro e w1 ⟨rfl, hb1⟩
  have HA := Lib.hid (And.intro (HK.out.1.below hb1 HK.out.1.lt) (HK.out.2.trans (hb1.mono HK.out.2.size)))
  clear hb1 HK
  go_wp2_with fail
  refine (texts_any A n c L3 w.heap.size ks w1 (H3.out.below HA.out.2 (Nat.le_refl _)) HA.out.2.size hnc hc).mono ?_
  rintro e w2 ⟨X, C, rfl, o2, hb2⟩
  have hcap := own_cap o2
  have HB := Lib.hid (show LfSt w (.slice A1 n1 c1) (.slice A2 n2 c2) w1.heap.size X n C ks w2 from ⟨HA.out.1.below hb2 HA.out.1.lt, o2, HA.out.2.trans (hb2.mono HA.out.2.size)⟩)
  clear hb2 o2 HA hnc hc
  have i1 : (n : Int) ≤ (C : Int) := by omega
  have hnC : n ≤ C := by omega
  clear hcap
  go_wp2_with fail
  refine (found_any X n C 0 ks w2 (padded_rd (own_rdz HB.out.own)) HF.out hnm).mono ?_
  rintro e w3 ⟨B1, x1, B2, x2, rfl, r1, r2, hb3⟩
  have HC := Lib.hid (And.intro (HB.out.on hb3) (And.intro r1 r2))
  clear hb3 r1 r2 HB
  have fl := foundL_len ks
  go_upto_region 5 with (fail)
  refine wp_abs (fun wx => LfSt w (.slice A1 n1 c1) (.slice A2 n2 c2) w1.heap.size X n C ks wx ∧ Blk wx w3.heap.size 26 #[.slice B1 (foundL ks).length x1, .slice B2 (foundS ks).length x2] ∧ wx.ownsRow w2.heap.size 66 2 (.slice B1 (foundL ks).length x1) (foundL ks).length (prs (foundL ks)) ∧ wx.ownsRow w2.heap.size 3 1 (.slice B2 (foundS ks).length x2) (foundS ks).length ((foundS ks).map (Value.int .i64)))
    ⟨HC.out.1.on ((Below.refl _ _).alloc (Nat.le_refl _) _), Blk.new _ _ _, HC.out.2.1.alloc _, HC.out.2.2.alloc _⟩ ?_
  clear HC
  rintro w4 ⟨t0, t1, t2, t3⟩
  have HD := Lib.hid (And.intro t0 (And.intro t1 (And.intro t2 t3)))
  clear t0 t1 t2 t3
  go_wp2_with fail
  refine (refFound_any A n c L3 ks w4 (H3.out.up HD.out.1.below HD.out.1.below.size) hnm).mono ?_
  rintro e w5 ⟨G1, y1, G2, y2, rfl, r1, r2, hb5⟩
  have HE := Lib.hid (And.intro (HD.out.1.on hb5) (And.intro (HD.out.2.1.below hb5 HD.out.2.1.lt) (And.intro (own_stay HD.out.2.2.1 (Only.of_below hb5 (fun _ => False))) (And.intro (own_stay HD.out.2.2.2 (Only.of_below hb5 (fun _ => False))) (And.intro r1 r2)))))
  clear hb5 r1 r2 HD
  go_upto_region 6 with (fail)
  refine wp_abs (Lf2 w (.slice A1 n1 c1) (.slice A2 n2 c2) w1.heap.size X n C ks w3.heap.size w5.heap.size (.slice B1 (foundL ks).length x1) (.slice B2 (foundS ks).length x2) (.slice G1 (foundL ks).length y1) (.slice G2 (foundS ks).length y2))
    ⟨HE.out.1.on ((Below.refl _ _).alloc (Nat.le_refl _) _), HE.out.2.1.alloc _, Blk.new _ _ _, ⟨_, HE.out.2.2.1.alloc _⟩, ⟨_, HE.out.2.2.2.1.alloc _⟩, ⟨_, HE.out.2.2.2.2.1.alloc _⟩, ⟨_, HE.out.2.2.2.2.2.alloc _⟩⟩ ?_
  clear HE
  intro w6 hS
  have x0 : w6.cell? ⟨w3.heap.size, 0, none⟩ = some (.slice B1 (foundL ks).length x1) := hS.b6.cell 0
  have x1' : w6.cell? ⟨w3.heap.size, 1, none⟩ = some (.slice B2 (foundS ks).length x2) := hS.b6.cell 1
  have y0 : w6.cell? ⟨w5.heap.size, 0, none⟩ = some (.slice G1 (foundL ks).length y1) := hS.b8.cell 0
  have y1' : w6.cell? ⟨w5.heap.size, 1, none⟩ = some (.slice G2 (foundS ks).length y2) := hS.b8.cell 1
  have HG := Lib.hid hS
  clear hS
  generalize foundE ks = fe
  go_wp2_with fail
  obtain ⟨q1, r1⟩ := HG.out.x1
  obtain ⟨q2, r2⟩ := HG.out.x2
  obtain ⟨q3, r3⟩ := HG.out.y1
  obtain ⟨q4, r4⟩ := HG.out.y2
  refine (equal_any B1 B2 G1 G2 _ x1 _ x2 _ y1 _ y2 0 0 0 0 (foundL ks) (foundL ks) (foundS ks) (foundS ks) w6 (own_rdz r1) (own_rdz r2) (own_rdz r3) (own_rdz r4) (by unfold maxLen; omega) (by unfold maxLen; omega) (by unfold maxLen; omega) (by unfold maxLen; omega)).mono ?_
  rw [eqS_same]
  rintro e w7 ⟨rfl, hb7⟩
  have HJ := Lib.hid (HG.out.lf.on hb7)
  clear hb7 HG x0 x1' y0 y1' r1 r2 r3 r4
  go_wp2_with fail
  refine (stayed_any X A n C c 0 L3 _ w.heap.size ks w7 (own_rdz HJ.out.own) (H3.out.below HJ.out.below (Nat.le_refl _)) (Nat.le_refl _) HJ.out.below.size hn).mono ?_
  rintro e w8 ⟨rfl, hb8⟩
  have HL := Lib.hid (HJ.out.on hb8)
  clear hb8 HJ
  have KB : ∀ W, Below w8.heap.size w8 W → W.cell? ⟨w.heap.size, 0, none⟩ = some (.slice A1 n1 c1) ∧ W.cell? ⟨w.heap.size, 1, none⟩ = some (.slice A2 n2 c2) :=
    fun W hb => ⟨(HL.out.on hb).b0.cell 0, (HL.out.on hb).b0.cell 1⟩
  have HKB := Lib.hid KB
  clear KB
  go_wp2
  go_region_held3 (fun W => W.cell? ⟨w.heap.size, 0, none⟩ = some (.slice A1 n1 c1) ∧ W.cell? ⟨w.heap.size, 1, none⟩ = some (.slice A2 n2 c2))
    ((refine HKB.out _ ?_; first | exact HR1.out.1 | exact ⟨rfl, rfl, rfl, Nat.le_refl _, fun _ _ => rfl⟩))
    (first
      | (go_at_call 36
         refine (faults_bad A1 A2 X n1 c1 n2 c2 n C L1 L2 ls st _ (H1.out.up HL.out.below HL.out.below.size).drew (H2.out.up HL.out.below HL.out.below.size).drew e2 e1 hbad).mono ?_
         rintro e v1 ⟨rfl, hb⟩
         have hbx : Below w8.heap.size w8 v1 := ⟨hb.os, hb.tape, hb.output, hb.size, hb.block⟩
         have HR1 := Lib.hid (And.intro hbx hbx)
         clear hb hbx))
  have HM2 := Lib.hid (HL.out.on HR1.out.1)
  clear HR1 HKB HL
  go_wp2_with fail
  refine (stayed_any X A n C c 0 L3 _ w.heap.size ks v1 (own_rdz HM2.out.own) (H3.out.below HM2.out.below (Nat.le_refl _)) (Nat.le_refl _) HM2.out.below.size hn).mono ?_
  rintro e w9 ⟨rfl, hb9⟩
  have HN := Lib.hid (HM2.out.on hb9)
  clear hb9 HM2
  have c00 : w9.cell? ⟨w.heap.size, 0, none⟩ = some (.slice A1 n1 c1) := HN.out.b0.cell 0
  have c01 : w9.cell? ⟨w.heap.size, 1, none⟩ = some (.slice A2 n2 c2) := HN.out.b0.cell 1
  go_wp2_with fail
  refine (refMay_any A1 A2 n1 c1 n2 c2 L1 L2 ls st w9 (H1.out.up HN.out.below HN.out.below.size) (H2.out.up HN.out.below HN.out.below.size) e2 e1).mono ?_
  rintro e w10 ⟨rfl, hb10⟩
  have HO := Lib.hid (HN.out.on hb10)
  clear hb10 HN c00 c01
  cases hm : may ls st
  case' false =>
    clear hm hbad
    go_wp2_with fail
  case' true =>
    have hne : n ≠ n1 := by
      rcases hbad with h | h
      · rw [hm] at h; cases h
      · exact h
    have hbn : ((n1 : Int) != (n : Int)) = true := by simp; omega
    have c00 : w10.cell? ⟨w.heap.size, 0, none⟩ = some (.slice A1 n1 c1) := HO.out.b0.cell 0
    clear hm hbad hne
    go_wp2_with fail
  all_goals
    refine (wakes_any w10).mono ?_
    rintro e w11 ⟨rfl, hb11⟩
    have HP := Lib.hid (HO.out.on hb11)
    clear hb11
    go_wp2
    go_ret
    exact ⟨rfl, HP.out.below⟩
end Go.Proofs.Ytbjfbmienlojkaa
