/- SchemePrints: the walk of the law where the first scheme may be. -/
import Derived.Test.YtbjfbmienlojkaaT38
import Derived.Test.YtbjfbmienlojkaaT39
import Derived.Test.YtbjfbmienlojkaaT40
import Derived.Deep.RegionHeld3
namespace Go.Proofs.Ytbjfbmienlojkaa
open Go.RowKit

/-- memory behind the calls of the law: the two boxes of the arguments, and two schemes that were made -/
structure PlSt (w0 : World) (a1 a2 b1 b2 c1 c2 d1 d2 : Value) (n m : Nat) (cs ds : List (Int × Int)) (es fs : List Int) (q8 q11 q13 : Nat) (w : World) : Prop where
  two : TwoIn w0 a1 a2 b1 b2 w
  b11 : Blk w q11 26 #[c1, c2]
  b13 : Blk w q13 26 #[d1, d2]
  cr1 : w.ownsRow q8 66 2 c1 n (prs cs)
  cr2 : w.ownsRow q8 3 1 c2 m (es.map (Value.int .i64))
  dr1 : w.ownsRow q8 66 2 d1 n (prs ds)
  dr2 : w.ownsRow q8 3 1 d2 m (fs.map (Value.int .i64))
  s1 : w0.heap.size + 2 ≤ q8
  s2 : q8 ≤ q11
  s3 : q8 ≤ q13
section
variable {w0 : World} {a1 a2 b1 b2 c1 c2 d1 d2 : Value} {n m : Nat} {cs ds : List (Int × Int)} {es fs : List Int} {q8 q11 q13 : Nat} {w w' : World}
theorem PlSt.on (h : PlSt w0 a1 a2 b1 b2 c1 c2 d1 d2 n m cs ds es fs q8 q11 q13 w) (hb : Below w.heap.size w w') : PlSt w0 a1 a2 b1 b2 c1 c2 d1 d2 n m cs ds es fs q8 q11 q13 w' :=
  ⟨h.two.on hb, h.b11.below hb h.b11.lt, h.b13.below hb h.b13.lt, own_stay h.cr1 (Only.of_below hb _), own_stay h.cr2 (Only.of_below hb _), own_stay h.dr1 (Only.of_below hb _), own_stay h.dr2 (Only.of_below hb _), h.s1, h.s2, h.s3⟩
/-- a change of blocks between the boxes and q8 -/
theorem PlSt.mid {S : Nat → Prop} (h : PlSt w0 a1 a2 b1 b2 c1 c2 d1 d2 n m cs ds es fs q8 q11 q13 w) (ho : Only S w w') (hS : ∀ k, S k → w0.heap.size + 2 ≤ k ∧ k < q8) : PlSt w0 a1 a2 b1 b2 c1 c2 d1 d2 n m cs ds es fs q8 q11 q13 w' := by
  have k1 := h.s1
  have k2 := h.s2
  have k3 := h.s3
  have hn : ∀ {k : Nat}, q8 ≤ k → ¬ S k := fun hk hs => by have := (hS _ hs).2; omega
  refine ⟨⟨h.two.b0.only ho (fun hs => by have := (hS _ hs).1; omega), h.two.b1.only ho (fun hs => by have := (hS _ hs).1; omega), h.two.below.trans (ho.below h.two.below.size (fun k hk hs => by have := (hS _ hs).1; omega))⟩,
    h.b11.only ho (hn k2), h.b13.only ho (hn k3), own_only h.cr1 ho (fun k hb _ _ => hn hb), own_only h.cr2 ho (fun k hb _ _ => hn hb), own_only h.dr1 ho (fun k hb _ _ => hn hb), own_only h.dr2 ho (fun k hb _ _ => hn hb), k1, k2, k3⟩
end
theorem own_rdw {w : World} {base : Nat} {e : TypeId} {size : Nat} {A : Option Addr} {c n : Nat} {xs : List Value} (h : w.ownsRow base e size (.slice A n c) n xs) : Rd w 0 w.heap.size size A n xs := (own_rd h).more (Nat.zero_le _) (Nat.le_refl _)
theorem eqS_self (l : List (Int × Int)) (s : List Int) : eqS l l s s = true := by simp [eqS]

set_option maxHeartbeats 4000000 in
set_option maxRecDepth 100000 in
theorem schemePrints_ok (A1 A2 B1 B2 : Option Addr) (c1 c2 m1 d1 m2 d2 L1 L2 L3 L4 : Nat) (l1 l2 : List (Int × Int)) (s1 s2 : List Int) (w : World)
    (h1 : Rd w L1 w.heap.size 2 A1 l1.length (prs l1)) (h2 : Rd w L2 w.heap.size 1 A2 s1.length (s1.map (Value.int .i64))) (h3 : Rd w L3 w.heap.size 2 B1 m1 (prs l2)) (h4 : Rd w L4 w.heap.size 1 B2 m2 (s2.map (Value.int .i64)))
    (e3 : m1 ≤ maxLen) (e4 : m2 ≤ maxLen) (k1 : l1.length ≤ c1) (k2 : c1 ≤ maxLen) (hm : may l1 s1 = true) :
    Calls Try.prog 6 #[.agg #[.slice A1 l1.length c1, .slice A2 s1.length c2], .agg #[.slice B1 m1 d1, .slice B2 m2 d2]] w fun e w' => e = .returned (.bool true) ∧ Below w.heap.size w w' := by
  have n1 := mayLen hm
  have n2 := mayStan hm
  have e1 : l1.length ≤ maxLen := by unfold maxLen; omega
  have e2 : s1.length ≤ maxLen := by unfold maxLen; omega
  have H1 := Lib.hid h1
  have H2 := Lib.hid h2
  have H3 := Lib.hid h3
  have H4 := Lib.hid h4
  have HM := Lib.hid hm
  clear h1 h2 h3 h4 hm
  go_enter Try.func6, Try.ntmps6
  go_upto_region 1 with (fail)
  refine wp_abs (TwoIn w (.slice A1 l1.length c1) (.slice A2 s1.length c2) (.slice B1 m1 d1) (.slice B2 m2 d2)) (TwoIn.init w _ _ _ _) ?_
  intro w1 hw
  have HW := Lib.hid hw
  clear hw
  go_wp2_with fail
  refine (wakes_any w1).mono ?_
  rintro e w2 ⟨rfl, hb⟩
  have HX := Lib.hid (HW.out.on hb)
  clear hb HW
  have c0 : w2.cell? ⟨w.heap.size, 0, none⟩ = some (.slice A1 l1.length c1) := HX.out.b0.cell 0
  have c1' : w2.cell? ⟨w.heap.size, 1, none⟩ = some (.slice A2 s1.length c2) := HX.out.b0.cell 1
  go_wp2_with fail
  refine (refMay_any A1 A2 l1.length c1 s1.length c2 L1 L2 l1 s1 w2 (H1.out.up HX.out.below HX.out.below.size) (H2.out.up HX.out.below HX.out.below.size) e2 e1).mono ?_
  rintro e w3 ⟨rfl, hb⟩
  have HY := Lib.hid (HX.out.on hb)
  clear hb HX c0 c1'
  rw [HM.out]
  have c0 : w3.cell? ⟨w.heap.size, 0, none⟩ = some (.slice A1 l1.length c1) := HY.out.b0.cell 0
  have c1' : w3.cell? ⟨w.heap.size, 1, none⟩ = some (.slice A2 s1.length c2) := HY.out.b0.cell 1
  have d0 : w3.cell? ⟨w.heap.size + 1, 0, none⟩ = some (.slice B1 m1 d1) := HY.out.b1.cell 0
  have d1' : w3.cell? ⟨w.heap.size + 1, 1, none⟩ = some (.slice B2 m2 d2) := HY.out.b1.cell 1
  go_wp2_with fail
  refine (same_any A1 A2 B1 B2 l1.length c1 s1.length c2 m1 d1 m2 d2 L1 L2 L3 L4 l1 l2 s1 s2 w3 (H1.out.up HY.out.below HY.out.below.size) (H2.out.up HY.out.below HY.out.below.size) (H3.out.up HY.out.below HY.out.below.size) (H4.out.up HY.out.below HY.out.below.size) e1 e2 e3 e4).mono ?_
  rintro e w4 ⟨rfl, hb⟩
  have HZ := Lib.hid (HY.out.on hb)
  clear hb HY c0 c1' d0 d1'
  have d0 : w4.cell? ⟨w.heap.size + 1, 0, none⟩ = some (.slice B1 m1 d1) := HZ.out.b1.cell 0
  have d1' : w4.cell? ⟨w.heap.size + 1, 1, none⟩ = some (.slice B2 m2 d2) := HZ.out.b1.cell 1
  go_wp2_with fail
  refine (refMay_any B1 B2 m1 d1 m2 d2 L3 L4 l2 s2 w4 (H3.out.up HZ.out.below HZ.out.below.size) (H4.out.up HZ.out.below HZ.out.below.size) e4 e3).mono ?_
  rintro e w5 ⟨rfl, hb⟩
  have HQ := Lib.hid (HZ.out.on hb)
  clear hb HZ d0 d1'
  cases hm2 : may l2 s2
  case' false =>
    rw [show sameB l1 l2 s1 s2 = false by unfold sameB; rw [hm2, Bool.false_and, Bool.and_false]]
    clear hm2
    go_upto_region 9 with (fail)
    refine wp_abs (TwoIn w (.slice A1 l1.length c1) (.slice A2 s1.length c2) (.slice B1 m1 d1) (.slice B2 m2 d2)) HQ.out ?_
  case' true =>
    rw [show sameB l1 l2 s1 s2 = eqS l1 l2 s1 s2 by unfold sameB; rw [hm2, HM.out, Bool.true_and, Bool.true_and]]
    clear hm2
    have c0 : w5.cell? ⟨w.heap.size, 0, none⟩ = some (.slice A1 l1.length c1) := HQ.out.b0.cell 0
    have c1' : w5.cell? ⟨w.heap.size, 1, none⟩ = some (.slice A2 s1.length c2) := HQ.out.b0.cell 1
    have d0 : w5.cell? ⟨w.heap.size + 1, 0, none⟩ = some (.slice B1 m1 d1) := HQ.out.b1.cell 0
    have d1' : w5.cell? ⟨w.heap.size + 1, 1, none⟩ = some (.slice B2 m2 d2) := HQ.out.b1.cell 1
    go_wp2_with fail
    refine (equal_any A1 A2 B1 B2 l1.length c1 s1.length c2 m1 d1 m2 d2 L1 L2 L3 L4 l1 l2 s1 s2 w5 (H1.out.up HQ.out.below HQ.out.below.size) (H2.out.up HQ.out.below HQ.out.below.size) (H3.out.up HQ.out.below HQ.out.below.size) (H4.out.up HQ.out.below HQ.out.below.size) e1 e2 e3 e4).mono ?_
    rintro e w6 ⟨rfl, hb⟩
    have HQ2 := Lib.hid (HQ.out.on hb)
    clear hb c0 c1' d0 d1'
    generalize eqS l1 l2 s1 s2 = eb
    go_upto_region 9 with (fail)
    refine wp_abs (TwoIn w (.slice A1 l1.length c1) (.slice A2 s1.length c2) (.slice B1 m1 d1) (.slice B2 m2 d2)) HQ2.out ?_
    clear HQ2
  all_goals
    clear HQ
    intro wa hA
    have HA := Lib.hid hA
    have c0 : wa.cell? ⟨w.heap.size, 0, none⟩ = some (.slice A1 l1.length c1) := hA.b0.cell 0
    have c1' : wa.cell? ⟨w.heap.size, 1, none⟩ = some (.slice A2 s1.length c2) := hA.b0.cell 1
    clear hA
    go_wp2_with fail
    refine (refCopy_any A1 A2 l1.length c1 s1.length c2 L1 L2 l1 s1 wa (H1.out.up HA.out.below HA.out.below.size) (H2.out.up HA.out.below HA.out.below.size) (by omega) (by omega)).mono ?_
    rintro e wb ⟨O1, x1, O2, x2, rfl, o1, o2, hb⟩
    have hsz := HA.out.b1.lt
    have hab := hb.size
    have HB := Lib.hid (And.intro (HA.out.on hb) (And.intro o1 (And.intro o2 (And.intro (own_cap o1) (own_cap o2)))))
    clear hb HA c0 c1' o1 o2
    go_upto_region 10 with (fail)
    refine wp_abs (fun wx => TwoIn w (.slice A1 l1.length c1) (.slice A2 s1.length c2) (.slice B1 m1 d1) (.slice B2 m2 d2) wx ∧ Blk wx wb.heap.size 26 #[.slice O1 l1.length x1, .slice O2 s1.length x2] ∧
        wx.ownsRow wa.heap.size 66 2 (.slice O1 l1.length x1) l1.length (prs l1) ∧ wx.ownsRow wa.heap.size 3 1 (.slice O2 s1.length x2) s1.length (s1.map (Value.int .i64)) ∧ wb.heap.size < wx.heap.size)
      ⟨HB.out.1.on ((Below.refl _ _).alloc (Nat.le_refl _) _), Blk.new _ _ _, HB.out.2.1.alloc _, HB.out.2.2.1.alloc _, by simp⟩ ?_
    rintro wx ⟨t0, t1, t2, t3, t4⟩
    have u1 := HB.out.2.2.2.1
    have u2 := HB.out.2.2.2.2
    have v1 : ∀ k, (Value.slice O1 l1.length x1).ownBlock = some k → wa.heap.size ≤ k ∧ k < wb.heap.size := fun k hk => HB.out.2.1.lt k hk
    have v2 : ∀ k, (Value.slice O2 s1.length x2).ownBlock = some k → wa.heap.size ≤ k ∧ k < wb.heap.size := fun k hk => HB.out.2.2.1.lt k hk
    have c0 : wx.cell? ⟨wb.heap.size, 0, none⟩ = some (.slice O1 l1.length x1) := t1.cell 0
    have c1' : wx.cell? ⟨wb.heap.size, 1, none⟩ = some (.slice O2 s1.length x2) := t1.cell 1
    have HV := Lib.hid (And.intro v1 v2)
    have HC := Lib.hid (And.intro t0 (And.intro t1 (And.intro t2 (And.intro t3 t4))))
    clear t0 t1 t2 t3 v1 v2 HB
    go_wp2_with fail
    refine (print_any O1 O2 l1.length x1 s1.length x2 0 0 l1 s1 wx (own_rdw HC.out.2.2.1) (own_rdw HC.out.2.2.2.1) e2 e1 u1.1 u1.2).mono ?_
    rw [HM.out]
    rintro e wy ⟨rfl, hb⟩
    simp only [errOf]
    have HD := Lib.hid (And.intro (HC.out.1.on hb) (And.intro (HC.out.2.1.below hb HC.out.2.1.lt) (And.intro (own_stay HC.out.2.2.1 (Only.of_below hb (fun _ => False))) (And.intro (own_stay HC.out.2.2.2.1 (Only.of_below hb (fun _ => False))) (Nat.lt_of_lt_of_le HC.out.2.2.2.2 hb.size)))))
    clear hb HC c0 c1' t4
    have c0 : wy.cell? ⟨wb.heap.size, 0, none⟩ = some (.slice O1 l1.length x1) := HD.out.2.1.cell 0
    have c1' : wy.cell? ⟨wb.heap.size, 1, none⟩ = some (.slice O2 s1.length x2) := HD.out.2.1.cell 1
    go_wp2_with fail
    refine (canon_ok O1 O2 x1 x2 0 0 l1 s1 wy (own_rdw HD.out.2.2.1) (own_rdw HD.out.2.2.2.1) HM.out).mono ?_
    rintro e wz ⟨C1, y1, C2, y2, rfl, r1, r2, hb⟩
    have HE := Lib.hid (And.intro (HD.out.1.on hb) (And.intro (HD.out.2.1.below hb HD.out.2.1.lt) (And.intro (own_stay HD.out.2.2.1 (Only.of_below hb (fun _ => False))) (And.intro (own_stay HD.out.2.2.2.1 (Only.of_below hb (fun _ => False))) (And.intro r1 (And.intro r2 (And.intro HD.out.2.2.2.2 hb.size)))))))
    clear hb HD c0 c1' r1 r2
    go_upto_region 12 with (fail)
    refine wp_abs (fun wx => TwoIn w (.slice A1 l1.length c1) (.slice A2 s1.length c2) (.slice B1 m1 d1) (.slice B2 m2 d2) wx ∧ Blk wx wb.heap.size 26 #[.slice O1 l1.length x1, .slice O2 s1.length x2] ∧
        wx.ownsRow wa.heap.size 66 2 (.slice O1 l1.length x1) l1.length (prs l1) ∧ wx.ownsRow wa.heap.size 3 1 (.slice O2 s1.length x2) s1.length (s1.map (Value.int .i64)) ∧
        Blk wx wz.heap.size 26 #[.slice C1 l1.length y1, .slice C2 s1.length y2] ∧ wx.ownsRow wy.heap.size 66 2 (.slice C1 l1.length y1) l1.length (prs (canonF l1)) ∧ wx.ownsRow wy.heap.size 3 1 (.slice C2 s1.length y2) s1.length (s1.map (Value.int .i64)) ∧ wz.heap.size < wx.heap.size ∧ wb.heap.size < wy.heap.size ∧ wy.heap.size ≤ wz.heap.size)
      ⟨HE.out.1.on ((Below.refl _ _).alloc (Nat.le_refl _) _), HE.out.2.1.alloc _, HE.out.2.2.1.alloc _, HE.out.2.2.2.1.alloc _, Blk.new _ _ _, HE.out.2.2.2.2.1.alloc _, HE.out.2.2.2.2.2.1.alloc _, by simp, HE.out.2.2.2.2.2.2⟩ ?_
    clear HE
    rintro wx2 ⟨t0, t1, t2, t3, t4, t5, t6, t7, t8, t9⟩
    have c0 : wx2.cell? ⟨wb.heap.size, 0, none⟩ = some (.slice O1 l1.length x1) := t1.cell 0
    have c1' : wx2.cell? ⟨wb.heap.size, 1, none⟩ = some (.slice O2 s1.length x2) := t1.cell 1
    have HF := Lib.hid (And.intro t0 (And.intro t1 (And.intro t2 (And.intro t3 (And.intro t4 (And.intro t5 t6))))))
    clear t0 t1 t2 t3 t4 t5 t6
    go_wp2_with fail
    refine (turn_ok O1 O2 x1 x2 0 0 l1 s1 wx2 (own_rdw HF.out.2.2.1) (own_rdw HF.out.2.2.2.1) HM.out).mono ?_
    rintro e wt ⟨D1, z1, D2, z2, rfl, r1, r2, hb⟩
    have hbs := hb.size
    have HG := Lib.hid (show TwoIn w (.slice A1 l1.length c1) (.slice A2 s1.length c2) (.slice B1 m1 d1) (.slice B2 m2 d2) wt ∧ Blk wt wb.heap.size 26 #[.slice O1 l1.length x1, .slice O2 s1.length x2] ∧
        wt.ownsRow wa.heap.size 66 2 (.slice O1 l1.length x1) l1.length (prs l1) ∧ wt.ownsRow wa.heap.size 3 1 (.slice O2 s1.length x2) s1.length (s1.map (Value.int .i64)) ∧
        Blk wt wz.heap.size 26 #[.slice C1 l1.length y1, .slice C2 s1.length y2] ∧ wt.ownsRow wy.heap.size 66 2 (.slice C1 l1.length y1) l1.length (prs (canonF l1)) ∧ wt.ownsRow wy.heap.size 3 1 (.slice C2 s1.length y2) s1.length (s1.map (Value.int .i64)) ∧
        wt.ownsRow wx2.heap.size 66 2 (.slice D1 l1.length z1) l1.length (prs l1.reverse) ∧ wt.ownsRow wx2.heap.size 3 1 (.slice D2 s1.length z2) s1.length (s1.reverse.map (Value.int .i64)) from
      ⟨HF.out.1.on hb, HF.out.2.1.below hb HF.out.2.1.lt, own_stay HF.out.2.2.1 (Only.of_below hb _), own_stay HF.out.2.2.2.1 (Only.of_below hb _), HF.out.2.2.2.2.1.below hb HF.out.2.2.2.2.1.lt, own_stay HF.out.2.2.2.2.2.1 (Only.of_below hb _), own_stay HF.out.2.2.2.2.2.2 (Only.of_below hb _), r1, r2⟩)
    clear hb HF c0 c1' r1 r2
    go_upto_region 13 with (fail)
    refine wp_abs (fun wx => PlSt w (.slice A1 l1.length c1) (.slice A2 s1.length c2) (.slice B1 m1 d1) (.slice B2 m2 d2) (.slice C1 l1.length y1) (.slice C2 s1.length y2) (.slice D1 l1.length z1) (.slice D2 s1.length z2) l1.length s1.length (canonF l1) l1.reverse s1 s1.reverse wb.heap.size wz.heap.size wt.heap.size wx ∧
        Blk wx wb.heap.size 26 #[.slice O1 l1.length x1, .slice O2 s1.length x2] ∧ wx.ownsRow wa.heap.size 66 2 (.slice O1 l1.length x1) l1.length (prs l1) ∧ wx.ownsRow wa.heap.size 3 1 (.slice O2 s1.length x2) s1.length (s1.map (Value.int .i64)))
      ⟨⟨HG.out.1.on ((Below.refl _ _).alloc (Nat.le_refl _) _), HG.out.2.2.2.2.1.alloc _, Blk.new _ _ _, own_more (HG.out.2.2.2.2.2.1.alloc _) (by omega), own_more (HG.out.2.2.2.2.2.2.1.alloc _) (by omega), own_more (HG.out.2.2.2.2.2.2.2.1.alloc _) (by omega), own_more (HG.out.2.2.2.2.2.2.2.2.alloc _) (by omega), by omega, by omega, by omega⟩, HG.out.2.1.alloc _, HG.out.2.2.1.alloc _, HG.out.2.2.2.1.alloc _⟩ ?_
    clear HG
    rintro wx3 ⟨p0, p1, p2, p3⟩
    have HP := Lib.hid (And.intro p0 (And.intro p1 (And.intro p2 p3)))
    have c0 : wx3.cell? ⟨w.heap.size, 0, none⟩ = some (.slice A1 l1.length c1) := p0.two.b0.cell 0
    have c1' : wx3.cell? ⟨w.heap.size, 1, none⟩ = some (.slice A2 s1.length c2) := p0.two.b0.cell 1
    clear p0 p1 p2 p3
    go_wp2_with fail
    refine (refPrint_any A1 A2 l1.length c1 s1.length c2 L1 L2 l1 s1 wx3 (H1.out.up HP.out.1.two.below HP.out.1.two.below.size) (H2.out.up HP.out.1.two.below HP.out.1.two.below.size) k1 k2 HM.out).mono ?_
    rintro e w7 ⟨rfl, hb⟩
    have HP7 := Lib.hid (And.intro (HP.out.1.on hb) (And.intro (HP.out.2.1.below hb HP.out.2.1.lt) (And.intro (own_stay HP.out.2.2.1 (Only.of_below hb (fun _ => False))) (own_stay HP.out.2.2.2 (Only.of_below hb (fun _ => False))))))
    clear hb HP c0 c1'
    generalize printF l1 s1 = tx
    have c0 : w7.cell? ⟨w.heap.size, 0, none⟩ = some (.slice A1 l1.length c1) := HP7.out.1.two.b0.cell 0
    have c1' : w7.cell? ⟨w.heap.size, 1, none⟩ = some (.slice A2 s1.length c2) := HP7.out.1.two.b0.cell 1
    have d0 : w7.cell? ⟨wb.heap.size, 0, none⟩ = some (.slice O1 l1.length x1) := HP7.out.2.1.cell 0
    have d1' : w7.cell? ⟨wb.heap.size, 1, none⟩ = some (.slice O2 s1.length x2) := HP7.out.2.1.cell 1
    go_wp2_with fail
    refine (equal_any O1 O2 A1 A2 l1.length x1 s1.length x2 l1.length c1 s1.length c2 0 0 L1 L2 l1 l1 s1 s1 w7 (own_rdw HP7.out.2.2.1) (own_rdw HP7.out.2.2.2) (H1.out.up HP7.out.1.two.below HP7.out.1.two.below.size) (H2.out.up HP7.out.1.two.below HP7.out.1.two.below.size) e1 e2 e1 e2).mono ?_
    rw [eqS_self]
    rintro e w8 ⟨rfl, hb⟩
    have HP8 := Lib.hid (And.intro (HP7.out.1.on hb) (And.intro (HP7.out.2.1.below hb HP7.out.2.1.lt) (And.intro (own_stay HP7.out.2.2.1 (Only.of_below hb (fun _ => False))) (own_stay HP7.out.2.2.2 (Only.of_below hb (fun _ => False))))))
    clear hb HP7 c0 c1' d0 d1'
    have d0 : w8.cell? ⟨wb.heap.size, 0, none⟩ = some (.slice O1 l1.length x1) := HP8.out.2.1.cell 0
    have d1' : w8.cell? ⟨wb.heap.size, 1, none⟩ = some (.slice O2 s1.length x2) := HP8.out.2.1.cell 1
    have hb8 : wa.heap.size ≤ w8.heap.size := by have := HP8.out.2.1.lt; omega
    go_wp2_with fail
    refine (spoil_any wa.heap.size O1 O2 l1.length x1 s1.length x2 _ _ w8 HP8.out.2.2.1 HP8.out.2.2.2 (by omega) (by omega) hb8).mono ?_
    rintro e w9 ⟨rfl, hO⟩
    have HP9 := Lib.hid (HP8.out.1.mid hO (fun k hk => by
      rcases hk with hk | hk
      · have := HV.out.1 k hk; omega
      · have := HV.out.2 k hk; omega))
    clear hO HP8 d0 d1' hb8
    go_wp2
    have KB : ∀ W, Below w9.heap.size w9 W → W.cell? ⟨w.heap.size, 0, none⟩ = some (.slice A1 l1.length c1) ∧ W.cell? ⟨w.heap.size, 1, none⟩ = some (.slice A2 s1.length c2) ∧ W.cell? ⟨wz.heap.size, 0, none⟩ = some (.slice C1 l1.length y1) ∧ W.cell? ⟨wz.heap.size, 1, none⟩ = some (.slice C2 s1.length y2) ∧ W.cell? ⟨wt.heap.size, 0, none⟩ = some (.slice D1 l1.length z1) ∧ W.cell? ⟨wt.heap.size, 1, none⟩ = some (.slice D2 s1.length z2) :=
      fun W hb => ⟨(HP9.out.on hb).two.b0.cell 0, (HP9.out.on hb).two.b0.cell 1, (HP9.out.on hb).b11.cell 0, (HP9.out.on hb).b11.cell 1, (HP9.out.on hb).b13.cell 0, (HP9.out.on hb).b13.cell 1⟩
    have HKB := Lib.hid KB
    clear KB
    go_region_held3 (fun W => W.cell? ⟨w.heap.size, 0, none⟩ = some (.slice A1 l1.length c1) ∧ W.cell? ⟨w.heap.size, 1, none⟩ = some (.slice A2 s1.length c2) ∧ W.cell? ⟨wz.heap.size, 0, none⟩ = some (.slice C1 l1.length y1) ∧ W.cell? ⟨wz.heap.size, 1, none⟩ = some (.slice C2 s1.length y2) ∧ W.cell? ⟨wt.heap.size, 0, none⟩ = some (.slice D1 l1.length z1) ∧ W.cell? ⟨wt.heap.size, 1, none⟩ = some (.slice D2 s1.length z2))
      ((refine HKB.out _ ?_; first | exact HR4.out | exact HR3.out.1 | exact HR2.out | exact HR1.out.1 | exact ⟨rfl, rfl, rfl, Nat.le_refl _, fun _ _ => rfl⟩))
      (first
        | (go_at_call 30
           refine (refCanon_any A1 A2 l1.length c1 s1.length c2 L1 L2 l1 s1 _ (H1.out.up HP9.out.two.below HP9.out.two.below.size).drew (H2.out.up HP9.out.two.below HP9.out.two.below.size).drew (by omega) (by omega)).mono ?_
           rintro e v1 ⟨G1, g1, G2, g2, rfl, r1, r2, hb⟩
           have hbx : Below w9.heap.size w9 v1 := ⟨hb.os, hb.tape, hb.output, hb.size, hb.block⟩
           have HR1 := Lib.hid (And.intro hbx (And.intro r1 r2))
           clear hb hbx r1 r2)
        | (go_at_call 16
           (with_reducible refine (equal_any C1 C2 G1 G2 l1.length y1 s1.length y2 l1.length g1 s1.length g2 0 0 0 0 (canonF l1) (canonF l1) s1 s1 v1 (own_rdw (HP9.out.on HR1.out.1).cr1) (own_rdw (HP9.out.on HR1.out.1).cr2) (own_rdw HR1.out.2.1) (own_rdw HR1.out.2.2) e1 e2 e1 e2).mono ?_)
           rw [eqS_self]
           rintro e v2 ⟨rfl, hb⟩
           have HR2 := Lib.hid (HR1.out.1.trans (hb.mono HR1.out.1.size))
           clear hb)
        | (go_at_call 31
           refine (refTurn_any A1 A2 l1.length c1 s1.length c2 L1 L2 l1 s1 v2 (H1.out.up (HP9.out.on HR2.out).two.below (HP9.out.on HR2.out).two.below.size) (H2.out.up (HP9.out.on HR2.out).two.below (HP9.out.on HR2.out).two.below.size) (by omega) (by omega)).mono ?_
           rintro e v3 ⟨T1, t1, T2, t2, rfl, r1, r2, hb⟩
           have HR3 := Lib.hid (And.intro (HR2.out.trans (hb.mono HR2.out.size)) (And.intro r1 r2))
           clear hb r1 r2)
        | (go_at_call 16
           (with_reducible refine (equal_any D1 D2 T1 T2 l1.length z1 s1.length z2 l1.length t1 s1.length t2 0 0 0 0 l1.reverse l1.reverse s1.reverse s1.reverse v3 (own_rdw (HP9.out.on HR3.out.1).dr1) (own_rdw (HP9.out.on HR3.out.1).dr2) (own_rdw HR3.out.2.1) (own_rdw HR3.out.2.2) e1 e2 e1 e2).mono ?_)
           rw [eqS_self]
           rintro e v4 ⟨rfl, hb⟩
           have HR4 := Lib.hid (HR3.out.1.trans (hb.mono HR3.out.1.size))
           clear hb))
    have HS := Lib.hid (HP9.out.on HR4.out)
    clear HR4 HR3 HR2 HR1 HKB HP9
    go_wp2
    have KB : ∀ W, Below v4.heap.size v4 W → W.cell? ⟨w.heap.size, 0, none⟩ = some (.slice A1 l1.length c1) ∧ W.cell? ⟨w.heap.size, 1, none⟩ = some (.slice A2 s1.length c2) :=
      fun W hb => ⟨(HS.out.on hb).two.b0.cell 0, (HS.out.on hb).two.b0.cell 1⟩
    have HKB := Lib.hid KB
    clear KB
    go_region_held3 (fun W => W.cell? ⟨w.heap.size, 0, none⟩ = some (.slice A1 l1.length c1) ∧ W.cell? ⟨w.heap.size, 1, none⟩ = some (.slice A2 s1.length c2))
      ((refine HKB.out _ ?_; first | exact HR3.out | exact HR2.out | exact HR1.out.1 | exact ⟨rfl, rfl, rfl, Nat.le_refl _, fun _ _ => rfl⟩))
      (first
        | (go_at_call 26
           refine (refCopy_any A1 A2 l1.length c1 s1.length c2 L1 L2 l1 s1 _ (H1.out.up HS.out.two.below HS.out.two.below.size).drew (H2.out.up HS.out.two.below HS.out.two.below.size).drew (by omega) (by omega)).mono ?_
           rintro e v1 ⟨G1, g1, G2, g2, rfl, r1, r2, hb⟩
           have hbx : Below v4.heap.size v4 v1 := ⟨hb.os, hb.tape, hb.output, hb.size, hb.block⟩
           have HR1 := Lib.hid (And.intro hbx (And.intro r1 r2))
           clear hb hbx r1 r2)
        | (go_at_call 24
           refine (same_any A1 A2 G1 G2 l1.length c1 s1.length c2 l1.length g1 s1.length g2 L1 L2 0 0 l1 l1 s1 s1 v1 (H1.out.up (HS.out.on HR1.out.1).two.below (HS.out.on HR1.out.1).two.below.size) (H2.out.up (HS.out.on HR1.out.1).two.below (HS.out.on HR1.out.1).two.below.size) (own_rdw HR1.out.2.1) (own_rdw HR1.out.2.2) e1 e2 e1 e2).mono ?_
           rw [show sameB l1 l1 s1 s1 = true by unfold sameB; rw [HM.out, eqS_self]; rfl]
           rintro e v2 ⟨rfl, hb⟩
           have HR2 := Lib.hid (HR1.out.1.trans (hb.mono HR1.out.1.size))
           clear hb)
        | (go_at_call 13
           refine (wakes_any v2).mono ?_
           rintro e v3 ⟨rfl, hb⟩
           have HR3 := Lib.hid (HR2.out.trans (hb.mono HR2.out.size))
           clear hb))
    all_goals
      have HT := Lib.hid (HS.out.on HR3.out)
      go_wp2
      go_ret
      exact ⟨rfl, HT.out.two.below⟩
end Go.Proofs.Ytbjfbmienlojkaa
