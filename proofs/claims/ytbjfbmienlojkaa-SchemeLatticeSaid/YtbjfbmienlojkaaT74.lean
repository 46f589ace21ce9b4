/- SchemeMeets: the walk's head. -/
import Derived.Test.YtbjfbmienlojkaaT69
import Derived.Test.YtbjfbmienlojkaaT66
import Derived.Test.YtbjfbmienlojkaaT71
import Derived.Test.YtbjfbmienlojkaaT72
import Derived.Test.YtbjfbmienlojkaaT12
import Derived.Deep.RegionHeld3
import Derived.Deep.DeepCutAuto
namespace Go.Proofs.Ytbjfbmienlojkaa
open Go.RowKit Go.Maps

theorem own_rdm {w : World} {base : Nat} {e : TypeId} {size : Nat} {A : Option Addr} {c n : Nat} {xs : List Value} (h : w.ownsRow base e size (.slice A n c) n xs) : Rd w 0 w.heap.size size A n xs := (own_rd h).more (Nat.zero_le _) (Nat.le_refl _)
theorem eqS_one (l : List (Int × Int)) (s : List Int) : eqS l l s s = true := by simp [eqS]
theorem onlyF_size {w w' : World} (h : Only (fun _ => False) w w') : w.heap.size ≤ w'.heap.size := h.size
theorem blk_pair {w : World} {q : Nat} {t : TypeId} {z1 z2 u1 u2 : Value} (h : Blk w q t #[z1, z2]) : Blk ((w.setCell ⟨q, 0, none⟩ u1).setCell ⟨q, 1, none⟩ u2) q t #[u1, u2] := (h.set_ 0 u1).set_ 1 u2
theorem blk_far2 {w : World} {q q' : Nat} {t : TypeId} {cs : Array Value} {u1 u2 : Value} (h : Blk w q t cs) (hq : q ≠ q') : Blk ((w.setCell ⟨q', 0, none⟩ u1).setCell ⟨q', 1, none⟩ u2) q t cs := (h.far hq u1).far hq u2
theorem own_blk {w : World} {b e sz n q : Nat} {v : Value} {xs : List Value} {t : TypeId} {cs : Array Value} (h : w.ownsRow b e sz v n xs) (hb : Blk w q t cs) (he : e ≠ t) : v.ownBlock ≠ some q := by
  intro hv
  rcases h.2 with ⟨rfl, _⟩ | ⟨g, cap, cur, rfl, _, hg, _⟩
  · simp [Value.ownBlock] at hv
  · simp [Value.ownBlock] at hv
    subst hv
    unfold Blk at hb
    rw [hg] at hb
    injection hb with hb
    injection hb with _ h3
    exact he h3
/-- the arguments' boxes, and two schemes' rows in memory of their own -/
structure CpRows (w0 : World) (a1 a2 b1 b2 : Value) (bX bY : Nat) (x1 x2 y1 y2 : Value) (n1 n2 m1 m2 : Nat) (l1 l2 : List (Int × Int)) (s1 s2 : List Int) (w : World) : Prop where
  two : TwoIn w0 a1 a2 b1 b2 w
  o1 : w.ownsRow bX 66 2 x1 n1 (prs l1)
  o2 : w.ownsRow bX 3 1 x2 n2 (s1.map (Value.int .i64))
  o3 : w.ownsRow bY 66 2 y1 m1 (prs l2)
  o4 : w.ownsRow bY 3 1 y2 m2 (s2.map (Value.int .i64))
  sX : w0.heap.size + 2 ≤ bX
  sY : bX ≤ bY
  k1 : ∀ k, x1.ownBlock = some k → k < bY
  k2 : ∀ k, x2.ownBlock = some k → k < bY
section
variable {w0 : World} {a1 a2 b1 b2 : Value} {bX bY : Nat} {x1 x2 y1 y2 : Value} {n1 n2 m1 m2 : Nat} {l1 l2 : List (Int × Int)} {s1 s2 : List Int} {w w' : World}
theorem CpRows.on (h : CpRows w0 a1 a2 b1 b2 bX bY x1 x2 y1 y2 n1 n2 m1 m2 l1 l2 s1 s2 w) (hb : Below w.heap.size w w') : CpRows w0 a1 a2 b1 b2 bX bY x1 x2 y1 y2 n1 n2 m1 m2 l1 l2 s1 s2 w' :=
  ⟨h.two.on hb, own_stay h.o1 (Only.of_below hb _), own_stay h.o2 (Only.of_below hb _), own_stay h.o3 (Only.of_below hb _), own_stay h.o4 (Only.of_below hb _), h.sX, h.sY, h.k1, h.k2⟩
theorem CpRows.alloc (h : CpRows w0 a1 a2 b1 b2 bX bY x1 x2 y1 y2 n1 n2 m1 m2 l1 l2 s1 s2 w) (o : Obj) : CpRows w0 a1 a2 b1 b2 bX bY x1 x2 y1 y2 n1 n2 m1 m2 l1 l2 s1 s2 (w.alloc o) := h.on ((Below.refl _ _).alloc (Nat.le_refl _) _)
theorem CpRows.put (h : CpRows w0 a1 a2 b1 b2 bX bY x1 x2 y1 y2 n1 n2 m1 m2 l1 l2 s1 s2 w) {q : Nat} {cs : Array Value} (hq : Blk w q 26 cs) (hs : w0.heap.size + 2 ≤ q) (i : Nat) (u : Value) : CpRows w0 a1 a2 b1 b2 bX bY x1 x2 y1 y2 n1 n2 m1 m2 l1 l2 s1 s2 (w.setCell ⟨q, i, none⟩ u) :=
  ⟨h.two.put hs u, own_far h.o1 (own_blk h.o1 hq (by decide)) u, own_far h.o2 (own_blk h.o2 hq (by decide)) u, own_far h.o3 (own_blk h.o3 hq (by decide)) u, own_far h.o4 (own_blk h.o4 hq (by decide)) u, h.sX, h.sY, h.k1, h.k2⟩
theorem CpRows.pair (h : CpRows w0 a1 a2 b1 b2 bX bY x1 x2 y1 y2 n1 n2 m1 m2 l1 l2 s1 s2 w) {q : Nat} {z1 z2 u1 u2 : Value} (hq : Blk w q 26 #[z1, z2]) (hs : w0.heap.size + 2 ≤ q) : CpRows w0 a1 a2 b1 b2 bX bY x1 x2 y1 y2 n1 n2 m1 m2 l1 l2 s1 s2 ((w.setCell ⟨q, 0, none⟩ u1).setCell ⟨q, 1, none⟩ u2) :=
  (h.put hq hs 0 u1).put (hq.set_ 0 u1) hs 1 u2
end

theorem rd_at {w w2 W : World} {sz n : Nat} {A : Option Addr} {xs : List Value} (h : Rd w 0 w.heap.size sz A n xs) (hb : Below w.heap.size w w2) (ho : Only (fun _ => False) w2 W) : Rd W 0 W.heap.size sz A n xs :=
  (rd_via h (Only.of_below hb _) ho).more (Nat.le_refl _) (Nat.le_trans hb.size ho.size)

theorem grow_cells {W v : World} (hb : Below W.heap.size W v) : ∀ b o, b < W.heap.size → v.cell? ⟨b, o, none⟩ = W.cell? ⟨b, o, none⟩ := fun _ _ h => hb.cell h
theorem grow_frozen {W v : World} (hb : Below W.heap.size W v) : ∀ b o, b < W.heap.size → v.frozen? ⟨b, o, none⟩ = W.frozen? ⟨b, o, none⟩ := fun b o h => by
  simp only [World.frozen?, hb.block b h]
theorem grow_blk {W v : World} (hb : Below W.heap.size W v) : ∀ q t cs, Blk W q t cs → Blk v q t cs := fun _ _ _ h => h.below hb h.lt

/-- .. and the two boxes that hold them -/
structure MeSt (w0 : World) (a1 a2 b1 b2 : Value) (bX bY : Nat) (x1 x2 y1 y2 : Value) (n1 n2 m1 m2 : Nat) (l1 l2 : List (Int × Int)) (s1 s2 : List Int) (q5 q6 : Nat) (w : World) : Prop where
  rows : CpRows w0 a1 a2 b1 b2 bX bY x1 x2 y1 y2 n1 n2 m1 m2 l1 l2 s1 s2 w
  b5 : Blk w q5 26 #[x1, x2]
  b6 : Blk w q6 26 #[y1, y2]
  s5 : w0.heap.size + 2 ≤ q5
  s6 : w0.heap.size + 2 ≤ q6
/-- two schemes that were made, and their boxes -/
structure MjSt (w0 : World) (a1 a2 b1 b2 : Value) (bM q9 q11 : Nat) (x1 x2 y1 y2 : Value) (n1 n2 m1 m2 : Nat) (l1 l2 : List (Int × Int)) (s1 s2 : List Int) (w : World) : Prop where
  two : TwoIn w0 a1 a2 b1 b2 w
  b9 : Blk w q9 26 #[x1, x2]
  b11 : Blk w q11 26 #[y1, y2]
  o1 : w.ownsRow bM 66 2 x1 n1 (prs l1)
  o2 : w.ownsRow bM 3 1 x2 n2 (s1.map (Value.int .i64))
  o3 : w.ownsRow bM 66 2 y1 m1 (prs l2)
  o4 : w.ownsRow bM 3 1 y2 m2 (s2.map (Value.int .i64))
  sM : w0.heap.size + 2 ≤ bM
  s9 : bM ≤ q9
  s11 : bM ≤ q11
/-- two schemes that the reference made, and their boxes -/
structure NoSt (q13 q15 : Nat) (x1 x2 y1 y2 : Value) (n1 n2 m1 m2 : Nat) (l1 l2 : List (Int × Int)) (s1 s2 : List Int) (w : World) : Prop where
  b13 : Blk w q13 26 #[x1, x2]
  b15 : Blk w q15 26 #[y1, y2]
  o1 : w.ownsRow 0 66 2 x1 n1 (prs l1)
  o2 : w.ownsRow 0 3 1 x2 n2 (s1.map (Value.int .i64))
  o3 : w.ownsRow 0 66 2 y1 m1 (prs l2)
  o4 : w.ownsRow 0 3 1 y2 m2 (s2.map (Value.int .i64))
section
variable {w0 : World} {a1 a2 b1 b2 : Value} {bX bY bM q9 q11 : Nat} {x1 x2 y1 y2 : Value} {n1 n2 m1 m2 : Nat} {l1 l2 : List (Int × Int)} {s1 s2 : List Int} {q5 q6 : Nat} {w w' : World}
theorem MeSt.on (h : MeSt w0 a1 a2 b1 b2 bX bY x1 x2 y1 y2 n1 n2 m1 m2 l1 l2 s1 s2 q5 q6 w) (hb : Below w.heap.size w w') : MeSt w0 a1 a2 b1 b2 bX bY x1 x2 y1 y2 n1 n2 m1 m2 l1 l2 s1 s2 q5 q6 w' :=
  ⟨h.rows.on hb, h.b5.below hb h.b5.lt, h.b6.below hb h.b6.lt, h.s5, h.s6⟩
theorem MjSt.on (h : MjSt w0 a1 a2 b1 b2 bM q9 q11 x1 x2 y1 y2 n1 n2 m1 m2 l1 l2 s1 s2 w) (hb : Below w.heap.size w w') : MjSt w0 a1 a2 b1 b2 bM q9 q11 x1 x2 y1 y2 n1 n2 m1 m2 l1 l2 s1 s2 w' :=
  ⟨h.two.on hb, h.b9.below hb h.b9.lt, h.b11.below hb h.b11.lt, own_stay h.o1 (Only.of_below hb _), own_stay h.o2 (Only.of_below hb _), own_stay h.o3 (Only.of_below hb _), own_stay h.o4 (Only.of_below hb _), h.sM, h.s9, h.s11⟩
theorem own_max {w : World} {b e sz n : Nat} {v : Value} {xs : List Value} (h : w.ownsRow b e sz v n xs) : n ≤ maxLen := by
  rcases h.2 with ⟨_, h0⟩ | ⟨g, cap, cur, _, _, _, hnc, hcap, _⟩
  · have : n = 0 := by simpa using h0
    omega
  · omega
theorem NoSt.on (h : NoSt q5 q6 x1 x2 y1 y2 n1 n2 m1 m2 l1 l2 s1 s2 w) (hb : Below w.heap.size w w') : NoSt q5 q6 x1 x2 y1 y2 n1 n2 m1 m2 l1 l2 s1 s2 w' :=
  ⟨h.b13.below hb h.b13.lt, h.b15.below hb h.b15.lt, own_stay h.o1 (Only.of_below hb _), own_stay h.o2 (Only.of_below hb _), own_stay h.o3 (Only.of_below hb _), own_stay h.o4 (Only.of_below hb _)⟩
/-- a change of blocks below bM -/
theorem MjSt.mid {S : Nat → Prop} (h : MjSt w0 a1 a2 b1 b2 bM q9 q11 x1 x2 y1 y2 n1 n2 m1 m2 l1 l2 s1 s2 w) (ho : Only S w w') (hS : ∀ k, S k → w0.heap.size + 2 ≤ k ∧ k < bM) : MjSt w0 a1 a2 b1 b2 bM q9 q11 x1 x2 y1 y2 n1 n2 m1 m2 l1 l2 s1 s2 w' := by
  have k1 := h.sM
  have hn : ∀ {k : Nat}, bM ≤ k → ¬ S k := fun hk hs => by have := (hS _ hs).2; omega
  exact ⟨⟨h.two.b0.only ho (fun hs => by have := (hS _ hs).1; omega), h.two.b1.only ho (fun hs => by have := (hS _ hs).1; omega), h.two.below.trans (ho.below h.two.below.size (fun k hk hs => by have := (hS _ hs).1; omega))⟩,
    h.b9.only ho (hn h.s9), h.b11.only ho (hn h.s11), own_only h.o1 ho (fun k hb _ _ => hn hb), own_only h.o2 ho (fun k hb _ _ => hn hb), own_only h.o3 ho (fun k hb _ _ => hn hb), own_only h.o4 ho (fun k hb _ _ => hn hb), k1, h.s9, h.s11⟩
end

set_option maxHeartbeats 8000000 in
set_option maxRecDepth 100000 in
theorem schemeMeets_w (A1 A2 B1 B2 : Option Addr) (n1 c1 n2 c2 m1 d1 m2 d2 : Nat) (l1 l2 : List (Int × Int)) (s1 s2 : List Int) (w : World)
    (h1 : Rd w 0 w.heap.size 2 A1 n1 (prs l1)) (h2 : Rd w 0 w.heap.size 1 A2 n2 (s1.map (Value.int .i64))) (h3 : Rd w 0 w.heap.size 2 B1 m1 (prs l2)) (h4 : Rd w 0 w.heap.size 1 B2 m2 (s2.map (Value.int .i64)))
    (e1 : n1 ≤ c1) (x1 : c1 * 16 ≤ 140737488351232) (x2 : n2 * 8 ≤ 140737488351232) (e3 : m1 ≤ d1) (x3 : d1 * 16 ≤ 140737488351232) (x4 : m2 * 8 ≤ 140737488351232) :
    Calls Try.prog 10 #[.agg #[.slice A1 n1 c1, .slice A2 n2 c2], .agg #[.slice B1 m1 d1, .slice B2 m2 d2]] w fun e w' => e = .returned (.bool true) ∧ Below w.heap.size w w' := by
  have H1 := Lib.hid h1
  have H2 := Lib.hid h2
  have H3 := Lib.hid h3
  have H4 := Lib.hid h4
  clear h1 h2 h3 h4
  go_enter Try.func10, Try.ntmps10
  go_upto_region 1 with (fail)
  refine wp_abs (TwoIn w (.slice A1 n1 c1) (.slice A2 n2 c2) (.slice B1 m1 d1) (.slice B2 m2 d2)) (TwoIn.init w _ _ _ _) ?_
  intro w1 hw
  have HW := Lib.hid hw
  clear hw
  go_wp2_with fail
  refine (wakes_any w1).mono ?_
  rintro e w2 ⟨rfl, hb2⟩
  have HX := Lib.hid (HW.out.on hb2)
  clear hb2 HW
  go_upto_region 3 with (fail)
  have KB : ∀ W, Only (fun _ => False) w2 W → W.cell? ⟨w.heap.size, 0, none⟩ = some (.slice A1 n1 c1) ∧ W.cell? ⟨w.heap.size, 1, none⟩ = some (.slice A2 n2 c2) ∧ W.cell? ⟨w.heap.size + 1, 0, none⟩ = some (.slice B1 m1 d1) ∧ W.cell? ⟨w.heap.size + 1, 1, none⟩ = some (.slice B2 m2 d2) :=
    fun W ho => ⟨(HX.out.b0.only ho (fun h => h)).cell 0, (HX.out.b0.only ho (fun h => h)).cell 1, (HX.out.b1.only ho (fun h => h)).cell 0, (HX.out.b1.only ho (fun h => h)).cell 1⟩
  have HKB := Lib.hid KB
  clear KB
  go_cut [5, 6] (fun v5 v6 wx => ∃ (bY q5 q6 p1 p2 r1 r2 : Nat) (X1 X2 Y1 Y2 : Option Addr), v5 = .pointer (some ⟨q5, 0, none⟩) ∧ v6 = .pointer (some ⟨q6, 0, none⟩) ∧ Hid (MeSt w (.slice A1 n1 c1) (.slice A2 n2 c2) (.slice B1 m1 d1) (.slice B2 m2 d2) w2.heap.size bY (.slice X1 n1 p1) (.slice X2 n2 p2) (.slice Y1 m1 r1) (.slice Y2 m2 r2) n1 n2 m1 m2 l1 l2 s1 s2 q5 q6 wx))
  case first =>
    have hw2 : w.heap.size + 2 ≤ w2.heap.size := by have := HX.out.b1.lt; omega
    go_region_held3 (fun W => W.cell? ⟨w.heap.size, 0, none⟩ = some (.slice A1 n1 c1) ∧ W.cell? ⟨w.heap.size, 1, none⟩ = some (.slice A2 n2 c2) ∧ W.cell? ⟨w.heap.size + 1, 0, none⟩ = some (.slice B1 m1 d1) ∧ W.cell? ⟨w.heap.size + 1, 1, none⟩ = some (.slice B2 m2 d2))
      ((first | (refine HKB.out _ ?_; exact (by (repeat (first | (with_reducible exact Only.refl _ _) | (with_reducible exact HR2.out) | (with_reducible exact HR1.out.1) | (with_reducible refine Only.drew ?_) | (with_reducible refine Only.alloc ?_ _) | (with_reducible refine Only.setCell ?_ (.inr (by first | exact Nat.le_refl _ | omega | (simp; done) | (simp; omega))) _))))) | go_keep))
      (first
        | (go_at_call_of 26 (Value.slice A1 n1 c1)
           refine (refCopy_big A1 A2 n1 c1 n2 c2 0 0 l1 s1 _ (rd_at H1.out HX.out.below (by (repeat (first | (with_reducible exact Only.refl _ _) | (with_reducible exact HR2.out) | (with_reducible exact HR1.out.1) | (with_reducible refine Only.drew ?_) | (with_reducible refine Only.alloc ?_ _) | (with_reducible refine Only.setCell ?_ (.inr (by first | exact Nat.le_refl _ | omega | (simp; done) | (simp; omega))) _))))) (rd_at H2.out HX.out.below (by (repeat (first | (with_reducible exact Only.refl _ _) | (with_reducible exact HR2.out) | (with_reducible exact HR1.out.1) | (with_reducible refine Only.drew ?_) | (with_reducible refine Only.alloc ?_ _) | (with_reducible refine Only.setCell ?_ (.inr (by first | exact Nat.le_refl _ | omega | (simp; done) | (simp; omega))) _))))) (by omega) x2).mono ?_
           rintro e v1 ⟨X1, p1, X2, p2, rfl, r1, r2, hb⟩
           have HR1 : Hid (Only (fun _ => False) w2 v1 ∧ v1.ownsRow w2.heap.size 66 2 (.slice X1 n1 p1) n1 (prs l1) ∧ v1.ownsRow w2.heap.size 3 1 (.slice X2 n2 p2) n2 (s1.map (Value.int .i64))) := ⟨Only.trans (by (repeat (first | (with_reducible exact Only.refl _ _) | (with_reducible exact HR2.out) | (with_reducible exact HR1.out.1) | (with_reducible refine Only.drew ?_) | (with_reducible refine Only.alloc ?_ _) | (with_reducible refine Only.setCell ?_ (.inr (by first | exact Nat.le_refl _ | omega | (simp; done) | (simp; omega))) _)))) (Only.of_below hb _), own_more r1 (onlyF_size (by (repeat (first | (with_reducible exact Only.refl _ _) | (with_reducible exact HR2.out) | (with_reducible exact HR1.out.1) | (with_reducible refine Only.drew ?_) | (with_reducible refine Only.alloc ?_ _) | (with_reducible refine Only.setCell ?_ (.inr (by first | exact Nat.le_refl _ | omega | (simp; done) | (simp; omega))) _))))), own_more r2 (onlyF_size (by (repeat (first | (with_reducible exact Only.refl _ _) | (with_reducible exact HR2.out) | (with_reducible exact HR1.out.1) | (with_reducible refine Only.drew ?_) | (with_reducible refine Only.alloc ?_ _) | (with_reducible refine Only.setCell ?_ (.inr (by first | exact Nat.le_refl _ | omega | (simp; done) | (simp; omega))) _)))))⟩
           have hv1 := grow_cells hb
           have hf1 := grow_frozen hb
           have hz1 := hb.size
           have HB1 := Lib.hid (grow_blk hb)
           try simp only [World.size_alloc, World.size_drew] at hz1
           try (have hlv11 : w2.heap.size < v1.heap.size := by omega)
           try (have hnv11 : (w2.heap.size = v1.heap.size) = False := by simp; omega)
           try (have hmv11 : (v1.heap.size = w2.heap.size) = False := by simp; omega)
           try (have hlv12 : w2.heap.size + 1 < v1.heap.size := by omega)
           try (have hnv12 : (w2.heap.size + 1 = v1.heap.size) = False := by simp; omega)
           try (have hmv12 : (v1.heap.size = w2.heap.size + 1) = False := by simp; omega)
           clear hb r1 r2)
        | (go_at_call_of 26 (Value.slice B1 m1 d1)
           refine (refCopy_big B1 B2 m1 d1 m2 d2 0 0 l2 s2 _ (rd_at H3.out HX.out.below (by (repeat (first | (with_reducible exact Only.refl _ _) | (with_reducible exact HR2.out) | (with_reducible exact HR1.out.1) | (with_reducible refine Only.drew ?_) | (with_reducible refine Only.alloc ?_ _) | (with_reducible refine Only.setCell ?_ (.inr (by first | exact Nat.le_refl _ | omega | (simp; done) | (simp; omega))) _))))) (rd_at H4.out HX.out.below (by (repeat (first | (with_reducible exact Only.refl _ _) | (with_reducible exact HR2.out) | (with_reducible exact HR1.out.1) | (with_reducible refine Only.drew ?_) | (with_reducible refine Only.alloc ?_ _) | (with_reducible refine Only.setCell ?_ (.inr (by first | exact Nat.le_refl _ | omega | (simp; done) | (simp; omega))) _))))) (by omega) x4).mono ?_
           rintro e v2 ⟨Y1, q1, Y2, q2, rfl, r1, r2, hb⟩
           have HR2 : Hid (Only (fun _ => False) w2 v2) := Only.trans (by (repeat (first | (with_reducible exact Only.refl _ _) | (with_reducible exact HR2.out) | (with_reducible exact HR1.out.1) | (with_reducible refine Only.drew ?_) | (with_reducible refine Only.alloc ?_ _) | (with_reducible refine Only.setCell ?_ (.inr (by first | exact Nat.le_refl _ | omega | (simp; done) | (simp; omega))) _)))) (Only.of_below hb _)
           have hbO : Only (fun _ => False) v1 v2 := Only.trans (by (repeat (first | (with_reducible exact Only.refl _ _) | (with_reducible exact HR2.out) | (with_reducible exact HR1.out.1) | (with_reducible refine Only.drew ?_) | (with_reducible refine Only.alloc ?_ _) | (with_reducible refine Only.setCell ?_ (.inr (by first | exact Nat.le_refl _ | omega | (simp; done) | (simp; omega))) _)))) (Only.of_below hb _)
           have HRS : Hid (CpRows w (.slice A1 n1 c1) (.slice A2 n2 c2) (.slice B1 m1 d1) (.slice B2 m2 d2) w2.heap.size v1.heap.size (.slice X1 n1 p1) (.slice X2 n2 p2) (.slice Y1 m1 q1) (.slice Y2 m2 q2) n1 n2 m1 m2 l1 l2 s1 s2 v2) :=
             ⟨HX.out.on (HR2.out.below (Nat.le_refl _) (fun _ _ h => h)), own_stay HR1.out.2.1 hbO, own_stay HR1.out.2.2 hbO, own_more r1 (onlyF_size (by (repeat (first | (with_reducible exact Only.refl _ _) | (with_reducible exact HR2.out) | (with_reducible exact HR1.out.1) | (with_reducible refine Only.drew ?_) | (with_reducible refine Only.alloc ?_ _) | (with_reducible refine Only.setCell ?_ (.inr (by first | exact Nat.le_refl _ | omega | (simp; done) | (simp; omega))) _))))), own_more r2 (onlyF_size (by (repeat (first | (with_reducible exact Only.refl _ _) | (with_reducible exact HR2.out) | (with_reducible exact HR1.out.1) | (with_reducible refine Only.drew ?_) | (with_reducible refine Only.alloc ?_ _) | (with_reducible refine Only.setCell ?_ (.inr (by first | exact Nat.le_refl _ | omega | (simp; done) | (simp; omega))) _))))), hw2, HR1.out.1.size, fun k hk => (HR1.out.2.1.lt k hk).2, fun k hk => (HR1.out.2.2.lt k hk).2⟩
           have hv2 := grow_cells hb
           have hf2 := grow_frozen hb
           have hz2 := hb.size
           have HB2 := Lib.hid (grow_blk hb)
           try simp only [World.size_alloc] at hz2
           try (have hlv21 : w2.heap.size < v2.heap.size := by omega)
           try (have hnv21 : (w2.heap.size = v2.heap.size) = False := by simp; omega)
           try (have hmv21 : (v2.heap.size = w2.heap.size) = False := by simp; omega)
           try (have hlv22 : w2.heap.size + 1 < v2.heap.size := by omega)
           try (have hnv22 : (w2.heap.size + 1 = v2.heap.size) = False := by simp; omega)
           try (have hmv22 : (v2.heap.size = w2.heap.size + 1) = False := by simp; omega)
           try (have hlv23 : v1.heap.size < v2.heap.size := by omega)
           try (have hnv23 : (v1.heap.size = v2.heap.size) = False := by simp; omega)
           try (have hmv23 : (v2.heap.size = v1.heap.size) = False := by simp; omega)
           try (have hlv24 : v1.heap.size + 1 < v2.heap.size := by omega)
           try (have hnv24 : (v1.heap.size + 1 = v2.heap.size) = False := by simp; omega)
           try (have hmv24 : (v2.heap.size = v1.heap.size + 1) = False := by simp; omega)
           clear hb r1 r2 hbO))
    all_goals
      go_wp2_with fail
      go_meet
      exact ⟨v1.heap.size, _, _, p1, p2, q1, q2, X1, X2, Y1, Y2, rfl, rfl, Lib.hid ⟨(by (repeat (first | (with_reducible exact HRS.out) | (with_reducible refine CpRows.alloc ?_ _) | (with_reducible refine CpRows.pair (z1 := .slice none 0 0) (z2 := .slice none 0 0) ?_ (by (repeat (first | ((with_reducible refine blk_new_eq ?_); simp; done) | (with_reducible refine Blk.alloc ?_ _) | (with_reducible refine blk_pair (z1 := .slice none 0 0) (z2 := .slice none 0 0) ?_) | (with_reducible refine blk_far2 ?_ (by first | omega | (simp; done) | (simp; omega))) | (with_reducible exact Blk.new _ _ _) | (with_reducible refine HB2.out _ _ _ ?_) | (with_reducible refine HB1.out _ _ _ ?_) | (with_reducible refine Blk.drew ?_)))) (by first | omega | (simp; done) | (simp; omega)))))), (by (repeat (first | ((with_reducible refine blk_new_eq ?_); simp; done) | (with_reducible refine Blk.alloc ?_ _) | (with_reducible refine blk_pair (z1 := .slice none 0 0) (z2 := .slice none 0 0) ?_) | (with_reducible refine blk_far2 ?_ (by first | omega | (simp; done) | (simp; omega))) | (with_reducible exact Blk.new _ _ _) | (with_reducible refine HB2.out _ _ _ ?_) | (with_reducible refine HB1.out _ _ _ ?_) | (with_reducible refine Blk.drew ?_)))), (by (repeat (first | ((with_reducible refine blk_new_eq ?_); simp; done) | (with_reducible refine Blk.alloc ?_ _) | (with_reducible refine blk_pair (z1 := .slice none 0 0) (z2 := .slice none 0 0) ?_) | (with_reducible refine blk_far2 ?_ (by first | omega | (simp; done) | (simp; omega))) | (with_reducible exact Blk.new _ _ _) | (with_reducible refine HB2.out _ _ _ ?_) | (with_reducible refine HB1.out _ _ _ ?_) | (with_reducible refine Blk.drew ?_)))), (by first | omega | (simp; done) | (simp; omega)), (by first | omega | (simp; done) | (simp; omega))⟩⟩
  case rest =>
    obtain ⟨bY, q5, q6, p1, p2, r1, r2, X1, X2, Y1, Y2, rfl, rfl, HC⟩ := hcut
    have z1 : n1 ≤ maxLen := by unfold maxLen; omega
    have z2 : n2 ≤ maxLen := by unfold maxLen; omega
    have z3 : m1 ≤ maxLen := by unfold maxLen; omega
    have z4 : m2 ≤ maxLen := by unfold maxLen; omega
    cases hmt : mayTwo l1 l2 s1 s2 with
    | false =>
      have HMT := Lib.hid hmt
      clear hmt
      have a0 : wc.cell? ⟨q5, 0, none⟩ = some (.slice X1 n1 p1) := HC.out.b5.cell 0
      have a1 : wc.cell? ⟨q5, 1, none⟩ = some (.slice X2 n2 p2) := HC.out.b5.cell 1
      have b0 : wc.cell? ⟨q6, 0, none⟩ = some (.slice Y1 m1 r1) := HC.out.b6.cell 0
      have b1 : wc.cell? ⟨q6, 1, none⟩ = some (.slice Y2 m2 r2) := HC.out.b6.cell 1
      go_wp2_with fail
      refine (within_bad X1 X2 Y1 Y2 n1 p1 n2 p2 m1 r1 m2 r2 0 0 0 0 l1 l2 s1 s2 wc (own_rdm HC.out.rows.o1) (own_rdm HC.out.rows.o2) (own_rdm HC.out.rows.o3) (own_rdm HC.out.rows.o4) z1 z2 z3 z4 HMT.out).mono ?_
      rintro e w3 ⟨rfl, hb⟩
      have HD := Lib.hid (HC.out.on hb)
      clear hb HC a0 a1 b0 b1
      have a0 : w3.cell? ⟨q5, 0, none⟩ = some (.slice X1 n1 p1) := HD.out.b5.cell 0
      have a1 : w3.cell? ⟨q5, 1, none⟩ = some (.slice X2 n2 p2) := HD.out.b5.cell 1
      have b0 : w3.cell? ⟨q6, 0, none⟩ = some (.slice Y1 m1 r1) := HD.out.b6.cell 0
      have b1 : w3.cell? ⟨q6, 1, none⟩ = some (.slice Y2 m2 r2) := HD.out.b6.cell 1
      go_wp2_with fail
      refine (meet_bad X1 X2 Y1 Y2 n1 p1 n2 p2 m1 r1 m2 r2 0 0 0 0 l1 l2 s1 s2 w3 (own_rdm HD.out.rows.o1) (own_rdm HD.out.rows.o2) (own_rdm HD.out.rows.o3) (own_rdm HD.out.rows.o4) z1 z2 z3 z4 HMT.out).mono ?_
      rintro e w4 ⟨rfl, hb⟩
      have HE := Lib.hid (HD.out.on hb)
      clear hb HD a0 a1 b0 b1
      go_upto_region 6 with (fail)
      refine wp_abs (fun wx => MeSt w (.slice A1 n1 c1) (.slice A2 n2 c2) (.slice B1 m1 d1) (.slice B2 m2 d2) w2.heap.size bY (.slice X1 n1 p1) (.slice X2 n2 p2) (.slice Y1 m1 r1) (.slice Y2 m2 r2) n1 n2 m1 m2 l1 l2 s1 s2 q5 q6 wx ∧ Blk wx w4.heap.size 26 #[.slice none 0 0, .slice none 0 0]) ⟨HE.out.on ((Below.refl _ _).alloc (Nat.le_refl _) _), Blk.new _ _ _⟩ ?_
      rintro w5 ⟨hS, hB⟩
      have HF := Lib.hid (And.intro hS hB)
      clear hS hB HE
      generalize w4.heap.size = q9 at *
      have a0 : w5.cell? ⟨q5, 0, none⟩ = some (.slice X1 n1 p1) := HF.out.1.b5.cell 0
      have a1 : w5.cell? ⟨q5, 1, none⟩ = some (.slice X2 n2 p2) := HF.out.1.b5.cell 1
      have b0 : w5.cell? ⟨q6, 0, none⟩ = some (.slice Y1 m1 r1) := HF.out.1.b6.cell 0
      have b1 : w5.cell? ⟨q6, 1, none⟩ = some (.slice Y2 m2 r2) := HF.out.1.b6.cell 1
      go_wp2_with fail
      refine (join_bad X1 X2 Y1 Y2 n1 p1 n2 p2 m1 r1 m2 r2 0 0 0 0 l1 l2 s1 s2 w5 (own_rdm HF.out.1.rows.o1) (own_rdm HF.out.1.rows.o2) (own_rdm HF.out.1.rows.o3) (own_rdm HF.out.1.rows.o4) z1 z2 z3 z4 HMT.out).mono ?_
      rintro e w6 ⟨rfl, hb⟩
      have HG := Lib.hid (And.intro (HF.out.1.on hb) (HF.out.2.below hb HF.out.2.lt))
      clear hb HF a0 a1 b0 b1
      go_upto_region 7 with (fail)
      refine wp_abs (fun wx => MeSt w (.slice A1 n1 c1) (.slice A2 n2 c2) (.slice B1 m1 d1) (.slice B2 m2 d2) w2.heap.size bY (.slice X1 n1 p1) (.slice X2 n2 p2) (.slice Y1 m1 r1) (.slice Y2 m2 r2) n1 n2 m1 m2 l1 l2 s1 s2 q5 q6 wx ∧ Blk wx q9 26 #[.slice none 0 0, .slice none 0 0] ∧ Blk wx w6.heap.size 26 #[.slice none 0 0, .slice none 0 0]) ⟨HG.out.1.on ((Below.refl _ _).alloc (Nat.le_refl _) _), HG.out.2.alloc _, Blk.new _ _ _⟩ ?_
      rintro w7 ⟨hS, hB, hB2⟩
      have HI := Lib.hid (And.intro hS (And.intro hB hB2))
      clear hS hB hB2 HG
      generalize w6.heap.size = q11 at *
      have a0 : w7.cell? ⟨q5, 0, none⟩ = some (.slice X1 n1 p1) := HI.out.1.b5.cell 0
      have a1 : w7.cell? ⟨q5, 1, none⟩ = some (.slice X2 n2 p2) := HI.out.1.b5.cell 1
      have b0 : w7.cell? ⟨q6, 0, none⟩ = some (.slice Y1 m1 r1) := HI.out.1.b6.cell 0
      have b1 : w7.cell? ⟨q6, 1, none⟩ = some (.slice Y2 m2 r2) := HI.out.1.b6.cell 1
      have c0 : w7.cell? ⟨w.heap.size, 0, none⟩ = some (.slice A1 n1 c1) := HI.out.1.rows.two.b0.cell 0
      have c1' : w7.cell? ⟨w.heap.size, 1, none⟩ = some (.slice A2 n2 c2) := HI.out.1.rows.two.b0.cell 1
      have d0 : w7.cell? ⟨w.heap.size + 1, 0, none⟩ = some (.slice B1 m1 d1) := HI.out.1.rows.two.b1.cell 0
      have d1' : w7.cell? ⟨w.heap.size + 1, 1, none⟩ = some (.slice B2 m2 d2) := HI.out.1.rows.two.b1.cell 1
      go_wp2_with fail
      refine (equal_any X1 X2 A1 A2 n1 p1 n2 p2 n1 c1 n2 c2 0 0 0 0 l1 l1 s1 s1 w7 (own_rdm HI.out.1.rows.o1) (own_rdm HI.out.1.rows.o2) (H1.out.up HI.out.1.rows.two.below HI.out.1.rows.two.below.size) (H2.out.up HI.out.1.rows.two.below HI.out.1.rows.two.below.size) z1 z2 z1 z2).mono ?_
      rw [eqS_one]
      rintro e w8 ⟨rfl, hb⟩
      have HJ := Lib.hid (And.intro (HI.out.1.on hb) (And.intro (HI.out.2.1.below hb HI.out.2.1.lt) (HI.out.2.2.below hb HI.out.2.2.lt)))
      clear hb HI a0 a1 b0 b1 c0 c1' d0 d1'
      have a0 : w8.cell? ⟨q5, 0, none⟩ = some (.slice X1 n1 p1) := HJ.out.1.b5.cell 0
      have a1 : w8.cell? ⟨q5, 1, none⟩ = some (.slice X2 n2 p2) := HJ.out.1.b5.cell 1
      have b0 : w8.cell? ⟨q6, 0, none⟩ = some (.slice Y1 m1 r1) := HJ.out.1.b6.cell 0
      have b1 : w8.cell? ⟨q6, 1, none⟩ = some (.slice Y2 m2 r2) := HJ.out.1.b6.cell 1
      have c0 : w8.cell? ⟨w.heap.size, 0, none⟩ = some (.slice A1 n1 c1) := HJ.out.1.rows.two.b0.cell 0
      have c1' : w8.cell? ⟨w.heap.size, 1, none⟩ = some (.slice A2 n2 c2) := HJ.out.1.rows.two.b0.cell 1
      have d0 : w8.cell? ⟨w.heap.size + 1, 0, none⟩ = some (.slice B1 m1 d1) := HJ.out.1.rows.two.b1.cell 0
      have d1' : w8.cell? ⟨w.heap.size + 1, 1, none⟩ = some (.slice B2 m2 d2) := HJ.out.1.rows.two.b1.cell 1
      go_wp2_with fail
      refine (equal_any Y1 Y2 B1 B2 m1 r1 m2 r2 m1 d1 m2 d2 0 0 0 0 l2 l2 s2 s2 w8 (own_rdm HJ.out.1.rows.o3) (own_rdm HJ.out.1.rows.o4) (H3.out.up HJ.out.1.rows.two.below HJ.out.1.rows.two.below.size) (H4.out.up HJ.out.1.rows.two.below HJ.out.1.rows.two.below.size) z3 z4 z3 z4).mono ?_
      rw [eqS_one]
      rintro e w9 ⟨rfl, hb⟩
      have HK := Lib.hid (And.intro (HJ.out.1.rows.two.on hb) (And.intro (HJ.out.2.1.below hb HJ.out.2.1.lt) (HJ.out.2.2.below hb HJ.out.2.2.lt)))
      clear hb HJ a0 a1 b0 b1 c0 c1' d0 d1'
      have c0 : w9.cell? ⟨w.heap.size, 0, none⟩ = some (.slice A1 n1 c1) := HK.out.1.b0.cell 0
      have c1' : w9.cell? ⟨w.heap.size, 1, none⟩ = some (.slice A2 n2 c2) := HK.out.1.b0.cell 1
      have d0 : w9.cell? ⟨w.heap.size + 1, 0, none⟩ = some (.slice B1 m1 d1) := HK.out.1.b1.cell 0
      have d1' : w9.cell? ⟨w.heap.size + 1, 1, none⟩ = some (.slice B2 m2 d2) := HK.out.1.b1.cell 1
      go_wp2_with fail
      refine (refMay_any A1 A2 n1 c1 n2 c2 0 0 l1 s1 w9 (H1.out.up HK.out.1.below HK.out.1.below.size) (H2.out.up HK.out.1.below HK.out.1.below.size) z2 z1).mono ?_
      rintro e w10 ⟨rfl, hb⟩
      have HL := Lib.hid (And.intro (HK.out.1.on hb) (And.intro (HK.out.2.1.below hb HK.out.2.1.lt) (HK.out.2.2.below hb HK.out.2.2.lt)))
      clear hb HK c0 c1' d0 d1'
      cases hma : may l1 s1
      case' false =>
        clear hma
        go_upto_region 10 with (fail)
        refine wp_abs (fun wx => TwoIn w (.slice A1 n1 c1) (.slice A2 n2 c2) (.slice B1 m1 d1) (.slice B2 m2 d2) wx ∧ Blk wx q9 26 #[.slice none 0 0, .slice none 0 0] ∧ Blk wx q11 26 #[.slice none 0 0, .slice none 0 0]) HL.out ?_
      case' true =>
        have c0 : w10.cell? ⟨w.heap.size, 0, none⟩ = some (.slice A1 n1 c1) := HL.out.1.b0.cell 0
        have c1' : w10.cell? ⟨w.heap.size, 1, none⟩ = some (.slice A2 n2 c2) := HL.out.1.b0.cell 1
        have d0 : w10.cell? ⟨w.heap.size + 1, 0, none⟩ = some (.slice B1 m1 d1) := HL.out.1.b1.cell 0
        have d1' : w10.cell? ⟨w.heap.size + 1, 1, none⟩ = some (.slice B2 m2 d2) := HL.out.1.b1.cell 1
        go_wp2_with fail
        refine (refMay_any B1 B2 m1 d1 m2 d2 0 0 l2 s2 w10 (H3.out.up HL.out.1.below HL.out.1.below.size) (H4.out.up HL.out.1.below HL.out.1.below.size) z4 z3).mono ?_
        rintro e w11 ⟨rfl, hb⟩
        have HM := Lib.hid (And.intro (HL.out.1.on hb) (And.intro (HL.out.2.1.below hb HL.out.2.1.lt) (HL.out.2.2.below hb HL.out.2.2.lt)))
        have HMA := Lib.hid hma
        clear hb HL c0 c1' d0 d1' hma
        cases hmb : may l2 s2
        case' false =>
          clear hmb
          go_upto_region 10 with (fail)
          refine wp_abs (fun wx => TwoIn w (.slice A1 n1 c1) (.slice A2 n2 c2) (.slice B1 m1 d1) (.slice B2 m2 d2) wx ∧ Blk wx q9 26 #[.slice none 0 0, .slice none 0 0] ∧ Blk wx q11 26 #[.slice none 0 0, .slice none 0 0]) HM.out ?_
        case' true =>
          have hne : n1 ≠ m1 := by
            intro he
            have hm := HMT.out
            unfold mayTwo at hm
            rw [HMA.out, hmb] at hm
            have g1 : l1.length = n1 := by have := H1.out.1; rw [prs_len] at this; omega
            have g2 : l2.length = m1 := by have := H3.out.1; rw [prs_len] at this; omega
            rw [g1, g2, he] at hm
            simp at hm
          have hnb : ((n1 : Int) != (m1 : Int)) = true := by simp; omega
          clear hmb
          have c0 : w11.cell? ⟨w.heap.size, 0, none⟩ = some (.slice A1 n1 c1) := HM.out.1.b0.cell 0
          have c1' : w11.cell? ⟨w.heap.size, 1, none⟩ = some (.slice A2 n2 c2) := HM.out.1.b0.cell 1
          have d0 : w11.cell? ⟨w.heap.size + 1, 0, none⟩ = some (.slice B1 m1 d1) := HM.out.1.b1.cell 0
          have d1' : w11.cell? ⟨w.heap.size + 1, 1, none⟩ = some (.slice B2 m2 d2) := HM.out.1.b1.cell 1
          go_upto_region 10 with (fail)
          refine wp_abs (fun wx => TwoIn w (.slice A1 n1 c1) (.slice A2 n2 c2) (.slice B1 m1 d1) (.slice B2 m2 d2) wx ∧ Blk wx q9 26 #[.slice none 0 0, .slice none 0 0] ∧ Blk wx q11 26 #[.slice none 0 0, .slice none 0 0]) HM.out ?_
          clear c0 c1' d0 d1'
      all_goals
        rintro w12 ⟨hS, hB, hB2⟩
        have HN := Lib.hid (And.intro hS (And.intro hB hB2))
        have m0 : w12.cell? ⟨q9, 0, none⟩ = some (.slice none 0 0) := hB.cell 0
        have m1' : w12.cell? ⟨q9, 1, none⟩ = some (.slice none 0 0) := hB.cell 1
        clear hS hB hB2
        go_wp2_with fail
        refine (none_any 0 0 w12).mono ?_
        rintro e w13 ⟨rfl, hb⟩
        have HO := Lib.hid (And.intro (HN.out.1.on hb) (HN.out.2.2.below hb HN.out.2.2.lt))
        have j0 : w13.cell? ⟨q11, 0, none⟩ = some (.slice none 0 0) := HO.out.2.cell 0
        have j1' : w13.cell? ⟨q11, 1, none⟩ = some (.slice none 0 0) := HO.out.2.cell 1
        clear hb HN m0 m1'
        go_wp2_with fail
        refine (none_any 0 0 w13).mono ?_
        rintro e w14 ⟨rfl, hb⟩
        have HP := Lib.hid (HO.out.1.on hb)
        clear hb HO j0 j1'
        go_wp2_with fail
        refine (wakes_any w14).mono ?_
        rintro e w15 ⟨rfl, hb⟩
        have HQ := Lib.hid (HP.out.on hb)
        clear hb HP
        go_wp2
        go_ret
        exact ⟨rfl, HQ.out.below⟩
    | true =>
      have HMT := Lib.hid hmt
      obtain ⟨hm1, hm2, hml⟩ := mayTwo_parts hmt
      have g1 : l1.length = n1 := by have := H1.out.1; rw [prs_len] at this; omega
      have g2 : l2.length = m1 := by have := H3.out.1; rw [prs_len] at this; omega
      have g3 : s1.length = n2 := by have := H2.out.1; simpa using this
      have g4 : s2.length = m2 := by have := H4.out.1; simpa using this
      obtain rfl : m1 = n1 := by omega
      have u1 : m1 ≤ 512 := by rw [← g1]; exact mayLen hm1
      have u2 : n2 ≤ 512 := by have := mayStan hm1; omega
      have u4 : m2 ≤ 512 := by have := mayStan hm2; omega
      have HMM := Lib.hid (And.intro hm1 hm2)
      have HLN := Lib.hid (And.intro g1 (And.intro g2 (And.intro g3 g4)))
      clear hm1 hm2 hml g1 g2 g3 g4 hmt
      have a0 : wc.cell? ⟨q5, 0, none⟩ = some (.slice X1 m1 p1) := HC.out.b5.cell 0
      have a1 : wc.cell? ⟨q5, 1, none⟩ = some (.slice X2 n2 p2) := HC.out.b5.cell 1
      have b0 : wc.cell? ⟨q6, 0, none⟩ = some (.slice Y1 m1 r1) := HC.out.b6.cell 0
      have b1 : wc.cell? ⟨q6, 1, none⟩ = some (.slice Y2 m2 r2) := HC.out.b6.cell 1
      go_wp2_with fail
      refine (within_ok X1 X2 Y1 Y2 m1 p1 n2 p2 r1 m2 r2 0 0 0 0 l1 l2 s1 s2 wc (own_rdm HC.out.rows.o1) (own_rdm HC.out.rows.o2) (own_rdm HC.out.rows.o3) (own_rdm HC.out.rows.o4) HMT.out).mono ?_
      rintro e w3 ⟨rfl, hb⟩
      have HD := Lib.hid (HC.out.on hb)
      clear hb HC a0 a1 b0 b1
      have a0 : w3.cell? ⟨q5, 0, none⟩ = some (.slice X1 m1 p1) := HD.out.b5.cell 0
      have a1 : w3.cell? ⟨q5, 1, none⟩ = some (.slice X2 n2 p2) := HD.out.b5.cell 1
      have b0 : w3.cell? ⟨q6, 0, none⟩ = some (.slice Y1 m1 r1) := HD.out.b6.cell 0
      have b1 : w3.cell? ⟨q6, 1, none⟩ = some (.slice Y2 m2 r2) := HD.out.b6.cell 1
      go_wp2_with fail
      refine (meet_ok X1 X2 Y1 Y2 m1 p1 n2 p2 r1 m2 r2 0 0 0 0 l1 l2 s1 s2 w3 (own_rdm HD.out.rows.o1) (own_rdm HD.out.rows.o2) (own_rdm HD.out.rows.o3) (own_rdm HD.out.rows.o4) HMT.out).mono ?_
      rintro e w4 ⟨M1, k1, M2, k2, rfl, r3, r4, hb⟩
      have HE := Lib.hid (And.intro (HD.out.on hb) (And.intro r3 r4))
      have hbM := hb.size
      have hwM : w.heap.size + 2 ≤ w3.heap.size := by have := HD.out.b5.lt; have := HD.out.s5; omega
      have HY := Lib.hid (show (∀ k, (Value.slice X1 m1 p1).ownBlock = some k → k < w3.heap.size) ∧ (∀ k, (Value.slice X2 n2 p2).ownBlock = some k → k < w3.heap.size) ∧ (∀ k, (Value.slice Y1 m1 r1).ownBlock = some k → k < w3.heap.size) ∧ (∀ k, (Value.slice Y2 m2 r2).ownBlock = some k → k < w3.heap.size) from ⟨fun k hk => (HD.out.rows.o1.lt k hk).2, fun k hk => (HD.out.rows.o2.lt k hk).2, fun k hk => (HD.out.rows.o3.lt k hk).2, fun k hk => (HD.out.rows.o4.lt k hk).2⟩)
      clear hb HD a0 a1 b0 b1 r3 r4
      generalize hgm1 : madeL l1 l2 (mtF l1 l2 m1) = ml at *
      generalize hgm2 : madeS l1 l2 (mtF l1 l2 m1) s1 = ms at *
      generalize hgm3 : madeE l1 l2 (mtF l1 l2 m1) = me at *
      have HGM := Lib.hid (And.intro hgm1 (And.intro hgm2 hgm3))
      clear hgm1 hgm2 hgm3
      go_upto_region 6 with (fail)
      refine wp_abs (fun wx => MeSt w (.slice A1 m1 c1) (.slice A2 n2 c2) (.slice B1 m1 d1) (.slice B2 m2 d2) w2.heap.size bY (.slice X1 m1 p1) (.slice X2 n2 p2) (.slice Y1 m1 r1) (.slice Y2 m2 r2) m1 n2 m1 m2 l1 l2 s1 s2 q5 q6 wx ∧ Blk wx w4.heap.size 26 #[.slice M1 ml.length k1, .slice M2 ms.length k2] ∧ wx.ownsRow w3.heap.size 66 2 (.slice M1 ml.length k1) ml.length (prs ml) ∧ wx.ownsRow w3.heap.size 3 1 (.slice M2 ms.length k2) ms.length (ms.map (Value.int .i64))) ⟨HE.out.1.on ((Below.refl _ _).alloc (Nat.le_refl _) _), Blk.new _ _ _, HE.out.2.1.alloc _, HE.out.2.2.alloc _⟩ ?_
      rintro w5 ⟨hS, hB, r3, r4⟩
      have HF := Lib.hid (And.intro hS (And.intro hB (And.intro r3 r4)))
      have hs5 : w3.heap.size ≤ w5.heap.size := by have := hB.lt; omega
      clear hS hB HE r3 r4
      generalize w4.heap.size = q9 at *
      have a0 : w5.cell? ⟨q5, 0, none⟩ = some (.slice X1 m1 p1) := HF.out.1.b5.cell 0
      have a1 : w5.cell? ⟨q5, 1, none⟩ = some (.slice X2 n2 p2) := HF.out.1.b5.cell 1
      have b0 : w5.cell? ⟨q6, 0, none⟩ = some (.slice Y1 m1 r1) := HF.out.1.b6.cell 0
      have b1 : w5.cell? ⟨q6, 1, none⟩ = some (.slice Y2 m2 r2) := HF.out.1.b6.cell 1
      go_wp2_with fail
      refine (join_ok X1 X2 Y1 Y2 m1 p1 n2 p2 r1 m2 r2 0 0 0 0 l1 l2 s1 s2 w5 (own_rdm HF.out.1.rows.o1) (own_rdm HF.out.1.rows.o2) (own_rdm HF.out.1.rows.o3) (own_rdm HF.out.1.rows.o4) HMT.out).mono ?_
      rintro e w6 ⟨J1, j1, J2, j2, rfl, r5, r6, hb⟩
      have hbJ := hb.size
      have HG := Lib.hid (And.intro (HF.out.1.on hb) (And.intro (HF.out.2.1.below hb HF.out.2.1.lt) (And.intro (own_stay HF.out.2.2.1 (Only.of_below hb _)) (And.intro (own_stay HF.out.2.2.2 (Only.of_below hb _)) (And.intro r5 r6)))))
      clear hb HF a0 a1 b0 b1 r5 r6
      generalize hgj1 : madeL l1 l2 (jnF l1 l2 m1) = jl at *
      generalize hgj2 : madeS l1 l2 (jnF l1 l2 m1) s1 = js at *
      generalize hgj3 : madeE l1 l2 (jnF l1 l2 m1) = je at *
      have HGJ := Lib.hid (And.intro hgj1 (And.intro hgj2 hgj3))
      clear hgj1 hgj2 hgj3
      go_upto_region 7 with (fail)
      refine wp_abs (fun wx => MeSt w (.slice A1 m1 c1) (.slice A2 n2 c2) (.slice B1 m1 d1) (.slice B2 m2 d2) w2.heap.size bY (.slice X1 m1 p1) (.slice X2 n2 p2) (.slice Y1 m1 r1) (.slice Y2 m2 r2) m1 n2 m1 m2 l1 l2 s1 s2 q5 q6 wx ∧ MjSt w (.slice A1 m1 c1) (.slice A2 n2 c2) (.slice B1 m1 d1) (.slice B2 m2 d2) w3.heap.size q9 w6.heap.size (.slice M1 ml.length k1) (.slice M2 ms.length k2) (.slice J1 jl.length j1) (.slice J2 js.length j2) ml.length ms.length jl.length js.length ml jl ms js wx) ⟨HG.out.1.on ((Below.refl _ _).alloc (Nat.le_refl _) _), ⟨(HG.out.1.on ((Below.refl _ _).alloc (Nat.le_refl _) _)).rows.two, HG.out.2.1.alloc _, Blk.new _ _ _, HG.out.2.2.1.alloc _, HG.out.2.2.2.1.alloc _, own_more (HG.out.2.2.2.2.1.alloc _) hs5, own_more (HG.out.2.2.2.2.2.alloc _) hs5, hwM, hbM, Nat.le_trans hs5 hbJ⟩⟩ ?_
      rintro w7 ⟨hS, hB⟩
      have HI := Lib.hid (And.intro hS hB)
      clear hS hB HG
      generalize w6.heap.size = q11 at *
      generalize w3.heap.size = bM at *
      clear hbM hbJ hs5 hwM
      have a0 : w7.cell? ⟨q5, 0, none⟩ = some (.slice X1 m1 p1) := HI.out.1.b5.cell 0
      have a1 : w7.cell? ⟨q5, 1, none⟩ = some (.slice X2 n2 p2) := HI.out.1.b5.cell 1
      have b0 : w7.cell? ⟨q6, 0, none⟩ = some (.slice Y1 m1 r1) := HI.out.1.b6.cell 0
      have b1 : w7.cell? ⟨q6, 1, none⟩ = some (.slice Y2 m2 r2) := HI.out.1.b6.cell 1
      have c0 : w7.cell? ⟨w.heap.size, 0, none⟩ = some (.slice A1 m1 c1) := HI.out.1.rows.two.b0.cell 0
      have c1' : w7.cell? ⟨w.heap.size, 1, none⟩ = some (.slice A2 n2 c2) := HI.out.1.rows.two.b0.cell 1
      have d0 : w7.cell? ⟨w.heap.size + 1, 0, none⟩ = some (.slice B1 m1 d1) := HI.out.1.rows.two.b1.cell 0
      have d1' : w7.cell? ⟨w.heap.size + 1, 1, none⟩ = some (.slice B2 m2 d2) := HI.out.1.rows.two.b1.cell 1
      go_wp2_with fail
      refine (equal_any X1 X2 A1 A2 m1 p1 n2 p2 m1 c1 n2 c2 0 0 0 0 l1 l1 s1 s1 w7 (own_rdm HI.out.1.rows.o1) (own_rdm HI.out.1.rows.o2) (H1.out.up HI.out.1.rows.two.below HI.out.1.rows.two.below.size) (H2.out.up HI.out.1.rows.two.below HI.out.1.rows.two.below.size) z1 z2 z1 z2).mono ?_
      rw [eqS_one]
      rintro e w8 ⟨rfl, hb⟩
      have HJ := Lib.hid (And.intro (HI.out.1.on hb) (HI.out.2.on hb))
      clear hb HI a0 a1 b0 b1 c0 c1' d0 d1'
      have a0 : w8.cell? ⟨q5, 0, none⟩ = some (.slice X1 m1 p1) := HJ.out.1.b5.cell 0
      have a1 : w8.cell? ⟨q5, 1, none⟩ = some (.slice X2 n2 p2) := HJ.out.1.b5.cell 1
      have b0 : w8.cell? ⟨q6, 0, none⟩ = some (.slice Y1 m1 r1) := HJ.out.1.b6.cell 0
      have b1 : w8.cell? ⟨q6, 1, none⟩ = some (.slice Y2 m2 r2) := HJ.out.1.b6.cell 1
      have c0 : w8.cell? ⟨w.heap.size, 0, none⟩ = some (.slice A1 m1 c1) := HJ.out.1.rows.two.b0.cell 0
      have c1' : w8.cell? ⟨w.heap.size, 1, none⟩ = some (.slice A2 n2 c2) := HJ.out.1.rows.two.b0.cell 1
      have d0 : w8.cell? ⟨w.heap.size + 1, 0, none⟩ = some (.slice B1 m1 d1) := HJ.out.1.rows.two.b1.cell 0
      have d1' : w8.cell? ⟨w.heap.size + 1, 1, none⟩ = some (.slice B2 m2 d2) := HJ.out.1.rows.two.b1.cell 1
      go_wp2_with fail
      refine (equal_any Y1 Y2 B1 B2 m1 r1 m2 r2 m1 d1 m2 d2 0 0 0 0 l2 l2 s2 s2 w8 (own_rdm HJ.out.1.rows.o3) (own_rdm HJ.out.1.rows.o4) (H3.out.up HJ.out.1.rows.two.below HJ.out.1.rows.two.below.size) (H4.out.up HJ.out.1.rows.two.below HJ.out.1.rows.two.below.size) z3 z4 z3 z4).mono ?_
      rw [eqS_one]
      rintro e w9 ⟨rfl, hb⟩
      have HK := Lib.hid (And.intro (HJ.out.1.on hb) (HJ.out.2.on hb))
      clear hb HJ a0 a1 b0 b1 c0 c1' d0 d1'
      have c0 : w9.cell? ⟨w.heap.size, 0, none⟩ = some (.slice A1 m1 c1) := HK.out.1.rows.two.b0.cell 0
      have c1' : w9.cell? ⟨w.heap.size, 1, none⟩ = some (.slice A2 n2 c2) := HK.out.1.rows.two.b0.cell 1
      have d0 : w9.cell? ⟨w.heap.size + 1, 0, none⟩ = some (.slice B1 m1 d1) := HK.out.1.rows.two.b1.cell 0
      have d1' : w9.cell? ⟨w.heap.size + 1, 1, none⟩ = some (.slice B2 m2 d2) := HK.out.1.rows.two.b1.cell 1
      go_wp2_with fail
      refine (refMay_any A1 A2 m1 c1 n2 c2 0 0 l1 s1 w9 (H1.out.up HK.out.1.rows.two.below HK.out.1.rows.two.below.size) (H2.out.up HK.out.1.rows.two.below HK.out.1.rows.two.below.size) z2 z1).mono ?_
      rw [HMM.out.1]
      rintro e w10 ⟨rfl, hb⟩
      have HL := Lib.hid (And.intro (HK.out.1.on hb) (HK.out.2.on hb))
      clear hb HK c0 c1' d0 d1'
      have c0 : w10.cell? ⟨w.heap.size, 0, none⟩ = some (.slice A1 m1 c1) := HL.out.1.rows.two.b0.cell 0
      have c1' : w10.cell? ⟨w.heap.size, 1, none⟩ = some (.slice A2 n2 c2) := HL.out.1.rows.two.b0.cell 1
      have d0 : w10.cell? ⟨w.heap.size + 1, 0, none⟩ = some (.slice B1 m1 d1) := HL.out.1.rows.two.b1.cell 0
      have d1' : w10.cell? ⟨w.heap.size + 1, 1, none⟩ = some (.slice B2 m2 d2) := HL.out.1.rows.two.b1.cell 1
      go_wp2_with fail
      refine (refMay_any B1 B2 m1 d1 m2 d2 0 0 l2 s2 w10 (H3.out.up HL.out.1.rows.two.below HL.out.1.rows.two.below.size) (H4.out.up HL.out.1.rows.two.below HL.out.1.rows.two.below.size) z4 z3).mono ?_
      rw [HMM.out.2]
      rintro e w11 ⟨rfl, hb⟩
      have HM := Lib.hid (And.intro (HL.out.1.on hb) (HL.out.2.on hb))
      clear hb HL c0 c1' d0 d1'
      have c0 : w11.cell? ⟨w.heap.size, 0, none⟩ = some (.slice A1 m1 c1) := HM.out.1.rows.two.b0.cell 0
      have c1' : w11.cell? ⟨w.heap.size, 1, none⟩ = some (.slice A2 n2 c2) := HM.out.1.rows.two.b0.cell 1
      have d0 : w11.cell? ⟨w.heap.size + 1, 0, none⟩ = some (.slice B1 m1 d1) := HM.out.1.rows.two.b1.cell 0
      have d1' : w11.cell? ⟨w.heap.size + 1, 1, none⟩ = some (.slice B2 m2 d2) := HM.out.1.rows.two.b1.cell 1
      have a0 : w11.cell? ⟨q5, 0, none⟩ = some (.slice X1 m1 p1) := HM.out.1.b5.cell 0
      have a1 : w11.cell? ⟨q5, 1, none⟩ = some (.slice X2 n2 p2) := HM.out.1.b5.cell 1
      have b0 : w11.cell? ⟨q6, 0, none⟩ = some (.slice Y1 m1 r1) := HM.out.1.b6.cell 0
      have b1 : w11.cell? ⟨q6, 1, none⟩ = some (.slice Y2 m2 r2) := HM.out.1.b6.cell 1
      go_wp2_with fail
      refine (spoil_any 0 X1 X2 m1 p1 n2 p2 _ _ w11 (own_more HM.out.1.rows.o1 (Nat.zero_le _)) (own_more HM.out.1.rows.o2 (Nat.zero_le _)) (by omega) (by omega) (Nat.zero_le _)).mono ?_
      rintro e w12 ⟨rfl, hO⟩
      have HN : Hid (MjSt w (.slice A1 m1 c1) (.slice A2 n2 c2) (.slice B1 m1 d1) (.slice B2 m2 d2) bM q9 q11 (.slice M1 ml.length k1) (.slice M2 ms.length k2) (.slice J1 jl.length j1) (.slice J2 js.length j2) ml.length ms.length jl.length js.length ml jl ms js w12 ∧ Blk w12 q6 26 #[.slice Y1 m1 r1, .slice Y2 m2 r2] ∧ w12.ownsRow bY 66 2 (.slice Y1 m1 r1) m1 (prs l2) ∧ w12.ownsRow bY 3 1 (.slice Y2 m2 r2) m2 (s2.map (Value.int .i64)) ∧ w.heap.size + 2 ≤ bY) :=
        ⟨HM.out.2.mid hO (fun k hk => by
          rcases hk with hk | hk
          · exact ⟨by have := (HM.out.1.rows.o1.lt k hk).1; have := HM.out.1.rows.sX; omega, HY.out.1 k hk⟩
          · exact ⟨by have := (HM.out.1.rows.o2.lt k hk).1; have := HM.out.1.rows.sX; omega, HY.out.2.1 k hk⟩),
        HM.out.1.b6.only hO (fun hS => by
          rcases hS with hk | hk
          · exact own_blk HM.out.1.rows.o1 HM.out.1.b6 (by decide) hk
          · exact own_blk HM.out.1.rows.o2 HM.out.1.b6 (by decide) hk),
        own_only HM.out.1.rows.o3 hO (fun k hb _ _ hS => by
          rcases hS with hk | hk
          · have := HM.out.1.rows.k1 k hk; omega
          · have := HM.out.1.rows.k2 k hk; omega),
        own_only HM.out.1.rows.o4 hO (fun k hb _ _ hS => by
          rcases hS with hk | hk
          · have := HM.out.1.rows.k1 k hk; omega
          · have := HM.out.1.rows.k2 k hk; omega), by have := HM.out.1.rows.sX; have := HM.out.1.rows.sY; omega⟩
      clear hO HM a0 a1 b0 b1 c0 c1' d0 d1'
      have b0 : w12.cell? ⟨q6, 0, none⟩ = some (.slice Y1 m1 r1) := HN.out.2.1.cell 0
      have b1 : w12.cell? ⟨q6, 1, none⟩ = some (.slice Y2 m2 r2) := HN.out.2.1.cell 1
      go_wp2_with fail
      refine (spoil_any 0 Y1 Y2 m1 r1 m2 r2 _ _ w12 (own_more HN.out.2.2.1 (Nat.zero_le _)) (own_more HN.out.2.2.2.1 (Nat.zero_le _)) (by omega) (by omega) (Nat.zero_le _)).mono ?_
      rintro e w13 ⟨rfl, hO⟩
      have HQ : Hid (MjSt w (.slice A1 m1 c1) (.slice A2 n2 c2) (.slice B1 m1 d1) (.slice B2 m2 d2) bM q9 q11 (.slice M1 ml.length k1) (.slice M2 ms.length k2) (.slice J1 jl.length j1) (.slice J2 js.length j2) ml.length ms.length jl.length js.length ml jl ms js w13) := HN.out.1.mid hO (fun k hk => by
          rcases hk with hk | hk
          · exact ⟨by have := (HN.out.2.2.1.lt k hk).1; have := HN.out.2.2.2.2; omega, HY.out.2.2.1 k hk⟩
          · exact ⟨by have := (HN.out.2.2.2.1.lt k hk).1; have := HN.out.2.2.2.2; omega, HY.out.2.2.2 k hk⟩)
      clear hO HN b0 b1
      have c0 : w13.cell? ⟨w.heap.size, 0, none⟩ = some (.slice A1 m1 c1) := HQ.out.two.b0.cell 0
      have c1' : w13.cell? ⟨w.heap.size, 1, none⟩ = some (.slice A2 n2 c2) := HQ.out.two.b0.cell 1
      have d0 : w13.cell? ⟨w.heap.size + 1, 0, none⟩ = some (.slice B1 m1 d1) := HQ.out.two.b1.cell 0
      have d1' : w13.cell? ⟨w.heap.size + 1, 1, none⟩ = some (.slice B2 m2 d2) := HQ.out.two.b1.cell 1
      go_wp2_with fail
      refine (refMeet_any A1 A2 B1 B2 m1 c1 n2 c2 d1 m2 d2 0 0 0 l1 l2 s1 w13 (H1.out.up HQ.out.two.below HQ.out.two.below.size) (H2.out.up HQ.out.two.below HQ.out.two.below.size) (H3.out.up HQ.out.two.below HQ.out.two.below.size) u1 u2).mono ?_
      rw [HGM.out.1, HGM.out.2.1, HGM.out.2.2]
      rintro e w14 ⟨N1, i1, N2, i2, rfl, r3, r4, hb⟩
      have HR := Lib.hid (And.intro (HQ.out.on hb) (And.intro r3 r4))
      clear hb HQ c0 c1' d0 d1' r3 r4
      go_upto_region 14 with (fail)
      refine wp_abs (fun wx => MjSt w (.slice A1 m1 c1) (.slice A2 n2 c2) (.slice B1 m1 d1) (.slice B2 m2 d2) bM q9 q11 (.slice M1 ml.length k1) (.slice M2 ms.length k2) (.slice J1 jl.length j1) (.slice J2 js.length j2) ml.length ms.length jl.length js.length ml jl ms js wx ∧ Blk wx w14.heap.size 26 #[.slice N1 ml.length i1, .slice N2 ms.length i2] ∧ wx.ownsRow 0 66 2 (.slice N1 ml.length i1) ml.length (prs ml) ∧ wx.ownsRow 0 3 1 (.slice N2 ms.length i2) ms.length (ms.map (Value.int .i64))) ⟨HR.out.1.on ((Below.refl _ _).alloc (Nat.le_refl _) _), Blk.new _ _ _, own_more (HR.out.2.1.alloc _) (Nat.zero_le _), own_more (HR.out.2.2.alloc _) (Nat.zero_le _)⟩ ?_
      rintro w15 ⟨hS, hB, r3, r4⟩
      have HS := Lib.hid (And.intro hS (And.intro hB (And.intro r3 r4)))
      clear hS hB HR r3 r4
      generalize w14.heap.size = q13 at *
      have c0 : w15.cell? ⟨w.heap.size, 0, none⟩ = some (.slice A1 m1 c1) := HS.out.1.two.b0.cell 0
      have c1' : w15.cell? ⟨w.heap.size, 1, none⟩ = some (.slice A2 n2 c2) := HS.out.1.two.b0.cell 1
      have d0 : w15.cell? ⟨w.heap.size + 1, 0, none⟩ = some (.slice B1 m1 d1) := HS.out.1.two.b1.cell 0
      have d1' : w15.cell? ⟨w.heap.size + 1, 1, none⟩ = some (.slice B2 m2 d2) := HS.out.1.two.b1.cell 1
      go_wp2_with fail
      refine (refJoin_any A1 A2 B1 B2 m1 c1 n2 c2 d1 m2 d2 0 0 0 l1 l2 s1 w15 (H1.out.up HS.out.1.two.below HS.out.1.two.below.size) (H2.out.up HS.out.1.two.below HS.out.1.two.below.size) (H3.out.up HS.out.1.two.below HS.out.1.two.below.size) u1 u2).mono ?_
      rw [HGJ.out.1, HGJ.out.2.1, HGJ.out.2.2]
      rintro e w16 ⟨O1, o1, O2, o2, rfl, r5, r6, hb⟩
      have HT := Lib.hid (And.intro (HS.out.1.on hb) (And.intro (HS.out.2.1.below hb HS.out.2.1.lt) (And.intro (own_stay HS.out.2.2.1 (Only.of_below hb _)) (And.intro (own_stay HS.out.2.2.2 (Only.of_below hb _)) (And.intro r5 r6)))))
      clear hb HS c0 c1' d0 d1' r5 r6
      go_upto_region 15 with (fail)
      refine wp_abs (fun wx => MjSt w (.slice A1 m1 c1) (.slice A2 n2 c2) (.slice B1 m1 d1) (.slice B2 m2 d2) bM q9 q11 (.slice M1 ml.length k1) (.slice M2 ms.length k2) (.slice J1 jl.length j1) (.slice J2 js.length j2) ml.length ms.length jl.length js.length ml jl ms js wx ∧ NoSt q13 w16.heap.size (.slice N1 ml.length i1) (.slice N2 ms.length i2) (.slice O1 jl.length o1) (.slice O2 js.length o2) ml.length ms.length jl.length js.length ml jl ms js wx) ⟨HT.out.1.on ((Below.refl _ _).alloc (Nat.le_refl _) _), ⟨HT.out.2.1.alloc _, Blk.new _ _ _, HT.out.2.2.1.alloc _, HT.out.2.2.2.1.alloc _, own_more (HT.out.2.2.2.2.1.alloc _) (Nat.zero_le _), own_more (HT.out.2.2.2.2.2.alloc _) (Nat.zero_le _)⟩⟩ ?_
      rintro w17 ⟨hS, hB⟩
      have HU := Lib.hid (And.intro hS hB)
      clear hS hB HT
      generalize w16.heap.size = q15 at *
      have v1 := own_max HU.out.1.o1
      have v2 := own_max HU.out.1.o2
      have v3 := own_max HU.out.1.o3
      have v4 := own_max HU.out.1.o4
      have hbe : (me == me) = true := by simp
      have hbj : (je == je) = true := by simp
      have c0 : w17.cell? ⟨w.heap.size, 0, none⟩ = some (.slice A1 m1 c1) := HU.out.1.two.b0.cell 0
      have c1' : w17.cell? ⟨w.heap.size, 1, none⟩ = some (.slice A2 n2 c2) := HU.out.1.two.b0.cell 1
      have d0 : w17.cell? ⟨w.heap.size + 1, 0, none⟩ = some (.slice B1 m1 d1) := HU.out.1.two.b1.cell 0
      have d1' : w17.cell? ⟨w.heap.size + 1, 1, none⟩ = some (.slice B2 m2 d2) := HU.out.1.two.b1.cell 1
      go_wp2_with fail
      refine (refWithin_any A1 A2 B1 B2 m1 c1 n2 c2 d1 m2 d2 0 0 l1 l2 w17 (H1.out.up HU.out.1.two.below HU.out.1.two.below.size) (H3.out.up HU.out.1.two.below HU.out.1.two.below.size) u1 e1).mono ?_
      rintro e w18 ⟨rfl, hb⟩
      have HV := Lib.hid (And.intro (HU.out.1.on hb) (HU.out.2.on hb))
      clear hb HU c0 c1' d0 d1'
      generalize withinF l1 l2 = wi at *
      have hbw : (wi == wi) = true := by simp
      have x0 : w18.cell? ⟨q9, 0, none⟩ = some (.slice M1 ml.length k1) := HV.out.1.b9.cell 0
      have x1' : w18.cell? ⟨q9, 1, none⟩ = some (.slice M2 ms.length k2) := HV.out.1.b9.cell 1
      have y0 : w18.cell? ⟨q13, 0, none⟩ = some (.slice N1 ml.length i1) := HV.out.2.b13.cell 0
      have y1 : w18.cell? ⟨q13, 1, none⟩ = some (.slice N2 ms.length i2) := HV.out.2.b13.cell 1
      go_wp2_with fail
      refine (equal_any M1 M2 N1 N2 ml.length k1 ms.length k2 ml.length i1 ms.length i2 0 0 0 0 ml ml ms ms w18 (own_rdm HV.out.1.o1) (own_rdm HV.out.1.o2) (own_rdm HV.out.2.o1) (own_rdm HV.out.2.o2) v1 v2 v1 v2).mono ?_
      rw [eqS_one]
      rintro e w19 ⟨rfl, hb⟩
      have HW := Lib.hid (And.intro (HV.out.1.on hb) (HV.out.2.on hb))
      clear hb HV x0 x1' y0 y1
      have x0 : w19.cell? ⟨q11, 0, none⟩ = some (.slice J1 jl.length j1) := HW.out.1.b11.cell 0
      have x1' : w19.cell? ⟨q11, 1, none⟩ = some (.slice J2 js.length j2) := HW.out.1.b11.cell 1
      have y0 : w19.cell? ⟨q15, 0, none⟩ = some (.slice O1 jl.length o1) := HW.out.2.b15.cell 0
      have y1 : w19.cell? ⟨q15, 1, none⟩ = some (.slice O2 js.length o2) := HW.out.2.b15.cell 1
      go_wp2_with fail
      refine (equal_any J1 J2 O1 O2 jl.length j1 js.length j2 jl.length o1 js.length o2 0 0 0 0 jl jl js js w19 (own_rdm HW.out.1.o3) (own_rdm HW.out.1.o4) (own_rdm HW.out.2.o3) (own_rdm HW.out.2.o4) v3 v4 v3 v4).mono ?_
      rw [eqS_one]
      rintro e w20 ⟨rfl, hb⟩
      have HZ := Lib.hid (HW.out.1.two.on hb)
      clear hb HW x0 x1' y0 y1
      go_wp2_with fail
      refine (wakes_any w20).mono ?_
      rintro e w21 ⟨rfl, hb⟩
      have HQ := Lib.hid (HZ.out.on hb)
      clear hb HZ
      go_wp2
      go_ret
      exact ⟨rfl, HQ.out.below⟩
end Go.Proofs.Ytbjfbmienlojkaa
