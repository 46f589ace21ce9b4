/- Canon: a scheme in memory of its own, its classes numbered anew.
   Canon: the walk.
   Rows of rows of ints, in memory of one's own: how they are kept, grown and written. -/
import Derived.Test.YtbjfbmienlojkaaT16
import Derived.Test.YtbjfbmienlojkaaT22
import Derived.StillTailTactics
namespace Go.Proofs.Ytbjfbmienlojkaa
open Go.RowKit

def bump (f : Nat → Int) (c : Nat) (nx : Int) : Nat → Int := if f c = 0 then fun k => if k = c then nx + 1 else f k else f
def nxt (f : Nat → Int) (c : Nat) (nx : Int) : Int := if f c = 0 then nx + 1 else nx
/-- the lines with their classes numbered anew -/
def canGo : (Nat → Int) → Int → List (Int × Int) → List (Int × Int)
  | _, _, [] => []
  | f, nx, (c, r) :: t => if c < 0 then (c, r) :: canGo f nx t else (bump f c.toNat nx c.toNat - 1, r) :: canGo (bump f c.toNat nx) (nxt f c.toNat nx) t
def canonF (ls : List (Int × Int)) : List (Int × Int) := canGo (fun _ => 0) 0 ls
theorem canGo_len : ∀ (ls : List (Int × Int)) (f : Nat → Int) (nx : Int), (canGo f nx ls).length = ls.length := by
  intro ls
  induction ls with
  | nil => intro f nx; rfl
  | cons p t ih =>
    intro f nx
    obtain ⟨c, r⟩ := p
    unfold canGo
    split <;> simp [ih]
theorem canonF_len (ls : List (Int × Int)) : (canonF ls).length = ls.length := canGo_len ls _ _

theorem prs_set (l : List (Int × Int)) (k : Nat) (x : Int) (h : k < l.length) : (prs l).set (k * 2) (.int .i64 x) = prs (l.set k (x, l[k].2)) := by
  induction l generalizing k with
  | nil => simp at h
  | cons a l ih =>
    rcases k with _ | k
    · simp [prs]
    · have := ih k (by simpa using h)
      simp only [prs, List.flatMap_cons] at this ⊢
      rw [show (k + 1) * 2 = k * 2 + 2 by omega]
      simpa using this

theorem own_at_blk {w : World} {base : Nat} {e : TypeId} {sz n g : Nat} {v : Value} {xs : List Value} (h : w.ownsRow base e sz v n xs) (hg : v.ownBlock = some g) : ∃ cs, Blk w g e cs := by
  rcases h.2 with ⟨rfl, _⟩ | ⟨g', cap, cur, rfl, _, hgg, _⟩
  · simp [Value.ownBlock] at hg
  · simp [Value.ownBlock] at hg
    subst hg
    exact ⟨cur, hgg⟩
theorem blk_type {w : World} {g : Nat} {t u : TypeId} {a b : Array Value} (h : Blk w g t a) (k : Blk w g u b) : t = u := by
  unfold Blk at h k
  rw [h] at k
  injection k with k
  injection k

/-- memory while Canon's loop runs -/
structure CanSt (w0 : World) (v1 v2 : Value) (q2 q5 : Nat) (B1 : Option Addr) (d1 : Nat) (B2 : Option Addr) (d2 : Nat) (n m : Nat) (cur : List (Int × Int)) (st : List Int) (f : Nat → Int) (w : World) : Prop where
  b1 : Blk w w0.heap.size 26 #[v1, v2]
  b2 : Blk w (w0.heap.size + 1) 26 #[.slice none 0 0, .slice none 0 0]
  b5 : Blk w q5 26 #[.slice B1 n d1, .slice B2 m d2]
  b6 : ∃ cs, Blk w (q5 + 1) 100 cs ∧ cs.size = 25 ∧ ∀ c, c < 25 → cs[c]? = some (.int .i64 (f c))
  o1 : w.ownsRow q2 66 2 (.slice B1 n d1) n (prs cur)
  o2 : w.ownsRow q2 3 1 (.slice B2 m d2) m (st.map (Value.int .i64))
  u1 : ∀ k, (Value.slice B1 n d1).ownBlock = some k → k < q5
  s1 : w0.heap.size + 2 ≤ q2
  s2 : q2 ≤ q5
  below : Below w0.heap.size w0 w

section
variable {w0 : World} {v1 v2 : Value} {q2 q5 : Nat} {B1 B2 : Option Addr} {d1 d2 n m : Nat} {cur : List (Int × Int)} {st : List Int} {f : Nat → Int} {w w' : World}
theorem CanSt.on (h : CanSt w0 v1 v2 q2 q5 B1 d1 B2 d2 n m cur st f w) (hb : Below w.heap.size w w') : CanSt w0 v1 v2 q2 q5 B1 d1 B2 d2 n m cur st f w' := by
  obtain ⟨cs, k6, k7, k8⟩ := h.b6
  exact ⟨h.b1.below hb h.b1.lt, h.b2.below hb h.b2.lt, h.b5.below hb h.b5.lt, ⟨cs, k6.below hb k6.lt, k7, k8⟩,
    own_only h.o1 (Only.of_below hb (fun _ => False)) (fun _ _ _ _ h => h), own_only h.o2 (Only.of_below hb (fun _ => False)) (fun _ _ _ _ h => h), h.u1, h.s1, h.s2, h.below.trans (hb.mono h.below.size)⟩
theorem CanSt.alloc (h : CanSt w0 v1 v2 q2 q5 B1 d1 B2 d2 n m cur st f w) (o : Obj) : CanSt w0 v1 v2 q2 q5 B1 d1 B2 d2 n m cur st f (w.alloc o) := h.on ((Below.refl _ _).alloc (Nat.le_refl _) _)
theorem CanSt.drew (h : CanSt w0 v1 v2 q2 q5 B1 d1 B2 d2 n m cur st f w) : CanSt w0 v1 v2 q2 q5 B1 d1 B2 d2 n m cur st f w.drew := h.on ⟨rfl, rfl, rfl, Nat.le_refl _, fun _ _ => rfl⟩
/-- number[c] = x -/
theorem CanSt.num (h : CanSt w0 v1 v2 q2 q5 B1 d1 B2 d2 n m cur st f w) (c : Nat) (hc : c < 25) (x : Int) : CanSt w0 v1 v2 q2 q5 B1 d1 B2 d2 n m cur st (fun k => if k = c then x else f k) (w.setCell ⟨q5 + 1, c, none⟩ (.int .i64 x)) := by
  obtain ⟨cs, k6, k7, k8⟩ := h.b6
  have hs1 := h.s1
  have hs2 := h.s2
  have l5 := h.b5.lt
  refine ⟨h.b1.far (by simp; omega) _, h.b2.far (by simp; omega) _, h.b5.far (by simp) _, ⟨_, k6.set_ c _, by simpa using k7, fun j hj => ?_⟩, own_far h.o1 ?_ _, own_far h.o2 ?_ _, h.u1, hs1, hs2, h.below.setCell (by simp; omega) _⟩
  · rw [Array.getElem?_setIfInBounds]
    by_cases he : c = j
    · subst he
      rw [if_pos rfl, if_pos rfl, if_pos (by omega)]
    · rw [if_neg he, if_neg (by omega)]
      exact k8 j hj
  · intro hh
    have := h.u1 _ hh
    simp at this
    omega
  · intro hh
    simp at hh
    obtain ⟨cs', e'⟩ := own_at_blk h.o2 hh
    exact absurd (blk_type k6 e') (by decide)
/-- out.Lines[k].Class = x -/
theorem CanSt.put {g : Nat} (h : CanSt w0 v1 v2 q2 q5 (some ⟨g, 0, none⟩) d1 B2 d2 n m cur st f w) (k : Nat) (hk : k < cur.length) (x : Int) : CanSt w0 v1 v2 q2 q5 (some ⟨g, 0, none⟩) d1 B2 d2 n m (cur.set k (x, cur[k].2)) st f (w.setCell ⟨g, k * 2, none⟩ (.int .i64 x)) := by
  obtain ⟨cs, k6, k7, k8⟩ := h.b6
  have hs1 := h.s1
  have hs2 := h.s2
  have l5 := h.u1 g rfl
  have l2 := (h.o1.lt g rfl).1
  refine ⟨h.b1.far (by simp; omega) _, h.b2.far (by simp; omega) _, ?_, ⟨cs, k6.far (by simp; omega) _, k7, k8⟩, ?_, own_far h.o2 ?_ _, ?_, hs1, hs2, h.below.setCell (by simp; omega) _⟩
  · exact h.b5.far (by simp; omega) _
  · rw [← prs_set cur k x hk]
    exact own_set h.o1 (k * 2) _
  · intro hh
    obtain ⟨c1, e1⟩ := own_at_blk h.o1 (g := g) rfl
    obtain ⟨c2, e2⟩ := own_at_blk h.o2 hh
    exact absurd (blk_type e1 e2) (by decide)
  · exact h.u1
end
end Go.Proofs.Ytbjfbmienlojkaa

namespace Go.Proofs.Ytbjfbmienlojkaa
open Go.RowKit

theorem mayLen {ls : List (Int × Int)} {st : List Int} (h : may ls st = true) : ls.length ≤ 512 := ((by unfold may at h; simpa [and_assoc] using h : ls.length ≤ 512 ∧ _).1)
theorem mayLine {ls : List (Int × Int)} {st : List Int} (h : may ls st = true) : ∀ p ∈ ls, lineOk p = true := by
  unfold may at h
  simp at h
  exact fun p hp => h.2 p.1 p.2 hp
theorem leftLen : ∀ (st : List Int) (left : Int), 0 ≤ left → stanzasLeft left st = some 0 → (st.length : Int) ≤ left := by
  intro st
  induction st with
  | nil => intro left h0 _; simpa using h0
  | cons n t ih =>
    intro left h0 h
    unfold stanzasLeft at h
    split at h
    · cases h
    · have := ih (left - n) (by omega) h
      simp only [List.length_cons]
      omega
theorem mayStan {ls : List (Int × Int)} {st : List Int} (h : may ls st = true) : st.length ≤ 512 := by
  have h1 := mayLen h
  have : stanzasLeft ls.length st = some 0 := by unfold may at h; simp at h; exact h.1.2
  have := leftLen st ls.length (by omega) this
  omega

set_option maxHeartbeats 2000000 in
set_option maxRecDepth 100000 in
theorem canon_bad (A1 A2 : Option Addr) (n1 c1 n2 c2 L1 L2 : Nat) (ls : List (Int × Int)) (st : List Int) (w : World)
    (h1 : Rd w L1 w.heap.size 2 A1 n1 (prs ls)) (h2 : Rd w L2 w.heap.size 1 A2 n2 (st.map (Value.int .i64))) (hn2 : n2 ≤ maxLen) (hn1 : n1 ≤ maxLen) (hm : may ls st = false) :
    Calls Try.prog 27 #[.agg #[.slice A1 n1 c1, .slice A2 n2 c2]] w fun e w' => e = .returned (.tuple #[.agg #[.slice none 0 0, .slice none 0 0], .int .i64 2]) ∧ Below w.heap.size w w' := by
  have H1 := Lib.hid h1
  have H2 := Lib.hid h2
  have HM := Lib.hid hm
  clear h1 h2 hm
  go_enter Try.func27, Try.ntmps27
  go_upto_region 1 with (fail)
  refine wp_abs (fun wx => Blk wx w.heap.size 26 #[.slice A1 n1 c1, .slice A2 n2 c2] ∧ Blk wx (w.heap.size + 1) 26 #[.slice none 0 0, .slice none 0 0] ∧ Below w.heap.size w wx) ⟨(Blk.new _ _ _).alloc _, by simpa using Blk.new (w.alloc (.cells #[.slice A1 n1 c1, .slice A2 n2 c2] 26)) 26 #[.slice none 0 0, .slice none 0 0], ((Below.refl _ _).alloc (Nat.le_refl _) _).alloc (by simp) _⟩ ?_
  rintro wx ⟨k0, k1, hb⟩
  have c00 : wx.cell? ⟨w.heap.size, 0, none⟩ = some (.slice A1 n1 c1) := k0.cell 0
  have c01 : wx.cell? ⟨w.heap.size, 1, none⟩ = some (.slice A2 n2 c2) := k0.cell 1
  have HK := Lib.hid (And.intro k0 (And.intro k1 hb))
  clear k0 k1 hb
  go_wp2_with fail
  refine (check_any A1 A2 n1 c1 n2 c2 L1 L2 ls st wx (H1.out.up HK.out.2.2 HK.out.2.2.size) (H2.out.up HK.out.2.2 HK.out.2.2.size) hn2 hn1).mono ?_
  rintro e w1 ⟨rfl, hb1⟩
  have HA := Lib.hid (show Blk w1 (w.heap.size + 1) 26 #[.slice none 0 0, .slice none 0 0] ∧ Below w.heap.size w w1 from ⟨HK.out.2.1.below hb1 HK.out.2.1.lt, HK.out.2.2.trans (hb1.mono HK.out.2.2.size)⟩)
  have e0 : w1.cell? ⟨w.heap.size + 1, 0, none⟩ = some (.slice none 0 0) := HA.out.1.cell 0
  have e1 : w1.cell? ⟨w.heap.size + 1, 1, none⟩ = some (.slice none 0 0) := HA.out.1.cell 1
  have f0 : w1.frozen? ⟨w.heap.size + 1, 0, none⟩ = false := HA.out.1.frozen 0
  have f1 : w1.frozen? ⟨w.heap.size + 1, 1, none⟩ = false := HA.out.1.frozen 1
  rw [HM.out]
  clear hb1
  show _
  simp only [errOf]
  go_wp2
  have HF := (HA.out.1.set_ 0 (.slice none 0 0)).set_ 1 (.slice none 0 0)
  have g0 := HF.cell 0
  have g1 := HF.cell 1
  simp at g0 g1
  exact bodyPost_ret (v := .tuple #[.agg #[.slice none 0 0, .slice none 0 0], .int .i64 2]) (by simp [results, Try.results27, go_sem, g0, g1]) rfl ⟨rfl, (HA.out.2.setCell (by simp) _).setCell (by simp) _⟩

theorem set_mid {α : Type} (dn : List α) (p q : α) (rest : List α) : (dn ++ p :: rest).set dn.length q = dn ++ q :: rest := by
  induction dn with
  | nil => rfl
  | cons a dn ih => simp [ih]
theorem put_mid {w0 : World} {v1 v2 : Value} {q2 q5 g : Nat} {B2 : Option Addr} {d1 d2 n m : Nat} {dn rest : List (Int × Int)} {c r : Int} {st : List Int} {f : Nat → Int} {w : World} (h : CanSt w0 v1 v2 q2 q5 (some ⟨g, 0, none⟩) d1 B2 d2 n m (dn ++ (c, r) :: rest) st f w) (x : Int) :
    CanSt w0 v1 v2 q2 q5 (some ⟨g, 0, none⟩) d1 B2 d2 n m ((dn ++ [(x, r)]) ++ rest) st f (w.setCell ⟨g, dn.length * 2, none⟩ (.int .i64 x)) := by
  have hk : dn.length < (dn ++ (c, r) :: rest).length := by simp
  have := h.put dn.length hk x
  rw [set_mid] at this
  simpa using this
theorem bump_bound {f : Nat → Int} {nx : Int} (c : Nat) (h : ∀ k, 0 ≤ f k ∧ f k ≤ 512) (h0 : 0 ≤ nx) (h1 : nx < 512) : ∀ k, 0 ≤ bump f c nx k ∧ bump f c nx k ≤ 512 := by
  intro k
  unfold bump
  split
  · simp only
    split
    · omega
    · exact h k
  · exact h k

theorem cansT_init {w0 w1 : World} {v1 v2 : Value} {q2 : Nat} {B1 B2 : Option Addr} {d1 d2 : Nat} {ls : List (Int × Int)} {st : List Int}
    (k0 : Blk w1 w0.heap.size 26 #[v1, v2]) (k1 : Blk w1 (w0.heap.size + 1) 26 #[.slice none 0 0, .slice none 0 0]) (hb : Below w0.heap.size w0 w1) (hq : w0.heap.size + 2 ≤ q2) (hqq : q2 ≤ w1.heap.size)
    (o1 : w1.ownsRow q2 66 2 (.slice B1 ls.length d1) ls.length (prs ls)) (o2 : w1.ownsRow q2 3 1 (.slice B2 st.length d2) st.length (st.map (Value.int .i64))) (z : Array Value) (hz : z = (List.replicate 25 (Value.int .i64 0)).toArray) :
    CanSt w0 v1 v2 q2 w1.heap.size B1 d1 B2 d2 ls.length st.length ls st (fun _ => 0) ((w1.alloc (.cells #[.slice B1 ls.length d1, .slice B2 st.length d2] 26)).alloc (.cells z 100)) := by
  have hW : Below w1.heap.size w1 ((w1.alloc (.cells #[.slice B1 ls.length d1, .slice B2 st.length d2] 26)).alloc (.cells z 100)) := ((Below.refl _ _).alloc (Nat.le_refl _) _).alloc (by simp) _
  refine ⟨k0.below hW k0.lt, k1.below hW k1.lt, (Blk.new _ _ _).alloc _, ⟨z, blk_new_eq (by simp), by rw [hz]; rfl, fun c hc => ?_⟩,
    own_only o1 (Only.of_below hW (fun _ => False)) (fun _ _ _ _ h => h), own_only o2 (Only.of_below hW (fun _ => False)) (fun _ _ _ _ h => h), fun k hk => (o1.lt k hk).2, hq, hqq, hb.trans (hW.mono hb.size)⟩
  rw [hz]
  simp only [List.getElem?_toArray]
  rw [List.getElem?_replicate, if_pos hc]

set_option maxHeartbeats 4000000 in
set_option maxRecDepth 100000 in
theorem canon_ok (A1 A2 : Option Addr) (c1 c2 L1 L2 : Nat) (ls : List (Int × Int)) (st : List Int) (w : World)
    (h1 : Rd w L1 w.heap.size 2 A1 ls.length (prs ls)) (h2 : Rd w L2 w.heap.size 1 A2 st.length (st.map (Value.int .i64))) (hm : may ls st = true) :
    Calls Try.prog 27 #[.agg #[.slice A1 ls.length c1, .slice A2 st.length c2]] w fun e w' => ∃ B1 d1 B2 d2, e = .returned (.tuple #[.agg #[.slice B1 ls.length d1, .slice B2 st.length d2], .int .i64 0]) ∧
      w'.ownsRow w.heap.size 66 2 (.slice B1 ls.length d1) ls.length (prs (canonF ls)) ∧ w'.ownsRow w.heap.size 3 1 (.slice B2 st.length d2) st.length (st.map (Value.int .i64)) ∧ Below w.heap.size w w' := by
  have n1 := mayLen hm
  have n2 := mayStan hm
  have H1 := Lib.hid h1
  have H2 := Lib.hid h2
  have HM := Lib.hid hm
  have HL := Lib.hid (mayLine hm)
  clear h1 h2 hm
  go_enter Try.func27, Try.ntmps27
  go_upto_region 1 with (fail)
  refine wp_abs (fun wx => Blk wx w.heap.size 26 #[.slice A1 ls.length c1, .slice A2 st.length c2] ∧ Blk wx (w.heap.size + 1) 26 #[.slice none 0 0, .slice none 0 0] ∧ Below w.heap.size w wx) ⟨(Blk.new _ _ _).alloc _, by simpa using Blk.new (w.alloc (.cells #[.slice A1 ls.length c1, .slice A2 st.length c2] 26)) 26 #[.slice none 0 0, .slice none 0 0], ((Below.refl _ _).alloc (Nat.le_refl _) _).alloc (by simp) _⟩ ?_
  rintro wx ⟨k0, k1, hb⟩
  have c00 : wx.cell? ⟨w.heap.size, 0, none⟩ = some (.slice A1 ls.length c1) := k0.cell 0
  have c01 : wx.cell? ⟨w.heap.size, 1, none⟩ = some (.slice A2 st.length c2) := k0.cell 1
  have HK := Lib.hid (And.intro k0 (And.intro k1 hb))
  clear k0 k1 hb
  go_wp2_with fail
  refine (check_any A1 A2 ls.length c1 st.length c2 L1 L2 ls st wx (H1.out.up HK.out.2.2 HK.out.2.2.size) (H2.out.up HK.out.2.2 HK.out.2.2.size) (by unfold maxLen; omega) (by unfold maxLen; omega)).mono ?_
  rintro e w1 ⟨rfl, hb1⟩
  have HA := Lib.hid (show Blk w1 w.heap.size 26 #[.slice A1 ls.length c1, .slice A2 st.length c2] ∧ Blk w1 (w.heap.size + 1) 26 #[.slice none 0 0, .slice none 0 0] ∧ Below w.heap.size w w1 from ⟨HK.out.1.below hb1 HK.out.1.lt, HK.out.2.1.below hb1 HK.out.2.1.lt, HK.out.2.2.trans (hb1.mono HK.out.2.2.size)⟩)
  clear hb1 HK c00 c01
  have c00 : w1.cell? ⟨w.heap.size, 0, none⟩ = some (.slice A1 ls.length c1) := HA.out.1.cell 0
  have c01 : w1.cell? ⟨w.heap.size, 1, none⟩ = some (.slice A2 st.length c2) := HA.out.1.cell 1
  rw [HM.out]
  simp only [errOf]
  go_wp2_with fail
  refine (copied_any A1 A2 ls.length c1 st.length c2 L1 L2 ls st w1 (H1.out.up HA.out.2.2 HA.out.2.2.size) (H2.out.up HA.out.2.2 HA.out.2.2.size) (by omega) (by omega)).mono ?_
  rintro e w2 ⟨B1, d1, B2, d2, rfl, o1, o2, hb2⟩
  have zz := HA.out.2.1.lt
  have HB := Lib.hid (show Blk w2 w.heap.size 26 #[.slice A1 ls.length c1, .slice A2 st.length c2] ∧ Blk w2 (w.heap.size + 1) 26 #[.slice none 0 0, .slice none 0 0] ∧ Below w.heap.size w w2 ∧ w1.heap.size ≤ w2.heap.size ∧ w2.ownsRow w1.heap.size 66 2 (.slice B1 ls.length d1) ls.length (prs ls) ∧ w2.ownsRow w1.heap.size 3 1 (.slice B2 st.length d2) st.length (st.map (Value.int .i64)) from
    ⟨HA.out.1.below hb2 HA.out.1.lt, HA.out.2.1.below hb2 HA.out.2.1.lt, HA.out.2.2.trans (hb2.mono HA.out.2.2.size), hb2.size, o1, o2⟩)
  clear hb2 o1 o2 c00 c01
  go_upto_region 7 with (fail)
  refine wp_abs (CanSt w (.slice A1 ls.length c1) (.slice A2 st.length c2) w1.heap.size w2.heap.size B1 d1 B2 d2 ls.length st.length ls st (fun _ => 0)) (cansT_init HB.out.1 HB.out.2.1 HB.out.2.2.1 (by omega) HB.out.2.2.2.1 HB.out.2.2.2.2.1 HB.out.2.2.2.2.2 _ rfl) ?_
  intro w3 hC
  have c00 : w3.cell? ⟨w.heap.size, 0, none⟩ = some (.slice A1 ls.length c1) := hC.b1.cell 0
  have HC := Lib.hid hC
  clear hC HB HA
  go_wp2
  clear c00
  go_loopw [7, 21] (fun nv iv wr => ∃ (k : Nat) (nx : Int), k ≤ ls.length ∧ iv = .int .i64 k ∧ nv = .int .i64 nx ∧ 0 ≤ nx ∧ nx ≤ k ∧ Hid (∃ (f : Nat → Int) (dn : List (Int × Int)), dn.length = k ∧ canonF ls = dn ++ canGo f nx (ls.drop k) ∧ (∀ c, 0 ≤ f c ∧ f c ≤ 512) ∧
    CanSt w (.slice A1 ls.length c1) (.slice A2 st.length c2) w1.heap.size w2.heap.size B1 d1 B2 d2 ls.length st.length (dn ++ ls.drop k) st f wr)) (fun _ iv _ => ls.length - (intOf iv).toNat)
  case atStart => exact ⟨0, 0, by omega, rfl, rfl, by omega, by omega, Lib.hid ⟨fun _ => 0, [], rfl, rfl, fun _ => by simp, HC.out⟩⟩
  case round =>
    obtain ⟨k, nx, hk, rfl, rfl, hx0, hxk, H⟩ := hrel
    clear HC
    by_cases hlt : k < ls.length
    · obtain ⟨f, dn, hdn, hcan, hf, hS⟩ := H.out
      obtain ⟨b, o, hl, rfl, hL, hB, p1, p2⟩ := (H1.out.up hS.below hS.below.size).two hlt
      have hok := HL.out _ (List.getElem_mem hl)
      generalize hx : ls[k] = x at p1 p2 hok
      obtain ⟨c, r⟩ := x
      have hb := (lineOk_iff (c, r)).1 hok
      simp only at hb p1 p2
      have b1 := hb.1
      have b2 := hb.2.1
      have hdrop : ls.drop k = (c, r) :: ls.drop (k + 1) := by rw [drop_at ls k hl, hx]
      rw [hdrop] at hcan hS
      have HH := Lib.hid (And.intro hdn (And.intro hcan (And.intro hf hS)))
      have h512 := hf c.toNat
      clear hdn hcan hf hS hok hb H hx hdrop
      go_upto_region 10 with (fail)
      refine wp_abs (fun wx => CanSt w (.slice (some ⟨b, o, none⟩) ls.length c1) (.slice A2 st.length c2) w1.heap.size w2.heap.size B1 d1 B2 d2 ls.length st.length (dn ++ (c, r) :: ls.drop (k + 1)) st f wx ∧ Blk wx wr.heap.size 66 #[.int .i64 c, .int .i64 r]) ⟨HH.out.2.2.2.alloc _, Blk.new _ _ _⟩ ?_
      rintro wx ⟨hS, h9⟩
      clear p1 p2
      have n0 : wx.cell? ⟨wr.heap.size, 0, none⟩ = some (.int .i64 c) := h9.cell 0
      have HS := Lib.hid hS
      have H9 := Lib.hid h9
      clear hS h9
      by_cases hneg : c < 0
      · go_wp2
        go_roundw
        case rel =>
          refine ⟨k + 1, nx, by omega, by go_num, rfl, hx0, by omega, Lib.hid ⟨f, dn ++ [(c, r)], by simp [HH.out.1], ?_, HH.out.2.2.1, by simpa using HS.out⟩⟩
          rw [HH.out.2.1]
          simp [canGo, hneg]
        case measure => simp [intOf]; omega
      · obtain ⟨cn, rfl⟩ : ∃ cn : Nat, c = cn := ⟨c.toNat, by omega⟩
        have hcn : cn < 25 := by omega
        simp only [Int.toNat_natCast] at h512
        have h6 : Hid (∃ cs, Blk wx (w2.heap.size + 1) 100 cs ∧ cs.size = 25 ∧ ∀ c, c < 25 → cs[c]? = some (.int .i64 (f c))) := HS.out.b6
        have hcell : wx.cell? ⟨w2.heap.size + 1, cn, none⟩ = some (.int .i64 (f cn)) := by
          obtain ⟨cs, k6, k7, k8⟩ := h6.out
          rw [k6.cell, k8 cn hcn]
        have hfz : wx.frozen? ⟨w2.heap.size + 1, cn, none⟩ = false := by
          obtain ⟨cs, k6, k7, k8⟩ := h6.out
          exact k6.frozen cn
        generalize hfc : f cn = fc at hcell h512
        have HF := Lib.hid hfc
        clear h6 hfc
        obtain ⟨g, rfl⟩ : ∃ g, B1 = some ⟨g, 0, none⟩ := by
          rcases HS.out.o1.2 with ⟨_, h0⟩ | ⟨g, cap, cur, hv, _⟩
          · omega
          · injection hv with hv
            exact ⟨g, hv⟩
        have hq6 : w2.heap.size + 1 < wr.heap.size := by
          obtain ⟨_, k6, _⟩ := HH.out.2.2.2.b6
          exact k6.lt
        by_cases hz : fc = 0
        · have hbf : bump f cn nx = fun k => if k = cn then nx + 1 else f k := by unfold bump; rw [HF.out, hz, if_pos rfl]
          subst hz
          have HBF := Lib.hid hbf
          clear hbf
          go_upto_region 14 with (fail)
          refine wp_abs (fun wy => CanSt w (.slice (some ⟨b, o, none⟩) ls.length c1) (.slice A2 st.length c2) w1.heap.size w2.heap.size (some ⟨g, 0, none⟩) d1 B2 d2 ls.length st.length (dn ++ ((cn : Int), r) :: ls.drop (k + 1)) st (bump f cn nx) wy ∧ Blk wy wr.heap.size 66 #[.int .i64 cn, .int .i64 r]) ⟨by rw [HBF.out]; exact HS.out.num cn hcn (nx + 1), H9.out.far (by simp; omega) _⟩ ?_
          rintro wy ⟨hS, h9⟩
          have e5 : wy.cell? ⟨w2.heap.size, 0, none⟩ = some (.slice (some ⟨g, 0, none⟩) ls.length d1) := hS.b5.cell 0
          have e9 : wy.cell? ⟨wr.heap.size, 0, none⟩ = some (.int .i64 cn) := h9.cell 0
          have e6 : wy.cell? ⟨w2.heap.size + 1, cn, none⟩ = some (.int .i64 (nx + 1)) := by
            obtain ⟨cs, k6, k7, k8⟩ := hS.b6
            rw [k6.cell, k8 cn hcn]
            exact congrArg some (congrArg (Value.int .i64) (by rw [HBF.out]; simp))
          obtain ⟨⟨u, e1⟩, e2⟩ := own_at hS.o1 (i := k * 2) (by omega)
          have hw : IntKind.i64.wrap ((nx + 1) - 1) = (nx + 1) - 1 := by rw [IntKind.wrap_i64]; omega
          have HY := Lib.hid hS
          clear hS h9
          go_still_tail 10, (by kernel_rfl)
          change wpList _ _ _ _ _ wy.drew
          go_wp2
          have hb1 : bump f cn nx cn = (nx + 1) := by rw [HBF.out]; simp
          have hn1 : nxt f cn nx = (nx + 1) := by unfold nxt; rw [if_pos HF.out]
          go_roundw
          case rel =>
            refine ⟨k + 1, (nx + 1), by omega, by go_num, rfl, by omega, by omega, Lib.hid ⟨bump f cn nx, dn ++ [(nx, r)], by simp [HH.out.1], ?_, bump_bound cn HH.out.2.2.1 hx0 (by omega), ?_⟩⟩
            · rw [HH.out.2.1]
              have e : canGo f nx (((cn : Int), r) :: ls.drop (k + 1)) = (bump f cn nx cn - 1, r) :: canGo (bump f cn nx) (nxt f cn nx) (ls.drop (k + 1)) := by
                rw [canGo, if_neg hneg]; rfl
              rw [e, hb1, hn1]
              simp
            · have := (put_mid HY.out nx).drew
              rw [HH.out.1] at this
              exact this
          case measure => simp [intOf]; omega
        · have hzb : (fc == 0) = false := by simp [hz]
          have hbf : bump f cn nx = f := by unfold bump; rw [HF.out, if_neg hz]
          have HBF := Lib.hid hbf
          clear hbf
          go_upto_region 14 with (fail)
          refine wp_abs (fun wy => CanSt w (.slice (some ⟨b, o, none⟩) ls.length c1) (.slice A2 st.length c2) w1.heap.size w2.heap.size (some ⟨g, 0, none⟩) d1 B2 d2 ls.length st.length (dn ++ ((cn : Int), r) :: ls.drop (k + 1)) st (bump f cn nx) wy ∧ Blk wy wr.heap.size 66 #[.int .i64 cn, .int .i64 r]) ⟨by rw [HBF.out]; exact HS.out, H9.out⟩ ?_
          rintro wy ⟨hS, h9⟩
          have e5 : wy.cell? ⟨w2.heap.size, 0, none⟩ = some (.slice (some ⟨g, 0, none⟩) ls.length d1) := hS.b5.cell 0
          have e9 : wy.cell? ⟨wr.heap.size, 0, none⟩ = some (.int .i64 cn) := h9.cell 0
          have e6 : wy.cell? ⟨w2.heap.size + 1, cn, none⟩ = some (.int .i64 fc) := by
            obtain ⟨cs, k6, k7, k8⟩ := hS.b6
            rw [k6.cell, k8 cn hcn]
            exact congrArg some (congrArg (Value.int .i64) (by rw [HBF.out, HF.out]))
          obtain ⟨⟨u, e1⟩, e2⟩ := own_at hS.o1 (i := k * 2) (by omega)
          have hw : IntKind.i64.wrap (fc - 1) = fc - 1 := by rw [IntKind.wrap_i64]; omega
          have HY := Lib.hid hS
          clear hS h9
          go_still_tail 10, (by kernel_rfl)
          change wpList _ _ _ _ _ wy.drew
          go_wp2
          have hb1 : bump f cn nx cn = fc := by rw [HBF.out, HF.out]
          have hn1 : nxt f cn nx = nx := by unfold nxt; rw [if_neg (by rw [HF.out]; exact hz)]
          go_roundw
          case rel =>
            refine ⟨k + 1, nx, by omega, by go_num, rfl, by omega, by omega, Lib.hid ⟨bump f cn nx, dn ++ [((fc - 1), r)], by simp [HH.out.1], ?_, bump_bound cn HH.out.2.2.1 hx0 (by omega), ?_⟩⟩
            · rw [HH.out.2.1]
              have e : canGo f nx (((cn : Int), r) :: ls.drop (k + 1)) = (bump f cn nx cn - 1, r) :: canGo (bump f cn nx) (nxt f cn nx) (ls.drop (k + 1)) := by
                rw [canGo, if_neg hneg]; rfl
              rw [e, hb1, hn1]
              simp
            · have := (put_mid HY.out (fc - 1)).drew
              rw [HH.out.1] at this
              exact this
          case measure => simp [intOf]; omega
    · have hkn : k = ls.length := by omega
      subst hkn
      obtain ⟨f, dn, hdn, hcan, hf, hS⟩ := H.out
      rw [List.drop_length] at hcan hS
      simp only [canGo, List.append_nil] at hcan hS
      rw [← hcan] at hS
      have e50 : wr.cell? ⟨w2.heap.size, 0, none⟩ = some (.slice B1 ls.length d1) := hS.b5.cell 0
      have e51 : wr.cell? ⟨w2.heap.size, 1, none⟩ = some (.slice B2 st.length d2) := hS.b5.cell 1
      have e20 : wr.cell? ⟨w.heap.size + 1, 0, none⟩ = some (.slice none 0 0) := hS.b2.cell 0
      have e21 : wr.cell? ⟨w.heap.size + 1, 1, none⟩ = some (.slice none 0 0) := hS.b2.cell 1
      have f20 := hS.b2.frozen 0
      have f21 := hS.b2.frozen 1
      have HS := Lib.hid hS
      clear hS hcan hdn hf H
      go_wp2
      have HF := (HS.out.b2.set_ 0 (.slice B1 ls.length d1)).set_ 1 (.slice B2 st.length d2)
      have g0 := HF.cell 0
      have g1 := HF.cell 1
      simp at g0 g1
      refine bodyPost_ret (v := .tuple #[.agg #[.slice B1 ls.length d1, .slice B2 st.length d2], .int .i64 0]) (by simp [results, Try.results27, go_sem, g0, g1]) rfl ?_
      have s1 := HS.out.s1
      exact ⟨B1, d1, B2, d2, rfl, own_more (own_setCell (own_setCell HS.out.o1 (by simp; omega) _) (by simp; omega) _) (by omega), own_more (own_setCell (own_setCell HS.out.o2 (by simp; omega) _) (by simp; omega) _) (by omega), (HS.out.below.setCell (by simp) _).setCell (by simp) _⟩
end Go.Proofs.Ytbjfbmienlojkaa

namespace Go.Proofs.Ytbjfbmienlojkaa
open Go.RowKit

structure Own2 (w : World) (L : Nat) (v : Value) (xs : List Value) (lss : List (List Int)) : Prop where
  outer : w.ownsRow L 24 1 v lss.length xs
  inner : ∀ (j : Nat) (x : Value) (l : List Int), xs[j]? = some x → lss[j]? = some l → w.ownsRow L 3 1 x l.length (l.map (Value.int .i64))
  apart : ∀ (i j : Nat) (x y : Value), i ≠ j → xs[i]? = some x → xs[j]? = some y → x.ownBlock = none ∨ x.ownBlock ≠ y.ownBlock

section
variable {w w' : World} {L : Nat} {v v' x' : Value} {xs : List Value} {lss : List (List Int)}
theorem Own2.len (h : Own2 w L v xs lss) : xs.length = lss.length := by have := h.outer.1; simpa using this
theorem Own2.empty (w : World) (L : Nat) : Own2 w L (.slice none 0 0) [] [] := ⟨World.ownsRow_nil _ _ _ _, by simp, by simp⟩
theorem Own2.get (h : Own2 w L v xs lss) {j : Nat} {x : Value} (hx : xs[j]? = some x) : ∃ l, lss[j]? = some l ∧ w.ownsRow L 3 1 x l.length (l.map (Value.int .i64)) := by
  have hj : j < xs.length := (List.getElem?_eq_some_iff.1 hx).1
  have hj' : j < lss.length := by rw [← h.len]; exact hj
  exact ⟨_, List.getElem?_eq_getElem hj', h.inner j x _ hx (List.getElem?_eq_getElem hj')⟩
/-- outer and inner rows lie in blocks of their own -/
theorem Own2.far (h : Own2 w L v xs lss) {j : Nat} {x : Value} (hx : xs[j]? = some x) : (x.ownBlock = none ∨ x.ownBlock ≠ v.ownBlock) ∧ (v.ownBlock = none ∨ v.ownBlock ≠ x.ownBlock) := by
  obtain ⟨l, _, ho⟩ := h.get hx
  exact ⟨own_ne ho h.outer (by decide), own_ne h.outer ho (by decide)⟩
theorem Own2.on (h : Own2 w L v xs lss) (hb : Only (fun _ => False) w w') : Own2 w' L v xs lss :=
  ⟨own_stay h.outer hb, fun j x l hx hl => own_stay (h.inner j x l hx hl) hb, h.apart⟩
theorem Own2.below (h : Own2 w L v xs lss) (hb : Below w.heap.size w w') : Own2 w' L v xs lss := h.on (Only.of_below hb _)
theorem Own2.alloc (h : Own2 w L v xs lss) (o : Obj) : Own2 (w.alloc o) L v xs lss := h.on ((Only.refl _ _).alloc _)
theorem Own2.drew (h : Own2 w L v xs lss) : Own2 w.drew L v xs lss := h.on (Only.refl _ _).drew

theorem Own2.push {x : Value} {l : List Int} (h : Own2 w L v xs lss) (ho : w'.ownsRow L 24 1 v' (lss.length + 1) (xs ++ [x])) (hb : Only (fun k => v.ownBlock = some k) w w')
    (hx : w'.ownsRow L 3 1 x l.length (l.map (Value.int .i64))) (hfresh : ∀ k, x.ownBlock = some k → w.heap.size ≤ k) : Own2 w' L v' (xs ++ [x]) (lss ++ [l]) := by
  have hl := h.len
  refine ⟨by simpa using ho, fun j y m hy hm => ?_, fun i j y z hij hy hz => ?_⟩
  · rcases Nat.lt_or_ge j xs.length with hj | hj
    · rw [List.getElem?_append_left hj] at hy
      rw [List.getElem?_append_left (by omega)] at hm
      exact own_keep (h.inner j y m hy hm) (h.far hy).1 hb
    · rw [List.getElem?_append_right hj] at hy
      rw [List.getElem?_append_right (by omega), ← hl] at hm
      cases hd : j - xs.length with
      | zero =>
        rw [hd] at hy hm
        simp at hy hm
        subst hy hm
        exact hx
      | succ d => rw [hd] at hy; simp at hy
  · have new : ∀ (i : Nat) (y : Value), (xs ++ [x])[i]? = some y → (i < xs.length ∧ xs[i]? = some y) ∨ (i = xs.length ∧ y = x) := by
      intro i y hy
      rcases Nat.lt_or_ge i xs.length with hi | hi
      · rw [List.getElem?_append_left hi] at hy
        exact .inl ⟨hi, hy⟩
      · rw [List.getElem?_append_right hi] at hy
        cases hd : i - xs.length with
        | zero =>
          rw [hd] at hy
          simp at hy
          exact .inr ⟨by omega, hy.symm⟩
        | succ d => rw [hd] at hy; simp at hy
    have old : ∀ (i : Nat) (y : Value), xs[i]? = some y → y.ownBlock = none ∨ y.ownBlock ≠ x.ownBlock := by
      intro i y hy
      obtain ⟨m, _, hm⟩ := h.get hy
      cases hyb : y.ownBlock with
      | none => exact .inl rfl
      | some g =>
        right
        intro hh
        have := (hm.lt g hyb).2
        have := hfresh g hh.symm
        omega
    rcases new i y hy with ⟨hi, hy'⟩ | ⟨hi, rfl⟩
    · rcases new j z hz with ⟨hj, hz'⟩ | ⟨hj, rfl⟩
      · exact h.apart i j y z hij hy' hz'
      · exact old i y hy'
    · rcases new j z hz with ⟨hj, hz'⟩ | ⟨hj, rfl⟩
      · rcases old j z hz' with h0 | h0
        · cases hyb : y.ownBlock with
          | none => exact .inl rfl
          | some g => right; rw [h0]; simp
        · exact .inr (Ne.symm h0)
      · omega

theorem Own2.put {G o p : Nat} {n c : Nat} {x : Value} {l' : List Int} (h : Own2 w L (.slice (some ⟨G, o, none⟩) n c) xs lss) (hx : xs[p]? = some x) (hb : Only (fun k => x.ownBlock = some k) w w')
    (hx' : w'.ownsRow L 3 1 x' l'.length (l'.map (Value.int .i64))) (hnew : ∀ k, x'.ownBlock = some k → x.ownBlock = some k ∨ w.heap.size ≤ k) :
    Own2 (w'.setCell ⟨G, p, none⟩ x') L (.slice (some ⟨G, o, none⟩) n c) (xs.set p x') (lss.set p l') := by
  have hl := h.len
  have hp : p < xs.length := (List.getElem?_eq_some_iff.1 hx).1
  have ho := own_keep h.outer (h.far hx).2 hb
  have hform : ∃ c', (Value.slice (some ⟨G, o, none⟩) n c) = .slice (some ⟨G, 0, none⟩) lss.length c' := by
    rcases h.outer.2 with ⟨h0, _⟩ | ⟨g, cap, cur, hv, _⟩
    · cases h0
    · injection hv with h1 h2 h3
      injection h1 with h1
      injection h1 with h1 h4
      subst h1 h2 h3 h4
      exact ⟨c, rfl⟩
  obtain ⟨c', hv⟩ := hform
  injection hv with h1 h2 h3
  injection h1 with h1
  injection h1 with h1 h4
  subst h4 h3
  have key : ∀ (i : Nat) (y : Value), (xs.set p x')[i]? = some y → (i = p ∧ y = x') ∨ (i ≠ p ∧ xs[i]? = some y) := by
    intro i y hy
    rw [List.getElem?_set] at hy
    split at hy
    · rename_i he
      left
      exact ⟨he.symm, by simpa using hy.symm⟩
    · rename_i he
      exact .inr ⟨fun hh => he hh.symm, hy⟩
  have oldx : ∀ (i : Nat) (y : Value), i ≠ p → xs[i]? = some y → y.ownBlock = none ∨ y.ownBlock ≠ x'.ownBlock := by
    intro i y hi hy
    obtain ⟨m, _, hm⟩ := h.get hy
    cases hyb : y.ownBlock with
    | none => exact .inl rfl
    | some g =>
      right
      intro hh
      rcases hnew g hh.symm with h0 | h0
      · rcases h.apart i p y x hi hy hx with h1 | h1
        · rw [hyb] at h1; cases h1
        · exact h1 (hyb.trans h0.symm)
      · have := (hm.lt g hyb).2
        omega
  have nG : ∀ (y : Value) (m : List Int), w'.ownsRow L 3 1 y m.length (m.map (Value.int .i64)) → y.ownBlock ≠ some G := by
    intro y m hy hh
    obtain ⟨c1, e1⟩ := own_at_blk hy hh
    obtain ⟨c2, e2⟩ := own_at_blk ho (g := G) rfl
    exact absurd (blk_type e1 e2) (by decide)
  refine ⟨?_, fun j y m hy hm => ?_, fun i j y z hij hy hz => ?_⟩
  · rw [List.length_set]
    subst h2
    exact own_set ho p x'
  · rcases key j y hy with ⟨rfl, rfl⟩ | ⟨hj, hy'⟩
    · rw [List.getElem?_set_self (by omega)] at hm
      cases hm
      exact own_far hx' (nG _ _ hx') _
    · rw [List.getElem?_set_ne (fun hh => hj hh.symm)] at hm
      have k1 := own_keep (h.inner j y m hy' hm) (h.apart j p y x hj hy' hx) hb
      exact own_far k1 (nG _ _ k1) _
  · rcases key i y hy with ⟨rfl, rfl⟩ | ⟨hi, hy'⟩
    · rcases key j z hz with ⟨rfl, rfl⟩ | ⟨hj, hz'⟩
      · exact absurd rfl hij
      · rcases oldx j z hj hz' with h0 | h0
        · cases hyb : y.ownBlock with
          | none => exact .inl rfl
          | some g => right; rw [h0]; simp
        · exact .inr (Ne.symm h0)
    · rcases key j z hz with ⟨rfl, rfl⟩ | ⟨hj, hz'⟩
      · exact oldx i y hi hy'
      · exact h.apart i j y z hij hy' hz'
end
end Go.Proofs.Ytbjfbmienlojkaa
