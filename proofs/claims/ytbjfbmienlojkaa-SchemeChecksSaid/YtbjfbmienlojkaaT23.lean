/- Canon: a scheme in memory of its own, its classes numbered anew. -/
import Derived.Test.YtbjfbmienlojkaaT16
import Derived.Test.YtbjfbmienlojkaaT22
import Derived.StillTailTactics
namespace Go.Proofs.Ytbjfbmienlojkaa
open Go.RowKit

def bump (f : Nat → Int) (c : Nat) (nx : Int) : Nat → Int := if f c = 0 then fun k => if k = c then nx + 1 else f k else f
def nxt (f : Nat → Int) (c : Nat) (nx : Int) : Int := if f c = 0 then nx + 1 else nx
/-- the lines with their classes numbered anew -/
def canGo : (Nat → Int) → Int → List (Int × Int) → List (Int × Int)
  | _, _, [] => []
  | f, nx, (c, r) :: t => if c < 0 then (c, r) :: canGo f nx t else (bump f c.toNat nx c.toNat - 1, r) :: canGo (bump f c.toNat nx) (nxt f c.toNat nx) t
def canonF (ls : List (Int × Int)) : List (Int × Int) := canGo (fun _ => 0) 0 ls
theorem canGo_len : ∀ (ls : List (Int × Int)) (f : Nat → Int) (nx : Int), (canGo f nx ls).length = ls.length := by
  intro ls
  induction ls with
  | nil => intro f nx; rfl
  | cons p t ih =>
    intro f nx
    obtain ⟨c, r⟩ := p
    unfold canGo
    split <;> simp [ih]
theorem canonF_len (ls : List (Int × Int)) : (canonF ls).length = ls.length := canGo_len ls _ _

theorem prs_set (l : List (Int × Int)) (k : Nat) (x : Int) (h : k < l.length) : (prs l).set (k * 2) (.int .i64 x) = prs (l.set k (x, l[k].2)) := by
  induction l generalizing k with
  | nil => simp at h
  | cons a l ih =>
    rcases k with _ | k
    · simp [prs]
    · have := ih k (by simpa using h)
      simp only [prs, List.flatMap_cons] at this ⊢
      rw [show (k + 1) * 2 = k * 2 + 2 by omega]
      simpa using this

theorem own_at_blk {w : World} {base : Nat} {e : TypeId} {sz n g : Nat} {v : Value} {xs : List Value} (h : w.ownsRow base e sz v n xs) (hg : v.ownBlock = some g) : ∃ cs, Blk w g e cs := by
  rcases h.2 with ⟨rfl, _⟩ | ⟨g', cap, cur, rfl, _, hgg, _⟩
  · simp [Value.ownBlock] at hg
  · simp [Value.ownBlock] at hg
    subst hg
    exact ⟨cur, hgg⟩
theorem blk_type {w : World} {g : Nat} {t u : TypeId} {a b : Array Value} (h : Blk w g t a) (k : Blk w g u b) : t = u := by
  unfold Blk at h k
  rw [h] at k
  injection k with k
  injection k

/-- memory while Canon's loop runs -/
structure CanSt (w0 : World) (v1 v2 : Value) (q2 q5 : Nat) (B1 : Option Addr) (d1 : Nat) (B2 : Option Addr) (d2 : Nat) (n m : Nat) (cur : List (Int × Int)) (st : List Int) (f : Nat → Int) (w : World) : Prop where
  b1 : Blk w w0.heap.size 26 #[v1, v2]
  b2 : Blk w (w0.heap.size + 1) 26 #[.slice none 0 0, .slice none 0 0]
  b5 : Blk w q5 26 #[.slice B1 n d1, .slice B2 m d2]
  b6 : ∃ cs, Blk w (q5 + 1) 100 cs ∧ cs.size = 25 ∧ ∀ c, c < 25 → cs[c]? = some (.int .i64 (f c))
  o1 : w.ownsRow q2 66 2 (.slice B1 n d1) n (prs cur)
  o2 : w.ownsRow q2 3 1 (.slice B2 m d2) m (st.map (Value.int .i64))
  u1 : ∀ k, (Value.slice B1 n d1).ownBlock = some k → k < q5
  s1 : w0.heap.size + 2 ≤ q2
  s2 : q2 ≤ q5
  below : Below w0.heap.size w0 w

section
variable {w0 : World} {v1 v2 : Value} {q2 q5 : Nat} {B1 B2 : Option Addr} {d1 d2 n m : Nat} {cur : List (Int × Int)} {st : List Int} {f : Nat → Int} {w w' : World}
theorem CanSt.on (h : CanSt w0 v1 v2 q2 q5 B1 d1 B2 d2 n m cur st f w) (hb : Below w.heap.size w w') : CanSt w0 v1 v2 q2 q5 B1 d1 B2 d2 n m cur st f w' := by
  obtain ⟨cs, k6, k7, k8⟩ := h.b6
  exact ⟨h.b1.below hb h.b1.lt, h.b2.below hb h.b2.lt, h.b5.below hb h.b5.lt, ⟨cs, k6.below hb k6.lt, k7, k8⟩,
    own_only h.o1 (Only.of_below hb (fun _ => False)) (fun _ _ _ _ h => h), own_only h.o2 (Only.of_below hb (fun _ => False)) (fun _ _ _ _ h => h), h.u1, h.s1, h.s2, h.below.trans (hb.mono h.below.size)⟩
theorem CanSt.alloc (h : CanSt w0 v1 v2 q2 q5 B1 d1 B2 d2 n m cur st f w) (o : Obj) : CanSt w0 v1 v2 q2 q5 B1 d1 B2 d2 n m cur st f (w.alloc o) := h.on ((Below.refl _ _).alloc (Nat.le_refl _) _)
theorem CanSt.drew (h : CanSt w0 v1 v2 q2 q5 B1 d1 B2 d2 n m cur st f w) : CanSt w0 v1 v2 q2 q5 B1 d1 B2 d2 n m cur st f w.drew := h.on ⟨rfl, rfl, rfl, Nat.le_refl _, fun _ _ => rfl⟩
/-- number[c] = x -/
theorem CanSt.num (h : CanSt w0 v1 v2 q2 q5 B1 d1 B2 d2 n m cur st f w) (c : Nat) (hc : c < 25) (x : Int) : CanSt w0 v1 v2 q2 q5 B1 d1 B2 d2 n m cur st (fun k => if k = c then x else f k) (w.setCell ⟨q5 + 1, c, none⟩ (.int .i64 x)) := by
  obtain ⟨cs, k6, k7, k8⟩ := h.b6
  have hs1 := h.s1
  have hs2 := h.s2
  have l5 := h.b5.lt
  refine ⟨h.b1.far (by simp; omega) _, h.b2.far (by simp; omega) _, h.b5.far (by simp) _, ⟨_, k6.set_ c _, by simpa using k7, fun j hj => ?_⟩, own_far h.o1 ?_ _, own_far h.o2 ?_ _, h.u1, hs1, hs2, h.below.setCell (by simp; omega) _⟩
  · rw [Array.getElem?_setIfInBounds]
    by_cases he : c = j
    · subst he
      rw [if_pos rfl, if_pos rfl, if_pos (by omega)]
    · rw [if_neg he, if_neg (by omega)]
      exact k8 j hj
  · intro hh
    have := h.u1 _ hh
    simp at this
    omega
  · intro hh
    simp at hh
    obtain ⟨cs', e'⟩ := own_at_blk h.o2 hh
    exact absurd (blk_type k6 e') (by decide)
/-- out.Lines[k].Class = x -/
theorem CanSt.put {g : Nat} (h : CanSt w0 v1 v2 q2 q5 (some ⟨g, 0, none⟩) d1 B2 d2 n m cur st f w) (k : Nat) (hk : k < cur.length) (x : Int) : CanSt w0 v1 v2 q2 q5 (some ⟨g, 0, none⟩) d1 B2 d2 n m (cur.set k (x, cur[k].2)) st f (w.setCell ⟨g, k * 2, none⟩ (.int .i64 x)) := by
  obtain ⟨cs, k6, k7, k8⟩ := h.b6
  have hs1 := h.s1
  have hs2 := h.s2
  have l5 := h.u1 g rfl
  have l2 := (h.o1.lt g rfl).1
  refine ⟨h.b1.far (by simp; omega) _, h.b2.far (by simp; omega) _, ?_, ⟨cs, k6.far (by simp; omega) _, k7, k8⟩, ?_, own_far h.o2 ?_ _, ?_, hs1, hs2, h.below.setCell (by simp; omega) _⟩
  · exact h.b5.far (by simp; omega) _
  · rw [← prs_set cur k x hk]
    exact own_set h.o1 (k * 2) _
  · intro hh
    obtain ⟨c1, e1⟩ := own_at_blk h.o1 (g := g) rfl
    obtain ⟨c2, e2⟩ := own_at_blk h.o2 hh
    exact absurd (blk_type e1 e2) (by decide)
  · exact h.u1
end
end Go.Proofs.Ytbjfbmienlojkaa
