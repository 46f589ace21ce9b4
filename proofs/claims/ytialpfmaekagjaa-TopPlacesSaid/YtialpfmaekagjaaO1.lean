/- own: the pieces of a text in plain words, and what the walk holds. -/
import Derived.Test.YtialpfmaekagjaaN2
namespace Go.Proofs.Ytialpfmaekagjaa
open Go.RowKit

abbrev P4 : Type := Nat × Nat × Nat × Bool
def ocC (p : P4) : List Value := [.int .i64 p.1, .int .i64 p.2.1, .int .i32 p.2.2.1, .bool p.2.2.2]
def ocCs (l : List P4) : List Value := l.flatMap ocC
theorem ocCs_cons (a : P4) (l : List P4) : ocCs (a :: l) = ocC a ++ ocCs l := rfl
theorem ocCs_append (a b : List P4) : ocCs (a ++ b) = ocCs a ++ ocCs b := by simp [ocCs]
theorem ocCs_len (l : List P4) : (ocCs l).length = l.length * 4 := by
  induction l with
  | nil => rfl
  | cons a l ih => rw [ocCs_cons, List.length_append, ih, List.length_cons]; simp [ocC]; omega
theorem ocCs_at (l : List P4) (k : Nat) (h : k < l.length) (j : Nat) (hj : j < 4) : (ocCs l)[k * 4 + j]? = (ocC l[k])[j]? := by
  induction l generalizing k with
  | nil => simp at h
  | cons a l ih =>
    rcases k with _ | k
    · simp only [ocCs_cons, List.getElem_cons_zero, Nat.zero_mul, Nat.zero_add]
      exact List.getElem?_append_left (by simp [ocC]; omega)
    · have := ih k (by simpa using h)
      rw [ocCs_cons, List.getElem_cons_succ, ← this, List.getElem?_append_right (by simp [ocC]; omega)]
      congr 1
      simp [ocC]
      omega
theorem ocCs_set (dn : List P4) (p p' : P4) (tl : List P4) (j : Nat) (u : Value) (hj : j < 4) (h : (ocC p).set j u = ocC p') : (ocCs (dn ++ p :: tl)).set (dn.length * 4 + j) u = ocCs (dn ++ p' :: tl) := by
  rw [ocCs_append, ocCs_append, ocCs_cons, ocCs_cons, ← h]
  rw [List.set_append_right _ _ (by rw [ocCs_len]; omega), ocCs_len, Nat.add_sub_cancel_left, List.set_append_left _ _ (by simp [ocC]; omega)]
/-- the pieces from a place on, and all -/
def owGo (s : ByteArray) : Nat → Nat → List P4
  | 0, _ => []
  | f + 1, pos => if pos < s.size then (pos, (Utf8.decode s pos).2, (Utf8.decode s pos).1, false) :: owGo s f (pos + (Utf8.decode s pos).2) else []
def owL (s : ByteArray) : List P4 := owGo s (s.size + 1) 0
theorem owGo_end (s : ByteArray) (f pos : Nat) (h : ¬ pos < s.size) : owGo s f pos = [] := by
  cases f with
  | zero => rfl
  | succ f => unfold owGo; rw [if_neg h]
theorem owGo_more (s : ByteArray) (f pos : Nat) (h : pos < s.size) (hf : s.size - pos < f) : ∃ f', s.size - (pos + (Utf8.decode s pos).2) < f' ∧ owGo s f pos = (pos, (Utf8.decode s pos).2, (Utf8.decode s pos).1, false) :: owGo s f' (pos + (Utf8.decode s pos).2) := by
  cases f with
  | zero => omega
  | succ f =>
    have := width_pos s pos h
    exact ⟨f, by omega, by conv => lhs; unfold owGo; rw [if_pos h]⟩
def brkP (p : P4) : P4 := (p.1, p.2.1, p.2.2.1, decide (p.2.2.1 = 65533) && decide (p.2.1 = 1))
theorem info33 : (Try.prog.info? 33).map (fun i => (i.zero, i.size, i.bytes)) = some (some (.agg #[.int .i64 0, .int .i64 0, .int .i32 0, .bool false]), 4, 24) := by kernel_rfl
/-- own's memory: the iterator, the row -/
structure OwSt (w0 : World) (v : Value) (out : List P4) (it : Option Obj) (w : World) : Prop where
  below : Below w0.heap.size w0 w
  bi : w.heap[w0.heap.size]? = it
  sz : w0.heap.size + 1 ≤ w.heap.size
  ow : w.ownsRow (w0.heap.size + 1) 33 4 v out.length (ocCs out)
section
variable {w0 w : World} {v : Value} {out : List P4} {it : Option Obj} {s : ByteArray} {pos : Nat}
theorem OwSt.iter (h : OwSt w0 v out (some (.stringIter s pos)) w) (pos' : Nat) : OwSt w0 v out (some (.stringIter s pos')) (w.iterAt w0.heap.size s pos') := by
  have ho : Only (fun b => b = w0.heap.size) w (w.iterAt w0.heap.size s pos') := (Only.refl (fun b => b = w0.heap.size) w).iterAt (.inl rfl) s pos'
  exact ⟨h.below.trans (ho.below h.below.size (fun k hk e => by omega)), Lib.iterAt_heap w _ s pos pos' h.bi, by rw [Lib.iterAt_size]; exact h.sz, own_only h.ow ho (fun k hk _ _ e => by omega)⟩
theorem OwSt.far (h : OwSt w0 v out it w) {k : Nat} (hk : k < w0.heap.size + 1) : v.ownBlock ≠ some k := fun e => by
  rcases h.ow.2 with ⟨rfl, _⟩ | ⟨g, cap, cur, rfl, hb, _⟩
  · cases e
  · have : g = k := by simpa [Value.ownBlock] using e
    omega
theorem OwSt.set {g c n : Nat} {dn tl : List P4} {p : P4} (h : OwSt w0 (.slice (some ⟨g, 0, none⟩) n c) (dn ++ p :: tl) it w) (hn : (dn ++ p :: tl).length = n) (p' : P4) (j : Nat) (u : Value) (hj : j < 4) (hu : (ocC p).set j u = ocC p') {a : Addr} (ha : a = ⟨g, dn.length * 4 + j, none⟩) :
    OwSt w0 (.slice (some ⟨g, 0, none⟩) n c) (dn ++ p' :: tl) it (w.setCell a u) := by
  subst ha
  have hg : w0.heap.size + 1 ≤ g := by
    rcases Nat.lt_or_ge g (w0.heap.size + 1) with hlt | hge
    · exact absurd rfl (h.far hlt)
    · exact hge
  have hl : (dn ++ p' :: tl).length = n := by rw [← hn]; simp
  have how := h.ow
  rw [hn] at how
  refine ⟨bset h.below (by simp; omega) _, (Below.heap_setCell w _ u _ (by simp; omega)).trans h.bi, by rw [setCell_size]; exact h.sz, ?_⟩
  rw [hl, ← ocCs_set dn p p' tl j u hj hu]
  exact own_set how _ u
theorem OwSt.app (h : OwSt w0 v out it w) (p : P4) {wA : World} {v' : Value} {n : Nat} (hn : out.length = n) (ho : wA.ownsRow (w0.heap.size + 1) 33 4 v' (n + 1) (ocCs out ++ ocC p)) (hw : Only (fun q => v.ownBlock = some q) w wA) : OwSt w0 v' (out ++ [p]) it wA := by
  have hlo : ∀ k, k < w0.heap.size + 1 → ¬ (v.ownBlock = some k) := fun k hk => h.far hk
  refine ⟨h.below.trans (hw.below h.below.size (fun k hk => hlo k (by omega))), (hw.block _ h.sz (hlo _ (by omega))).trans h.bi, Nat.le_trans h.sz hw.size, ?_⟩
  rw [List.length_append, hn, ocCs_append]
  have : ocCs [p] = ocC p := by simp [ocCs]
  rw [this]
  exact ho
end
end Go.Proofs.Ytialpfmaekagjaa
