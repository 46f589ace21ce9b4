/- place.New: what it holds while it walks through a text. -/
import Derived.Test.YtialpfmaekagjaaN1
import Derived.Test.YtialpfmaekagjaaR2
import Derived.Test.YtialpfmaekagjaaT3
namespace Go.Proofs.Ytialpfmaekagjaa
open Go.RowKit

theorem bdrew {B : Nat} {w w' : World} (h : Below B w w') : Below B w w'.drew := ⟨h.os, h.tape, h.output, h.size, h.block⟩
theorem setCell_size (w : World) (a : Addr) (v : Value) : (w.setCell a v).heap.size = w.heap.size := by simp [World.setCell]
theorem bset {B : Nat} {w w' : World} (h : Below B w w') {a : Addr} (ha : B ≤ a.block) (v : Value) : Below B w (w'.setCell a v) :=
  ⟨h.os, h.tape, h.output, by rw [setCell_size]; exact h.size, fun k hk => (Below.heap_setCell w' a v k (by omega)).trans (h.block k hk)⟩
theorem info29 : (Try.prog.info? 29).map (fun i => (i.zero, i.size, i.bytes)) = some (some (.agg #[.int .i64 0, .int .i64 0, .int .i64 0, .int .i64 0, .int .i64 0]), 5, 40) := by kernel_rfl
theorem info58 : (Try.prog.info? 58).map (fun i => (i.zero, i.size, i.bytes)) = some (some (.agg #[.int .i64 0, .int .i64 0, .int .i64 0, .int .i64 0]), 4, 32) := by kernel_rfl
/-- New's memory: the map's box, the place's box, the line's box, the iterator, two rows -/
structure NwSt (w0 : World) (s : ByteArray) (v1 v2 : Value) (pl : List Pl) (fl : List Ln) (b r u l c : Int) (lf lt le lk : Int) (it : Option Obj) (w : World) : Prop where
  below : Below w0.heap.size w0 w
  bm : Blk w w0.heap.size 54 #[.string s, v1, v2]
  bp : Blk w (w0.heap.size + 1) 29 #[.int .i64 b, .int .i64 r, .int .i64 u, .int .i64 l, .int .i64 c]
  bl : Blk w (w0.heap.size + 1 + 1) 58 #[.int .i64 lf, .int .i64 lt, .int .i64 le, .int .i64 lk]
  bi : w.heap[w0.heap.size + 1 + 1 + 1]? = it
  sz : w0.heap.size + 1 + 1 + 1 + 1 ≤ w.heap.size
  op : w.ownsRow (w0.heap.size + 4) 29 5 v1 pl.length (plCs pl)
  ol : w.ownsRow (w0.heap.size + 4) 58 4 v2 fl.length (lnCs fl)
section
variable {w0 w : World} {s : ByteArray} {v1 v2 : Value} {pl : List Pl} {fl : List Ln} {b r u l c lf lt le lk : Int} {it : Option Obj} {pos : Nat}
theorem NwSt.drew (h : NwSt w0 s v1 v2 pl fl b r u l c lf lt le lk it w) : NwSt w0 s v1 v2 pl fl b r u l c lf lt le lk it w.drew := ⟨bdrew h.below, h.bm.drew, h.bp.drew, h.bl.drew, h.bi, h.sz, h.op, h.ol⟩
theorem NwSt.only (h : NwSt w0 s v1 v2 pl fl b r u l c lf lt le lk it w) {w' : World} (ho : Only (fun _ => False) w w') : NwSt w0 s v1 v2 pl fl b r u l c lf lt le lk it w' :=
  ⟨h.below.trans ((ho.below (B := w.heap.size) (Nat.le_refl _) (fun _ _ => id)).mono (by have := h.sz; omega)), h.bm.only ho id, h.bp.only ho id, h.bl.only ho id, (ho.block _ (by have := h.sz; omega) id).trans h.bi, Nat.le_trans h.sz ho.size, own_stay h.op ho, own_stay h.ol ho⟩
theorem NwSt.setp (h : NwSt w0 s v1 v2 pl fl b r u l c lf lt le lk it w) (i : Nat) (x : Value) {b' r' u' l' c' : Int} (e : (#[.int .i64 b, .int .i64 r, .int .i64 u, .int .i64 l, .int .i64 c] : Array Value).setIfInBounds i x = #[.int .i64 b', .int .i64 r', .int .i64 u', .int .i64 l', .int .i64 c']) :
    NwSt w0 s v1 v2 pl fl b' r' u' l' c' lf lt le lk it (w.setCell ⟨w0.heap.size + 1, i, none⟩ x) :=
  ⟨bset h.below (by simp) _, h.bm.far (by simp) _, e ▸ h.bp.set_ i x, h.bl.far (by simp <;> omega) _, (Below.heap_setCell w _ x _ (by simp <;> omega)).trans h.bi, by rw [setCell_size]; exact h.sz, own_setCell h.op (by simp <;> omega) x, own_setCell h.ol (by simp <;> omega) x⟩
theorem NwSt.setl (h : NwSt w0 s v1 v2 pl fl b r u l c lf lt le lk it w) (i : Nat) (x : Value) {lf' lt' le' lk' : Int} (e : (#[.int .i64 lf, .int .i64 lt, .int .i64 le, .int .i64 lk] : Array Value).setIfInBounds i x = #[.int .i64 lf', .int .i64 lt', .int .i64 le', .int .i64 lk']) :
    NwSt w0 s v1 v2 pl fl b r u l c lf' lt' le' lk' it (w.setCell ⟨w0.heap.size + 1 + 1, i, none⟩ x) :=
  ⟨bset h.below (by simp <;> omega) _, h.bm.far (by simp <;> omega) _, h.bp.far (by simp) _, e ▸ h.bl.set_ i x, (Below.heap_setCell w _ x _ (by simp)).trans h.bi, by rw [setCell_size]; exact h.sz, own_setCell h.op (by simp <;> omega) x, own_setCell h.ol (by simp <;> omega) x⟩
theorem NwSt.iter (h : NwSt w0 s v1 v2 pl fl b r u l c lf lt le lk (some (.stringIter s pos)) w) (pos' : Nat) : NwSt w0 s v1 v2 pl fl b r u l c lf lt le lk (some (.stringIter s pos')) (w.iterAt (w0.heap.size + 1 + 1 + 1) s pos') := by
  have ho : Only (fun b => b = w0.heap.size + 1 + 1 + 1) w (w.iterAt (w0.heap.size + 1 + 1 + 1) s pos') := (Only.refl (fun b => b = w0.heap.size + 1 + 1 + 1) w).iterAt (.inl rfl) s pos'
  exact ⟨h.below.trans (ho.below (by have := h.sz; omega) (fun k hk e => by omega)), h.bm.iterAt (by omega) _ _, h.bp.iterAt (by omega) _ _, h.bl.iterAt (by omega) _ _, Lib.iterAt_heap w _ s pos pos' h.bi, by rw [Lib.iterAt_size]; exact h.sz, own_only h.op ho (fun k hk _ _ e => by omega), own_only h.ol ho (fun k hk _ _ e => by omega)⟩
theorem NwSt.farP (h : NwSt w0 s v1 v2 pl fl b r u l c lf lt le lk it w) {k : Nat} (hk : k < w0.heap.size + 4) : v1.ownBlock ≠ some k := fun e => by
  rcases h.op.2 with ⟨rfl, _⟩ | ⟨g, cap, cur, rfl, hb, _⟩
  · cases e
  · have : g = k := by simpa [Value.ownBlock] using e
    omega
theorem NwSt.farL (h : NwSt w0 s v1 v2 pl fl b r u l c lf lt le lk it w) {k : Nat} (hk : k < w0.heap.size + 4) : v2.ownBlock ≠ some k := fun e => by
  rcases h.ol.2 with ⟨rfl, _⟩ | ⟨g, cap, cur, rfl, hb, _⟩
  · cases e
  · have : g = k := by simpa [Value.ownBlock] using e
    omega
theorem NwSt.appP (h : NwSt w0 s v1 v2 pl fl b r u l c lf lt le lk it w) (p : Pl) {wA : World} {g cap m : Nat} (hm : pl.length = m) (ho : wA.ownsRow (w0.heap.size + 4) 29 5 (.slice (some ⟨g, 0, none⟩) (m + 1) cap) (m + 1) (plCs pl ++ plC p)) (hw : Only (fun q => v1.ownBlock = some q) w wA) :
    NwSt w0 s (.slice (some ⟨g, 0, none⟩) (m + 1) cap) v2 (pl ++ [p]) fl b r u l c lf lt le lk it (wA.setCell ⟨w0.heap.size, 1, none⟩ (.slice (some ⟨g, 0, none⟩) (m + 1) cap)) := by
  have hp := own_setCell (p := ⟨w0.heap.size, 1, none⟩) ho (by simp) (.slice (some ⟨g, 0, none⟩) (m + 1) cap)
  have hlo : ∀ k, k < w0.heap.size + 4 → ¬ (v1.ownBlock = some k) := fun k hk => h.farP hk
  have hl := own_keep h.ol (own_ne h.ol h.op (by decide)) hw
  refine ⟨bset (h.below.trans (hw.below (by have := h.sz; omega) (fun k hk => hlo k (by omega)))) (by simp) _, ?_, (h.bp.only hw (hlo _ (by omega))).far (by simp) _, (h.bl.only hw (hlo _ (by omega))).far (by simp <;> omega) _, (Below.heap_setCell _ _ _ _ (by simp <;> omega)).trans ((hw.block _ (by have := h.sz; omega) (hlo _ (by omega))).trans h.bi), by rw [setCell_size]; exact Nat.le_trans h.sz hw.size, ?_, own_setCell hl (by simp) _⟩
  · have := (h.bm.only hw (hlo _ (by omega))).set_ 1 (.slice (some ⟨g, 0, none⟩) (m + 1) cap)
    simpa using this
  · rw [plCs_append, List.length_append, hm]; exact hp
theorem NwSt.appL (h : NwSt w0 s v1 v2 pl fl b r u l c lf lt le lk it w) (p : Ln) {wA : World} {g cap m : Nat} (hm : fl.length = m) (ho : wA.ownsRow (w0.heap.size + 4) 58 4 (.slice (some ⟨g, 0, none⟩) (m + 1) cap) (m + 1) (lnCs fl ++ lnC p)) (hw : Only (fun q => v2.ownBlock = some q) w wA) :
    NwSt w0 s v1 (.slice (some ⟨g, 0, none⟩) (m + 1) cap) pl (fl ++ [p]) b r u l c lf lt le lk it (wA.setCell ⟨w0.heap.size, 2, none⟩ (.slice (some ⟨g, 0, none⟩) (m + 1) cap)) := by
  have hp := own_setCell (p := ⟨w0.heap.size, 2, none⟩) ho (by simp) (.slice (some ⟨g, 0, none⟩) (m + 1) cap)
  have hlo : ∀ k, k < w0.heap.size + 4 → ¬ (v2.ownBlock = some k) := fun k hk => h.farL hk
  have hl := own_keep h.op (own_ne h.op h.ol (by decide)) hw
  refine ⟨bset (h.below.trans (hw.below (by have := h.sz; omega) (fun k hk => hlo k (by omega)))) (by simp) _, ?_, (h.bp.only hw (hlo _ (by omega))).far (by simp) _, (h.bl.only hw (hlo _ (by omega))).far (by simp <;> omega) _, (Below.heap_setCell _ _ _ _ (by simp <;> omega)).trans ((hw.block _ (by have := h.sz; omega) (hlo _ (by omega))).trans h.bi), by rw [setCell_size]; exact Nat.le_trans h.sz hw.size, own_setCell hl (by simp) _, ?_⟩
  · have := (h.bm.only hw (hlo _ (by omega))).set_ 2 (.slice (some ⟨g, 0, none⟩) (m + 1) cap)
    simpa using this
  · rw [lnCs_append, List.length_append, hm]; exact hp
end
end Go.Proofs.Ytialpfmaekagjaa
