/- General words: owned rows, append and make laws, places that are kept; a map read as a pure function. -/
import Derived.Test.YtialpfmaekagjaaMem
import Derived.Test.YtialpfmaekagjaaChecked
import Derived.Deep.RegionHeld3
import Derived.Deep.AppendLies
import Derived.Deep.RegionWith
import Derived.Maps.AppendAt
import Derived.RegionTactic
import Derived.OwnWalk
import Derived.Laws.MakeOwn
import Derived.Deep.RegionLaw
import Derived.Deep.QuietTactic
import Derived.Maps.OwnSet
import Derived.Maps.OwnOps
import Derived.Deep.DeepMust
import Derived.Deep.DeepCutAuto
import Derived.Deep.Slices
import Derived.Deep.Fields
import Derived.Lib.SmallJoins
import Derived.ChangeSame
import Derived.ProofKit
import Derived.OpenShut
import Derived.SizedLaws
namespace Go.Proofs.Ytialpfmaekagjaa
open Go.RowKit Go.Maps

theorem own_set {w : World} {base : Nat} {e : TypeId} {sz g c n : Nat} {xs : List Value} (h : w.ownsRow base e sz (.slice (some ⟨g, 0, none⟩) n c) n xs) (i : Nat) (u : Value) : (w.setCell ⟨g, i, none⟩ u).ownsRow base e sz (.slice (some ⟨g, 0, none⟩) n c) n (xs.set i u) := by
  refine ⟨by simpa using h.1, .inr ?_⟩
  rcases h.2 with ⟨h0, _⟩ | ⟨g', cap, cur, hv, hb, hg, hnc, hcm, hcs, htk⟩
  · cases h0
  · injection hv with hv1 hv2 hv3
    injection hv1 with hv1
    injection hv1 with hv1
    subst hv1 hv3
    refine ⟨g, c, cur.setIfInBounds i u, rfl, hb, heap_setCell_same w g i cur e u hg, hnc, hcm, by simpa using hcs, ?_⟩
    rw [Array.toList_setIfInBounds, List.take_set, htk]
theorem own_far {w : World} {base : Nat} {e : TypeId} {sz n : Nat} {v : Value} {xs : List Value} (h : w.ownsRow base e sz v n xs) {p : Addr} (hp : v.ownBlock ≠ some p.block) (u : Value) : (w.setCell p u).ownsRow base e sz v n xs :=
  own_only (S := fun k => k = p.block) h (Only.setCell (S := fun k => k = p.block) (Only.refl _ w) (.inl rfl) _) (fun k _ _ hk hkg => hp (by rw [hk, hkg]))
/-- the cells of an owned row are there, and may be written -/
theorem own_at {w : World} {base : Nat} {e : TypeId} {sz g c n : Nat} {xs : List Value} (h : w.ownsRow base e sz (.slice (some ⟨g, 0, none⟩) n c) n xs) {i : Nat} (hi : i < n * sz) : (∃ u, w.cell? ⟨g, i, none⟩ = some u) ∧ w.frozen? ⟨g, i, none⟩ = false := by
  rcases h.2 with ⟨h0, _⟩ | ⟨g', cap, cur, hv, _, hg, hnc, _, hcs, htk⟩
  · cases h0
  · injection hv with hv1
    injection hv1 with hv1
    injection hv1 with hv1
    subst hv1
    have hb : Blk w g e cur := hg
    have hlt : i < cur.size := by
      rw [hcs]
      exact Nat.lt_of_lt_of_le hi (Nat.mul_le_mul hnc (Nat.le_refl _))
    exact ⟨⟨_, (hb.cell i).trans (Array.getElem?_eq_getElem hlt)⟩, hb.frozen i⟩
theorem own_ne2 {n1 c1 : Nat} {g o : Nat} {n2 c2 : Nat} {A2 : Option Addr} (h : (Value.slice (some ⟨g, o, none⟩) n1 c1).ownBlock = none ∨ (Value.slice (some ⟨g, o, none⟩) n1 c1).ownBlock ≠ (Value.slice A2 n2 c2).ownBlock) : (Value.slice A2 n2 c2).ownBlock ≠ some g := by
  rcases h with h | h
  · cases h
  · exact fun hh => h hh.symm
theorem own_ne1 {A1 : Option Addr} {n1 c1 : Nat} {g o : Nat} {n2 c2 : Nat} (h : (Value.slice A1 n1 c1).ownBlock = none ∨ (Value.slice A1 n1 c1).ownBlock ≠ (Value.slice (some ⟨g, o, none⟩) n2 c2).ownBlock) : (Value.slice A1 n1 c1).ownBlock ≠ some g := by
  rcases h with h | h
  · rw [h]; simp
  · exact h
theorem blk_new_eq {w : World} {i : Nat} {t : TypeId} {cs : Array Value} (h : i = w.heap.size) : Blk (w.alloc (.cells cs t)) i t cs := by subst h; exact Blk.new _ _ _
theorem Blk.grown_ {w w' : World} {g : Nat} {t : TypeId} {cs : Array Value} {row : Option Nat} (h : Blk w g t cs) (hb : w.grownBy w' row) (hg : some g ≠ row) : Blk w' g t cs := (hb.block g h.lt hg).trans h
theorem Blk.grown_lt {w w' : World} {g : Nat} {t : TypeId} {cs : Array Value} {row : Option Nat} (hb : w.grownBy w' row) (N : Nat) (hrow : ∀ k, row = some k → k < N) (hN : N ≤ g) (h : Blk w g t cs) : Blk w' g t cs :=
  (hb.block g h.lt (fun hh => by have := hrow g hh.symm; omega)).trans h
theorem exit_abs {K : Act → World → Prop} {Q : Exit → Act → World → Prop} {a : Act} {W : World} (F : World → Prop) (hF : F W) (h : ∀ w, F w → Exit.then K Q .normal a w) : Exit.then K Q .normal a W := h W hF
theorem own_keep {w w' : World} {base : Nat} {e : TypeId} {sz n : Nat} {v v2 : Value} {xs : List Value} (h : w.ownsRow base e sz v n xs) (kn : v.ownBlock = none ∨ v.ownBlock ≠ v2.ownBlock) (ho : Only (fun k => v2.ownBlock = some k) w w') : w'.ownsRow base e sz v n xs :=
  own_only h ho (fun k _ _ hk hk2 => by
    rcases kn with h0 | h0
    · rw [h0] at hk; cases hk
    · exact h0 (hk.trans hk2.symm))
theorem own_stay {w w' : World} {base : Nat} {e : TypeId} {sz n : Nat} {v : Value} {xs : List Value} (h : w.ownsRow base e sz v n xs) (ho : Only (fun _ => False) w w') : w'.ownsRow base e sz v n xs := own_only h ho (fun _ _ _ _ hf => hf)
theorem Rd.at_add {w : World} {L B sz n : Nat} {ad : Addr} {xs : List Value} (h : Rd w L B sz (some ad) n xs) : ∀ j u, xs[j]? = some u → w.cell? (ad.add j) = some u := by
  intro j u hu
  have hl := h.1
  have hj : j < xs.length := (List.getElem?_eq_some_iff.1 hu).1
  have hn : 0 < n := by
    rcases Nat.eq_zero_or_pos n with h0 | h0
    · subst h0; omega
    · exact h0
  obtain ⟨b, o, e, _, _, hc⟩ := h.2 hn
  injection e with e
  subst e
  rw [show (⟨b, o, none⟩ : Addr).add j = ⟨b, o + j, none⟩ from by unfold Addr.add; split <;> simp_all]
  exact hc j u hu
theorem Rd.up {w w' : World} {L B sz n : Nat} {A : Option Addr} {xs : List Value} (h : Rd w L B sz A n xs) (hb : Below B w w') (hB : B ≤ w'.heap.size) : Rd w' L w'.heap.size sz A n xs :=
  (h.below hb (Nat.le_refl _)).more (Nat.le_refl _) hB
theorem Rd.drew {w : World} {L B sz n : Nat} {A : Option Addr} {xs : List Value} (h : Rd w L B sz A n xs) : Rd w.drew L B sz A n xs := h
section
variable {P : Program} (w : World)
theorem run_append_of_nil (base : Nat) (t ty e : TypeId) (i : TypeInfo) (size : Nat) (ht : P.underlying t = some (.slice e)) (hi : P.info? e = some i)
    (v : Value) (n : Nat) (xs : List Value) (hown : w.ownsRow base e size v n xs) (c : Nat) : (Builtin.append_ #[t, t] ty #[v, .slice none 0 c]).run P w = .ok v w := by
  rcases hown.2 with ⟨rfl, rfl⟩ | ⟨g, cap, cur, rfl, _, _, hnc, _⟩
  · simp [Builtin.append_, run_underlying ht, sizeOf, typeInfo, hi, Builtin.lenOf, Builtin.firstCells]
  · simp [Builtin.append_, run_underlying ht, sizeOf, typeInfo, hi, Builtin.lenOf, Builtin.firstCells, hnc, storeCells]

theorem run_append_rd (base : Nat) (t ty e : TypeId) (i : TypeInfo) (z : Value) (size bytes : Nat) (ht : P.underlying t = some (.slice e)) (hi : P.info? e = some i) (hz : i.zero = some z)
    (hsize : i.size = size) (hby : i.bytes = bytes) (hzs : z.cells.size = size) (hsz : 0 < size)
    (v : Value) (n : Nat) (xs : List Value) (hown : w.ownsRow base e size v n xs)
    (L B : Nat) (A : Option Addr) (m c : Nat) (news : List Value) (hr : Rd w L B size A m news) (h1 : ∀ u ∈ news, u.oneCell' = true)
    (h63 : n + m ≤ maxLen) (hbytes : (n + m) * bytes ≤ 140737488355328) (hbase : base ≤ w.heap.size) :
    ∃ v' w', (Builtin.append_ #[t, t] ty #[v, .slice A m c]).run P w = .ok v' w' ∧ w'.ownsRow base e size v' (n + m) (xs ++ news) ∧ w.grownBy w' v.ownBlock ∧
      (v'.ownBlock = v.ownBlock ∨ v'.ownBlock = some w.heap.size) := by
  rcases A with _ | ad
  · have hm : m = 0 := by
      rcases Nat.eq_zero_or_pos m with h0 | h0
      · exact h0
      · obtain ⟨_, _, h, _⟩ := hr.2 h0
        cases h
    subst hm
    have hn : news = [] := List.eq_nil_of_length_eq_zero (by simpa using hr.1)
    subst hn
    exact ⟨v, w, run_append_of_nil w base t ty e i size ht hi v n xs hown c, by simpa using hown, World.grownBy.refl w _, .inl rfl⟩
  · obtain ⟨v', w', hrun, h2, h3, _, h5⟩ := run_append_own_at (P := P) w base t ty e i z size bytes ht hi hz hsize hby hzs hsz v n xs hown ad m c news hr.1 (hr.at_add) h1 h63 hbytes hbase
    exact ⟨v', w', hrun, h2, h3, h5⟩

theorem wp_append_rd {o : Oper} {a : Act} {K : Act → World → Prop} {Q : Exit → Act → World → Prop} (s x : Operand) (t : TypeId)
    (ho : o.op = .call { callee := .builtin .append, args := #[s, x], argTypes := #[t, t] })
    (base : Nat) (e : TypeId) (i : TypeInfo) (z : Value) (size bytes : Nat) (ht : P.underlying t = some (.slice e)) (hi : P.info? e = some i) (hz : i.zero = some z)
    (hsize : i.size = size) (hby : i.bytes = bytes) (hzs : z.cells.size = size) (hsz : 0 < size)
    (v : Value) (n : Nat) (xs : List Value) (hs : a.eval s = v) (hown : w.ownsRow base e size v n xs)
    (L B : Nat) (A : Option Addr) (m c : Nat) (news : List Value) (hx : a.eval x = .slice A m c) (hr : Rd w L B size A m news) (h1 : ∀ u ∈ news, u.oneCell' = true)
    (h63 : n + m ≤ maxLen) (hbytes : (n + m) * bytes ≤ 140737488355328) (hbase : base ≤ w.heap.size)
    (h : ∀ v' w', w.ownsRow base e size v n xs → w'.ownsRow base e size v' (n + m) (xs ++ news) → w.grownBy w' v.ownBlock → (v'.ownBlock = v.ownBlock ∨ v'.ownBlock = some w.heap.size) → K (a.put o.dst v') w') : o.wp P a w K Q := by
  obtain ⟨v', w', hrun, h2, h3, h4⟩ := run_append_rd (P := P) w base t o.type e i z size bytes ht hi hz hsize hby hzs hsz v n xs hown L B A m c news hr h1 h63 hbytes hbase
  unfold Oper.wp execOp
  simp only [ho, resolve, invoke, builtin, Sem.run_bind, Sem.run_pure, Result.andThen_ok, List.map_toArray, List.map_cons, List.map_nil, hs, hx, hrun]
  exact h v' w' hown h2 h3 h4

theorem wpList_append_rd {ops : Array Oper} {rest : List Oper} {o : Oper} {a : Act} {Q : Exit → Act → World → Prop} (hgd : o.guard = none) (s x : Operand) (t : TypeId)
    (ho : o.op = .call { callee := .builtin .append, args := #[s, x], argTypes := #[t, t] })
    (base : Nat) (e : TypeId) (i : TypeInfo) (z : Value) (size bytes : Nat) (ht : P.underlying t = some (.slice e)) (hi : P.info? e = some i) (hz : i.zero = some z)
    (hsize : i.size = size) (hby : i.bytes = bytes) (hzs : z.cells.size = size) (hsz : 0 < size)
    (v : Value) (n : Nat) (xs : List Value) (hs : a.eval s = v) (hown : w.ownsRow base e size v n xs)
    (L B : Nat) (A : Option Addr) (m c : Nat) (news : List Value) (hx : a.eval x = .slice A m c) (hr : Rd w L B size A m news) (h1 : ∀ u ∈ news, u.oneCell' = true)
    (h63 : n + m ≤ maxLen) (hbytes : (n + m) * bytes ≤ 140737488355328) (hbase : base ≤ w.heap.size)
    (h : ∀ v' w', w.ownsRow base e size v n xs → w'.ownsRow base e size v' (n + m) (xs ++ news) → w.grownBy w' v.ownBlock → (v'.ownBlock = v.ownBlock ∨ v'.ownBlock = some w.heap.size) → wpList P ops Q rest (a.put o.dst v') w') : wpList P ops Q (o :: rest) a w :=
  wpList_plain hgd fun _ hK => wp_append_rd w s x t ho base e i z size bytes ht hi hz hsize hby hzs hsz v n xs hs hown L B A m c news hx hr h1 h63 hbytes hbase fun v' w' h1 h2 h3 h4 => hK _ _ (h v' w' h1 h2 h3 h4)

theorem step_append_rd {ops : Array Oper} {o : Oper} {a : Act} {K : Act → World → Prop} {Q : Exit → Act → World → Prop} {E : Prop} (hgd : o.guard = none) (s x : Operand) (t : TypeId)
    (ho : o.op = .call { callee := .builtin .append, args := #[s, x], argTypes := #[t, t] })
    (base : Nat) (e : TypeId) (i : TypeInfo) (z : Value) (size bytes : Nat) (ht : P.underlying t = some (.slice e)) (hi : P.info? e = some i) (hz : i.zero = some z)
    (hsize : i.size = size) (hby : i.bytes = bytes) (hzs : z.cells.size = size) (hsz : 0 < size)
    (v : Value) (n : Nat) (xs : List Value) (hs : a.eval s = v) (hown : w.ownsRow base e size v n xs)
    (L B : Nat) (A : Option Addr) (m c : Nat) (news : List Value) (hx : a.eval x = .slice A m c) (hr : Rd w L B size A m news) (h1 : ∀ u ∈ news, u.oneCell' = true)
    (h63 : n + m ≤ maxLen) (hbytes : (n + m) * bytes ≤ 140737488355328) (hbase : base ≤ w.heap.size)
    (h : ∀ v' w', w.ownsRow base e size v n xs → w'.ownsRow base e size v' (n + m) (xs ++ news) → w.grownBy w' v.ownBlock → (v'.ownBlock = v.ownBlock ∨ v'.ownBlock = some w.heap.size) → K (a.put o.dst v') w') :
    if Region.wanted o (yielded ops a.tmps) = true then Oper.wp P o a w K Q else E := by
  have hw : Region.wanted o (yielded ops a.tmps) = true := by simp [Region.wanted, hgd]
  rw [if_pos hw]
  exact wp_append_rd w s x t ho base e i z size bytes ht hi hz hsize hby hzs hsz v n xs hs hown L B A m c news hx hr h1 h63 hbytes hbase h
end

/-- make with room for c, as an equation that the walk rewrites by -/
theorem made_eq {P : Program} (t e : TypeId) (i : TypeInfo) (z : Value) (size : Nat) (ht : P.underlying t = some (.slice e)) (hi : P.info? e = some i) (hz : i.zero = some z) (hsize : i.size = size)
    (c : Nat) (hbytes : i.bytes * c ≤ 281474976710656) (h63 : c ≤ maxLen) : ∃ Z : Array Value, Z.size = c * size ∧ ∀ w, (Instr.makeSlice t (.int .i64 0) (.int .i64 (c : Int))).run P w = .ok (.slice (some ⟨w.heap.size, 0, none⟩) 0 c) (w.alloc (.cells Z e)) := by
  subst hsize
  refine ⟨madeCells z.cells (c * i.size), size_madeCells _ _, fun w => ?_⟩
  have h63' : (c : Int) ≤ 9223372036854775807 := by
    have h := h63
    simp [maxLen] at h
    omega
  have hb' : (i.bytes : Int) * (c : Int) ≤ 281474976710656 := by
    have h : ((i.bytes * c : Nat) : Int) ≤ 281474976710656 := by omega
    rwa [Int.natCast_mul] at h
  have hr := run_make (P := P) w t e i z ht hi hz .i64 .i64 0 c (Int.le_refl _) (by omega) hb' h63'
  simpa using hr
theorem own_made {w : World} {base : Nat} {e : TypeId} {size g c : Nat} {Z : Array Value} (hZ : Z.size = c * size) (hc : c ≤ maxLen) (hb : base ≤ g) (h : Blk w g e Z) : w.ownsRow base e size (.slice (some ⟨g, 0, none⟩) 0 c) 0 [] :=
  ⟨by simp, .inr ⟨g, c, Z, rfl, hb, h, Nat.zero_le _, hc, hZ, by simp⟩⟩
theorem rd_only {w w' : World} {L sz n : Nat} {A : Option Addr} {xs : List Value} (h : Rd w L w.heap.size sz A n xs) (ho : Only (fun _ => False) w w') : Rd w' L w.heap.size sz A n xs :=
  h.keep fun _ _ _ hb => ho.cell hb (fun h => h)
theorem fin_keep {w1 w2 w3 : World} {b1 b2 : Nat} {e1 e2 : TypeId} {s1 s2 n1 n2 : Nat} {v1 v2 : Value} {x1 x2 : List Value} (h1 : w1.ownsRow b1 e1 s1 v1 n1 x1) (hb : Only (fun _ => False) w1 w2) (h2 : w2.ownsRow b2 e2 s2 v2 n2 x2) (hg : w2.grownBy w3 v2.ownBlock) (hne : e1 ≠ e2) :
    w3.ownsRow b1 e1 s1 v1 n1 x1 :=
  own_keep (own_stay h1 hb) (own_ne (own_stay h1 hb) h2 hne) ((Only.refl _ _).grown hg (fun _ hg => .inl hg))
theorem rd_via {w w1 w2 : World} {L sz n : Nat} {A : Option Addr} {xs : List Value} (h : Rd w L w.heap.size sz A n xs) (h1 : Only (fun _ => False) w w1) (h2 : Only (fun _ => False) w1 w2) : Rd w2 L w.heap.size sz A n xs :=
  rd_only h (h1.trans h2)
theorem ints_one (st : List Int) : ∀ u ∈ st.map (Value.int .i64), u.oneCell' = true := by
  intro u hu
  obtain ⟨x, _, rfl⟩ := List.mem_map.1 hu
  rfl
theorem keep_box {w W : World} {b : Nat} {t : TypeId} {v1 v2 : Value} (h : Blk w b t #[v1, v2]) (ho : Only (fun _ => False) w W) : W.cell? ⟨b, 0, none⟩ = some v1 ∧ W.cell? ⟨b, 1, none⟩ = some v2 :=
  ⟨(h.only ho (fun h => h)).cell 0, (h.only ho (fun h => h)).cell 1⟩
theorem only_put {w W : World} {g n c : Nat} (h : Only (fun j => (Value.slice (some ⟨g, 0, none⟩) n c).ownBlock = some j) w W) (i : Nat) (u : Value) : Only (fun j => (Value.slice (some ⟨g, 0, none⟩) n c).ownBlock = some j) w (W.setCell ⟨g, i, none⟩ u) :=
  Only.setCell (S := fun j => (Value.slice (some ⟨g, 0, none⟩) n c).ownBlock = some j) (p := ⟨g, i, none⟩) h (.inl rfl) _
theorem bool_or' (b : Bool) : b = false ∨ b = true := by cases b <;> simp
def fit64 (x : Int) : Prop := -9223372036854775808 ≤ x ∧ x < 9223372036854775808
theorem wf64 {x : Int} (h : (Lit.int .i64 x).wf = true) : fit64 x := by
  simp only [Lit.wf, Bool.and_eq_true, decide_eq_true_eq] at h
  have h1 : IntKind.i64.min = -9223372036854775808 := by decide
  have h2 : IntKind.i64.max = 9223372036854775807 := by decide
  rw [h1, h2] at h
  unfold fit64
  omega

theorem cells_list {α : Type} {Q : Nat → α → Prop} (n : Nat) (h : ∀ i, i < n → ∃ x, Q i x) : ∃ l : List α, l.length = n ∧ ∀ i x, l[i]? = some x → Q i x := by
  induction n with
  | zero => exact ⟨[], rfl, by simp⟩
  | succ n ih =>
    obtain ⟨l, hl, hq⟩ := ih fun i hi => h i (by omega)
    obtain ⟨x, hx⟩ := h n (by omega)
    refine ⟨l ++ [x], by simp [hl], fun i y hy => ?_⟩
    rcases Nat.lt_or_ge i n with hi | hi
    · rw [List.getElem?_append_left (by omega)] at hy
      exact hq i y hy
    · rw [List.getElem?_append_right (by omega)] at hy
      have : i = n := by
        rcases Nat.lt_or_ge (i - l.length) 1 with h1 | h1
        · omega
        · rw [List.getElem?_eq_none (by simpa using h1)] at hy; cases hy
      subst this
      rw [show i - l.length = 0 by omega] at hy
      simp at hy
      subst hy
      exact hx
theorem cell_lt {w : World} {a : Addr} {v : Value} (h : w.cell? a = some v) : a.block < w.heap.size := by
  rcases Nat.lt_or_ge a.block w.heap.size with hl | hg
  · exact hl
  · simp [World.cell?, Array.getElem?_eq_none hg] at h
theorem add_none (a : Addr) (i : Nat) (h : a.spot = none) : a.add i = ⟨a.block, a.off + i, none⟩ := by
  obtain ⟨b, o, s⟩ := a
  simp at h
  subst h
  unfold Addr.add
  split <;> simp_all

/-- how an element of a map reads: as itself -/
def heldR (v : Value) : Option (DataW Value × List MemPlace) := some (.held v, [])
/-- block b is a map that holds m, with n entries at most -/
def MapV (P : Program) (w : World) (k b : Nat) (m : Lit → Option Value) (n : Nat) : Prop :=
  ∃ D : DataW Value, w.ownsMap P k heldR b n D ∧ ∀ l z, D.atKey l z = match m l with | some x => .held x | none => z
open Classical in
/-- m with x at l -/
noncomputable def updV (m : Lit → Option Value) (l : Lit) (x : Value) : Lit → Option Value := fun l' => if l' = l then some x else m l'
theorem updV_same (m : Lit → Option Value) (l : Lit) (x : Value) : updV m l x l = some x := if_pos rfl
theorem updV_other (m : Lit → Option Value) {l l' : Lit} (x : Value) (h : l' ≠ l) : updV m l x l' = m l' := if_neg h
section
variable {P : Program} {w w' : World} {k b n : Nat} {m : Lit → Option Value}
theorem MapV.made (P : Program) (w : World) (k : Nat) : MapV P (w.alloc (.map #[] 0)) k w.heap.size (fun _ => none) 0 := ⟨.map [], World.ownsMap_made w P k _, fun _ _ => rfl⟩
theorem MapV.congr (h : MapV P w k b m n) {m' : Lit → Option Value} (hm : ∀ l, m l = m' l) : MapV P w k b m' n := by
  obtain ⟨D, h1, h3⟩ := h
  exact ⟨D, h1, fun l z => by rw [h3, hm]⟩
theorem MapV.lt (h : MapV P w k b m n) : b < w.heap.size := let ⟨_, h1, _⟩ := h; h1.lt
theorem MapV.heap (h : MapV P w k b m n) (hb : w'.heap[b]? = w.heap[b]?) : MapV P w' k b m n := by
  obtain ⟨D, ⟨es, clock, hm, F, hs, hD⟩, h3⟩ := h
  exact ⟨D, ⟨es, clock, hb.trans hm, F, hs, hD⟩, h3⟩
theorem MapV.only {S : Nat → Prop} (h : MapV P w k b m n) (ho : Only S w w') (hS : ¬ S b) : MapV P w' k b m n := h.heap (ho.block b h.lt hS)
theorem MapV.below {B : Nat} (h : MapV P w k b m n) (hb : Below B w w') (hB : b < B) : MapV P w' k b m n := h.heap (hb.block b hB)
theorem MapV.on (h : MapV P w k b m n) (hb : Below w.heap.size w w') : MapV P w' k b m n := h.below hb h.lt
theorem MapV.put (h : MapV P w k b m n) (K : Keyed P k) {t e : TypeId} (ht : P.underlying t = some (.map k e)) (hn : n < maxLen) {key : Value} {kl : Lit} (hkey : keyOf P k key = some kl)
    (x : Value) : ∃ w', (Instr.mapUpdate t (.map (some b)) key x).run P w = .ok () w' ∧ MapV P w' k b (updV m kl x) (n + 1) ∧ w.grownBy w' (some b) := by
  obtain ⟨D, h1, h3⟩ := h
  obtain ⟨w', hrun, hw, hg⟩ := h1.update (d := .held x) (ps := []) K ht hn hkey rfl
  refine ⟨w', hrun, ⟨D.put kl (.held x), hw, fun l z => ?_⟩, hg⟩
  by_cases hl : l = kl
  · subst hl
    rw [atKey_put_same h1.isMap (K.key hkey), updV_same]
  · rw [atKey_put_other hl, updV_other m x hl, h3]
theorem MapV.look (h : MapV P w k b m n) (K : Keyed P k) {t e : TypeId} (ht : P.underlying t = some (.map k e)) {z : Value} (hz : (zeroValue e).run P w = .ok z w) {key : Value} {kl : Lit} (hkey : keyOf P k key = some kl) :
    (Instr.lookup t (.map (some b)) key false).run P w = .ok ((m kl).getD z) w := by
  obtain ⟨D, h1, h3⟩ := h
  obtain ⟨v, ps, hrun, hv⟩ := h1.lookup (z := z) (zd := .held z) (zp := []) K ht hz rfl hkey
  rw [hrun, h3] at *
  unfold heldR at hv
  cases hm : m kl with
  | none => rw [hm] at hv; injection hv with hv; injection hv with hv; injection hv with hv; rw [hv]; rfl
  | some x => rw [hm] at hv; injection hv with hv; injection hv with hv; injection hv with hv; rw [hv]; rfl
theorem MapV.look_ok (h : MapV P w k b m n) (K : Keyed P k) {t e : TypeId} (ht : P.underlying t = some (.map k e)) {z : Value} (hz : (zeroValue e).run P w = .ok z w) {key : Value} {kl : Lit} (hkey : keyOf P k key = some kl) :
    (Instr.lookup t (.map (some b)) key true).run P w = .ok (.tuple #[(m kl).getD z, .bool (m kl).isSome]) w := by
  obtain ⟨D, h1, h3⟩ := h
  obtain ⟨v, ps, hrun, hv⟩ := h1.look_ok (z := z) (zd := .held z) (zp := []) K ht hz rfl hkey
  have hhas : Maps.has D kl = (m kl).isSome := by
    cases hm : m kl with
    | none => exact Maps.has_false_of_atKey fun z => by rw [h3, hm]
    | some x => exact Maps.has_true_of_atKey (y := .held x) fun z => by rw [h3, hm]
  rw [hrun, hhas]
  rw [h3] at hv
  unfold heldR at hv
  cases hm : m kl with
  | none => rw [hm] at hv; injection hv with hv; injection hv with hv; injection hv with hv; rw [hv]; rfl
  | some x => rw [hm] at hv; injection hv with hv; injection hv with hv; injection hv with hv; rw [hv]; rfl
end
section
variable {P : Program} (w : World) {ops : Array Oper} {rest : List Oper} {o : Oper} {a : Act} {Q : Exit → Act → World → Prop}
/-- m[key] = x, at the operation -/
theorem wpList_putV (hg : o.guard = none) (mo xo vo : Operand) (t : TypeId) (hop : o.op = Op.mapUpdate t mo xo vo) (k e : TypeId) (K : Keyed P k) (ht : P.underlying t = some (.map k e))
    (b n : Nat) (m : Lit → Option Value) (hm : a.eval mo = .map (some b)) (h : MapV P w k b m n) (hn : n < maxLen) (key : Value) (kl : Lit) (hx : a.eval xo = key) (x : Value) (hv : a.eval vo = x) (hkey : keyOf P k key = some kl)
    (hK : ∀ w', MapV P w' k b (updV m kl x) (n + 1) → w.grownBy w' (some b) → wpList P ops Q rest (a.put o.dst undef) w') : wpList P ops Q (o :: rest) a w := by
  refine wpList_plain hg fun K' hK' => ?_
  obtain ⟨w', hrun, r1, r2⟩ := h.put K ht hn hkey x
  unfold Oper.wp
  simp [execOp, hop, hm, hx, hv, hrun, Result.andThen]
  exact hK' _ _ (hK w' r1 r2)
end
end Go.Proofs.Ytialpfmaekagjaa
