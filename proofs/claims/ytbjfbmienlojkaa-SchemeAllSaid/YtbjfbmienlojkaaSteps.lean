/- Laws for append whose source reads as a list of cells (nil or not), and for rows that were made with room; in plain regions and in regions that draw their order.
   The reference's Copy: a scheme in memory of its own, with room behind its lists.
   The reference's Canon makes what Canon makes. -/
import Derived.Test.YtbjfbmienlojkaaT22
import Derived.Test.YtbjfbmienlojkaaT16
import Derived.Maps.AppendAt
import Derived.Deep.AppendLies
import Derived.RegionTactic
import Derived.OwnWalk
import Derived.Laws.MakeOwn
import Derived.Deep.RegionLaw
import Derived.Test.YtbjfbmienlojkaaT27
namespace Go.Proofs.Ytbjfbmienlojkaa
open Go.RowKit

section
variable {P : Program} (w : World)
theorem run_append_of_nil (base : Nat) (t ty e : TypeId) (i : TypeInfo) (size : Nat) (ht : P.underlying t = some (.slice e)) (hi : P.info? e = some i)
    (v : Value) (n : Nat) (xs : List Value) (hown : w.ownsRow base e size v n xs) (c : Nat) : (Builtin.append_ #[t, t] ty #[v, .slice none 0 c]).run P w = .ok v w := by
  rcases hown.2 with ⟨rfl, rfl⟩ | ⟨g, cap, cur, rfl, _, _, hnc, _⟩
  · simp [Builtin.append_, run_underlying ht, sizeOf, typeInfo, hi, Builtin.lenOf, Builtin.firstCells]
  · simp [Builtin.append_, run_underlying ht, sizeOf, typeInfo, hi, Builtin.lenOf, Builtin.firstCells, hnc, storeCells]

theorem run_append_rd (base : Nat) (t ty e : TypeId) (i : TypeInfo) (z : Value) (size bytes : Nat) (ht : P.underlying t = some (.slice e)) (hi : P.info? e = some i) (hz : i.zero = some z)
    (hsize : i.size = size) (hby : i.bytes = bytes) (hzs : z.cells.size = size) (hsz : 0 < size)
    (v : Value) (n : Nat) (xs : List Value) (hown : w.ownsRow base e size v n xs)
    (L B : Nat) (A : Option Addr) (m c : Nat) (news : List Value) (hr : Rd w L B size A m news) (h1 : ∀ u ∈ news, u.oneCell' = true)
    (h63 : n + m ≤ maxLen) (hbytes : (n + m) * bytes ≤ 140737488355328) (hbase : base ≤ w.heap.size) :
    ∃ v' w', (Builtin.append_ #[t, t] ty #[v, .slice A m c]).run P w = .ok v' w' ∧ w'.ownsRow base e size v' (n + m) (xs ++ news) ∧ w.grownBy w' v.ownBlock ∧
      (v'.ownBlock = v.ownBlock ∨ v'.ownBlock = some w.heap.size) := by
  rcases A with _ | ad
  · have hm : m = 0 := by
      rcases Nat.eq_zero_or_pos m with h0 | h0
      · exact h0
      · obtain ⟨_, _, h, _⟩ := hr.2 h0
        cases h
    subst hm
    have hn : news = [] := List.eq_nil_of_length_eq_zero (by simpa using hr.1)
    subst hn
    exact ⟨v, w, run_append_of_nil w base t ty e i size ht hi v n xs hown c, by simpa using hown, World.grownBy.refl w _, .inl rfl⟩
  · obtain ⟨v', w', hrun, h2, h3, _, h5⟩ := run_append_own_at (P := P) w base t ty e i z size bytes ht hi hz hsize hby hzs hsz v n xs hown ad m c news hr.1 (hr.at_add) h1 h63 hbytes hbase
    exact ⟨v', w', hrun, h2, h3, h5⟩

theorem wp_append_rd {o : Oper} {a : Act} {K : Act → World → Prop} {Q : Exit → Act → World → Prop} (s x : Operand) (t : TypeId)
    (ho : o.op = .call { callee := .builtin .append, args := #[s, x], argTypes := #[t, t] })
    (base : Nat) (e : TypeId) (i : TypeInfo) (z : Value) (size bytes : Nat) (ht : P.underlying t = some (.slice e)) (hi : P.info? e = some i) (hz : i.zero = some z)
    (hsize : i.size = size) (hby : i.bytes = bytes) (hzs : z.cells.size = size) (hsz : 0 < size)
    (v : Value) (n : Nat) (xs : List Value) (hs : a.eval s = v) (hown : w.ownsRow base e size v n xs)
    (L B : Nat) (A : Option Addr) (m c : Nat) (news : List Value) (hx : a.eval x = .slice A m c) (hr : Rd w L B size A m news) (h1 : ∀ u ∈ news, u.oneCell' = true)
    (h63 : n + m ≤ maxLen) (hbytes : (n + m) * bytes ≤ 140737488355328) (hbase : base ≤ w.heap.size)
    (h : ∀ v' w', w.ownsRow base e size v n xs → w'.ownsRow base e size v' (n + m) (xs ++ news) → w.grownBy w' v.ownBlock → (v'.ownBlock = v.ownBlock ∨ v'.ownBlock = some w.heap.size) → K (a.put o.dst v') w') : o.wp P a w K Q := by
  obtain ⟨v', w', hrun, h2, h3, h4⟩ := run_append_rd (P := P) w base t o.type e i z size bytes ht hi hz hsize hby hzs hsz v n xs hown L B A m c news hr h1 h63 hbytes hbase
  unfold Oper.wp execOp
  simp only [ho, resolve, invoke, builtin, Sem.run_bind, Sem.run_pure, Result.andThen_ok, List.map_toArray, List.map_cons, List.map_nil, hs, hx, hrun]
  exact h v' w' hown h2 h3 h4

theorem wpList_append_rd {ops : Array Oper} {rest : List Oper} {o : Oper} {a : Act} {Q : Exit → Act → World → Prop} (hgd : o.guard = none) (s x : Operand) (t : TypeId)
    (ho : o.op = .call { callee := .builtin .append, args := #[s, x], argTypes := #[t, t] })
    (base : Nat) (e : TypeId) (i : TypeInfo) (z : Value) (size bytes : Nat) (ht : P.underlying t = some (.slice e)) (hi : P.info? e = some i) (hz : i.zero = some z)
    (hsize : i.size = size) (hby : i.bytes = bytes) (hzs : z.cells.size = size) (hsz : 0 < size)
    (v : Value) (n : Nat) (xs : List Value) (hs : a.eval s = v) (hown : w.ownsRow base e size v n xs)
    (L B : Nat) (A : Option Addr) (m c : Nat) (news : List Value) (hx : a.eval x = .slice A m c) (hr : Rd w L B size A m news) (h1 : ∀ u ∈ news, u.oneCell' = true)
    (h63 : n + m ≤ maxLen) (hbytes : (n + m) * bytes ≤ 140737488355328) (hbase : base ≤ w.heap.size)
    (h : ∀ v' w', w.ownsRow base e size v n xs → w'.ownsRow base e size v' (n + m) (xs ++ news) → w.grownBy w' v.ownBlock → (v'.ownBlock = v.ownBlock ∨ v'.ownBlock = some w.heap.size) → wpList P ops Q rest (a.put o.dst v') w') : wpList P ops Q (o :: rest) a w :=
  wpList_plain hgd fun _ hK => wp_append_rd w s x t ho base e i z size bytes ht hi hz hsize hby hzs hsz v n xs hs hown L B A m c news hx hr h1 h63 hbytes hbase fun v' w' h1 h2 h3 h4 => hK _ _ (h v' w' h1 h2 h3 h4)

theorem step_append_rd {ops : Array Oper} {o : Oper} {a : Act} {K : Act → World → Prop} {Q : Exit → Act → World → Prop} {E : Prop} (hgd : o.guard = none) (s x : Operand) (t : TypeId)
    (ho : o.op = .call { callee := .builtin .append, args := #[s, x], argTypes := #[t, t] })
    (base : Nat) (e : TypeId) (i : TypeInfo) (z : Value) (size bytes : Nat) (ht : P.underlying t = some (.slice e)) (hi : P.info? e = some i) (hz : i.zero = some z)
    (hsize : i.size = size) (hby : i.bytes = bytes) (hzs : z.cells.size = size) (hsz : 0 < size)
    (v : Value) (n : Nat) (xs : List Value) (hs : a.eval s = v) (hown : w.ownsRow base e size v n xs)
    (L B : Nat) (A : Option Addr) (m c : Nat) (news : List Value) (hx : a.eval x = .slice A m c) (hr : Rd w L B size A m news) (h1 : ∀ u ∈ news, u.oneCell' = true)
    (h63 : n + m ≤ maxLen) (hbytes : (n + m) * bytes ≤ 140737488355328) (hbase : base ≤ w.heap.size)
    (h : ∀ v' w', w.ownsRow base e size v n xs → w'.ownsRow base e size v' (n + m) (xs ++ news) → w.grownBy w' v.ownBlock → (v'.ownBlock = v.ownBlock ∨ v'.ownBlock = some w.heap.size) → K (a.put o.dst v') w') :
    if Region.wanted o (yielded ops a.tmps) = true then Oper.wp P o a w K Q else E := by
  have hw : Region.wanted o (yielded ops a.tmps) = true := by simp [Region.wanted, hgd]
  rw [if_pos hw]
  exact wp_append_rd w s x t ho base e i z size bytes ht hi hz hsize hby hzs hsz v n xs hs hown L B A m c news hx hr h1 h63 hbytes hbase h
end

/-- make with room for c, as an equation that the walk rewrites by -/
theorem made_eq {P : Program} (t e : TypeId) (i : TypeInfo) (z : Value) (size : Nat) (ht : P.underlying t = some (.slice e)) (hi : P.info? e = some i) (hz : i.zero = some z) (hsize : i.size = size)
    (c : Nat) (hbytes : i.bytes * c ≤ 281474976710656) (h63 : c ≤ maxLen) : ∃ Z : Array Value, Z.size = c * size ∧ ∀ w, (Instr.makeSlice t (.int .i64 0) (.int .i64 (c : Int))).run P w = .ok (.slice (some ⟨w.heap.size, 0, none⟩) 0 c) (w.alloc (.cells Z e)) := by
  subst hsize
  refine ⟨madeCells z.cells (c * i.size), size_madeCells _ _, fun w => ?_⟩
  have h63' : (c : Int) ≤ 9223372036854775807 := by
    have h := h63
    simp [maxLen] at h
    omega
  have hb' : (i.bytes : Int) * (c : Int) ≤ 281474976710656 := by
    have h : ((i.bytes * c : Nat) : Int) ≤ 281474976710656 := by omega
    rwa [Int.natCast_mul] at h
  have hr := run_make (P := P) w t e i z ht hi hz .i64 .i64 0 c (Int.le_refl _) (by omega) hb' h63'
  simpa using hr
theorem own_made {w : World} {base : Nat} {e : TypeId} {size g c : Nat} {Z : Array Value} (hZ : Z.size = c * size) (hc : c ≤ maxLen) (hb : base ≤ g) (h : Blk w g e Z) : w.ownsRow base e size (.slice (some ⟨g, 0, none⟩) 0 c) 0 [] :=
  ⟨by simp, .inr ⟨g, c, Z, rfl, hb, h, Nat.zero_le _, hc, hZ, by simp⟩⟩
theorem rd_only {w w' : World} {L sz n : Nat} {A : Option Addr} {xs : List Value} (h : Rd w L w.heap.size sz A n xs) (ho : Only (fun _ => False) w w') : Rd w' L w.heap.size sz A n xs :=
  h.keep fun _ _ _ hb => ho.cell hb (fun h => h)
theorem fin_keep {w1 w2 w3 : World} {b1 b2 : Nat} {e1 e2 : TypeId} {s1 s2 n1 n2 : Nat} {v1 v2 : Value} {x1 x2 : List Value} (h1 : w1.ownsRow b1 e1 s1 v1 n1 x1) (hb : Only (fun _ => False) w1 w2) (h2 : w2.ownsRow b2 e2 s2 v2 n2 x2) (hg : w2.grownBy w3 v2.ownBlock) (hne : e1 ≠ e2) :
    w3.ownsRow b1 e1 s1 v1 n1 x1 :=
  own_keep (own_stay h1 hb) (own_ne (own_stay h1 hb) h2 hne) ((Only.refl _ _).grown hg (fun _ hg => .inl hg))
theorem rd_via {w w1 w2 : World} {L sz n : Nat} {A : Option Addr} {xs : List Value} (h : Rd w L w.heap.size sz A n xs) (h1 : Only (fun _ => False) w w1) (h2 : Only (fun _ => False) w1 w2) : Rd w2 L w.heap.size sz A n xs :=
  rd_only h (h1.trans h2)
theorem ints_one (st : List Int) : ∀ u ∈ st.map (Value.int .i64), u.oneCell' = true := by
  intro u hu
  obtain ⟨x, _, rfl⟩ := List.mem_map.1 hu
  rfl
theorem keep_box {w W : World} {b : Nat} {t : TypeId} {v1 v2 : Value} (h : Blk w b t #[v1, v2]) (ho : Only (fun _ => False) w W) : W.cell? ⟨b, 0, none⟩ = some v1 ∧ W.cell? ⟨b, 1, none⟩ = some v2 :=
  ⟨(h.only ho (fun h => h)).cell 0, (h.only ho (fun h => h)).cell 1⟩
theorem only_put {w W : World} {g n c : Nat} (h : Only (fun j => (Value.slice (some ⟨g, 0, none⟩) n c).ownBlock = some j) w W) (i : Nat) (u : Value) : Only (fun j => (Value.slice (some ⟨g, 0, none⟩) n c).ownBlock = some j) w (W.setCell ⟨g, i, none⟩ u) :=
  Only.setCell (S := fun j => (Value.slice (some ⟨g, 0, none⟩) n c).ownBlock = some j) (p := ⟨g, i, none⟩) h (.inl rfl) _
end Go.Proofs.Ytbjfbmienlojkaa

namespace Go.Proofs.Ytbjfbmienlojkaa
open Go.RowKit

set_option maxHeartbeats 4000000 in
set_option maxRecDepth 100000 in
theorem refCopy_any (A1 A2 : Option Addr) (n1 c1 n2 c2 L1 L2 : Nat) (ls : List (Int × Int)) (st : List Int) (w : World)
    (h1 : Rd w L1 w.heap.size 2 A1 n1 (prs ls)) (h2 : Rd w L2 w.heap.size 1 A2 n2 (st.map (Value.int .i64))) (hn1 : n1 ≤ 100000) (hn2 : n2 ≤ 100000) :
    Calls Try.prog 26 #[.agg #[.slice A1 n1 c1, .slice A2 n2 c2]] w fun e w' => ∃ B1 d1 B2 d2, e = .returned (.agg #[.slice B1 n1 d1, .slice B2 n2 d2]) ∧
      w'.ownsRow w.heap.size 66 2 (.slice B1 n1 d1) n1 (prs ls) ∧ w'.ownsRow w.heap.size 3 1 (.slice B2 n2 d2) n2 (st.map (Value.int .i64)) ∧ Below w.heap.size w w' := by
  have H1 := Lib.hid h1
  have H2 := Lib.hid h2
  clear h1 h2
  have hinfo : (Try.prog.info? 66).map (fun i => (i.zero, i.size, i.bytes)) = some (some (.agg #[.int .i64 0, .int .i64 0]), 2, 16) := by kernel_rfl
  obtain ⟨i0, hi, hz0, hz1, hz2⟩ := info_parts hinfo
  have HI := Lib.hid (And.intro hi (And.intro hz0 (And.intro hz1 hz2)))
  have hinfo3 : (Try.prog.info? 3).map (fun i => (i.zero, i.size, i.bytes)) = some (some (.int .i64 0), 1, 8) := by kernel_rfl
  obtain ⟨j0, hj', jz0, jz1, jz2⟩ := info_parts hinfo3
  have HJ := Lib.hid (And.intro hj' (And.intro jz0 (And.intro jz1 jz2)))
  obtain ⟨Z1, hZ1, m1⟩ := made_eq 23 66 i0 _ 2 Try.underlying23 hi hz0 hz1 (n1 + 3) (by rw [hz2]; omega) (by unfold maxLen; omega)
  obtain ⟨Z2, hZ2, m2⟩ := made_eq 24 3 j0 _ 1 Try.underlying24 hj' jz0 jz1 (n2 + 3) (by rw [jz2]; omega) (by unfold maxLen; omega)
  have hC1 : ((n1 + 3 : Nat) : Int) = (n1 : Int) + 3 := by omega
  have hC2 : ((n2 + 3 : Nat) : Int) = (n2 : Int) + 3 := by omega
  rw [hC1] at m1
  rw [hC2] at m2
  have HZ1 := Lib.hid hZ1
  have HZ2 := Lib.hid hZ2
  clear hi hz0 hz1 hz2 hinfo hinfo3 hj' jz0 jz1 jz2 hZ1 hZ2 hC1 hC2
  go_enter Try.func26, Try.ntmps26
  go_upto_region 1 with (fail)
  refine wp_abs (fun wx => Blk wx w.heap.size 26 #[.slice A1 n1 c1, .slice A2 n2 c2] ∧ Blk wx (w.heap.size + 1) 26 #[.slice none 0 0, .slice none 0 0] ∧ Only (fun _ => False) w wx) ⟨(Blk.new _ _ _).alloc _, by simpa using Blk.new (w.alloc (.cells #[.slice A1 n1 c1, .slice A2 n2 c2] 26)) 26 #[.slice none 0 0, .slice none 0 0], ((Only.refl _ _).alloc _).alloc _⟩ ?_
  rintro wx ⟨k0, k1, ho⟩
  have c00 : wx.cell? ⟨w.heap.size, 0, none⟩ = some (.slice A1 n1 c1) := k0.cell 0
  have c01 : wx.cell? ⟨w.heap.size, 1, none⟩ = some (.slice A2 n2 c2) := k0.cell 1
  have zz : w.heap.size + 1 < wx.heap.size := k1.lt
  have HK := Lib.hid (And.intro k0 (And.intro k1 ho))
  clear k0 k1 ho
  have i1 : IntKind.i64.wrap ((n1 : Int) + 3) = (n1 : Int) + 3 := IntWalk.i64_in _ (by omega)
  have i2 : IntKind.i64.wrap ((n2 : Int) + 3) = (n2 : Int) + 3 := IntWalk.i64_in _ (by omega)
  go_region_held3 (fun w' => w'.cell? ⟨w.heap.size, 0, none⟩ = some (.slice A1 n1 c1) ∧ w'.cell? ⟨w.heap.size, 1, none⟩ = some (.slice A2 n2 c2)) ((first | (refine keep_box HK.out.1 ?_; (repeat (first | (with_reducible exact Only.refl _ _) | (with_reducible exact HOA.out.1) | (with_reducible exact HOB.out.1) | (with_reducible refine Only.drew ?_) | (with_reducible refine Only.alloc ?_ _))); done) | go_keep))
    (first
      | ((refine step_append_rd _ (by rfl) _ _ 23 (by rfl) wx.heap.size 66 i0 (.agg #[.int .i64 0, .int .i64 0]) 2 16 Try.underlying23 HI.out.1 HI.out.2.1 HI.out.2.2.1 HI.out.2.2.2 rfl (by omega) (.slice (some ⟨_, 0, none⟩) 0 (n1 + 3)) 0 [] (by rfl) ?_ L1 w.heap.size A1 n1 c1 (prs ls) (by rfl) ?_ (prs_one ls) ?_ ?_ ?_ ?_; (refine own_made HZ1.out (by unfold maxLen; omega) ?_ ?_; (first | exact Nat.le_refl _ | omega | (have := hgrowB.size; simp at this ⊢; omega)); (repeat (first | ((with_reducible refine blk_new_eq ?_); (first | (with_reducible rfl) | exact (by simp))) | (with_reducible refine Blk.drew ?_) | (with_reducible refine Blk.alloc ?_ _) | (with_reducible refine Blk.grown_ ?_ hgrowB (by simp [Value.ownBlock]))))); (refine rd_via H1.out HK.out.2.2 ?_; (repeat (first | (with_reducible exact Only.refl _ _) | (with_reducible exact HOA.out.1) | (with_reducible exact HOB.out.1) | (with_reducible refine Only.drew ?_) | (with_reducible refine Only.alloc ?_ _)))); (unfold maxLen; omega); omega; (refine Only.size (S := fun _ => False) ?_; (repeat (first | (with_reducible exact Only.refl _ _) | (with_reducible exact HOA.out.1) | (with_reducible exact HOB.out.1) | (with_reducible refine Only.drew ?_) | (with_reducible refine Only.alloc ?_ _)))); intro vA wA hpreA hownA hgrowA hatA; obtain ⟨XA, CA, rfl⟩ := own_slice hownA; simp only [Nat.zero_add, List.nil_append] at hownA; have hoA : Only (fun _ => False) wx wA := (by (repeat (first | (with_reducible exact Only.refl _ _) | (with_reducible exact HOA.out.1) | (with_reducible exact HOB.out.1) | (with_reducible refine Only.drew ?_) | (with_reducible refine Only.alloc ?_ _) | (with_reducible refine Only.grown ?_ hgrowA (fun g hg => Or.inr (hpreA.lt g hg).1))))); have e0A : wA.cell? ⟨w.heap.size + 1, 0, none⟩ = some (.slice none 0 0) := (HK.out.2.1.only hoA (fun h => h)).cell 0; have e1A : wA.cell? ⟨w.heap.size + 1, 1, none⟩ = some (.slice none 0 0) := (HK.out.2.1.only hoA (fun h => h)).cell 1; have f0A : wA.frozen? ⟨w.heap.size + 1, 0, none⟩ = false := (HK.out.2.1.only hoA (fun h => h)).frozen 0; have f1A : wA.frozen? ⟨w.heap.size + 1, 1, none⟩ = false := (HK.out.2.1.only hoA (fun h => h)).frozen 1; have HOA := Lib.hid (And.intro hoA (And.intro hpreA hownA)); clear hoA hatA))
      | ((refine step_append_rd _ (by rfl) _ _ 24 (by rfl) wx.heap.size 3 j0 (.int .i64 0) 1 8 Try.underlying24 HJ.out.1 HJ.out.2.1 HJ.out.2.2.1 HJ.out.2.2.2 rfl (by omega) (.slice (some ⟨_, 0, none⟩) 0 (n2 + 3)) 0 [] (by rfl) ?_ L2 w.heap.size A2 n2 c2 (st.map (Value.int .i64)) (by rfl) ?_ (ints_one st) ?_ ?_ ?_ ?_; (refine own_made HZ2.out (by unfold maxLen; omega) ?_ ?_; (first | exact Nat.le_refl _ | omega | (have := hgrowA.size; simp at this ⊢; omega)); (repeat (first | ((with_reducible refine blk_new_eq ?_); (first | (with_reducible rfl) | exact (by simp))) | (with_reducible refine Blk.drew ?_) | (with_reducible refine Blk.alloc ?_ _) | (with_reducible refine Blk.grown_ ?_ hgrowA (by simp [Value.ownBlock]))))); (refine rd_via H2.out HK.out.2.2 ?_; (repeat (first | (with_reducible exact Only.refl _ _) | (with_reducible exact HOA.out.1) | (with_reducible exact HOB.out.1) | (with_reducible refine Only.drew ?_) | (with_reducible refine Only.alloc ?_ _)))); (unfold maxLen; omega); omega; (refine Only.size (S := fun _ => False) ?_; (repeat (first | (with_reducible exact Only.refl _ _) | (with_reducible exact HOA.out.1) | (with_reducible exact HOB.out.1) | (with_reducible refine Only.drew ?_) | (with_reducible refine Only.alloc ?_ _)))); intro vB wB hpreB hownB hgrowB hatB; obtain ⟨XB, CB, rfl⟩ := own_slice hownB; simp only [Nat.zero_add, List.nil_append] at hownB; have hoB : Only (fun _ => False) wx wB := (by (repeat (first | (with_reducible exact Only.refl _ _) | (with_reducible exact HOA.out.1) | (with_reducible exact HOB.out.1) | (with_reducible refine Only.drew ?_) | (with_reducible refine Only.alloc ?_ _) | (with_reducible refine Only.grown ?_ hgrowB (fun g hg => Or.inr (hpreB.lt g hg).1))))); have e0B : wB.cell? ⟨w.heap.size + 1, 0, none⟩ = some (.slice none 0 0) := (HK.out.2.1.only hoB (fun h => h)).cell 0; have e1B : wB.cell? ⟨w.heap.size + 1, 1, none⟩ = some (.slice none 0 0) := (HK.out.2.1.only hoB (fun h => h)).cell 1; have f0B : wB.frozen? ⟨w.heap.size + 1, 0, none⟩ = false := (HK.out.2.1.only hoB (fun h => h)).frozen 0; have f1B : wB.frozen? ⟨w.heap.size + 1, 1, none⟩ = false := (HK.out.2.1.only hoB (fun h => h)).frozen 1; have HOB := Lib.hid (And.intro hoB (And.intro hpreB hownB)); clear hoB hatB)))
  all_goals
    have hA2 := fin_keep HOA.out.2.2 (by (repeat (first | (with_reducible exact Only.refl _ _) | (with_reducible refine Only.drew ?_) | (with_reducible refine Only.alloc ?_ _)))) HOB.out.2.1 hgrowB (by decide)
    have hkb := HK.out.2.1.only HOB.out.1 (fun h => h)
    have HF := (hkb.set_ 0 (.slice XA n1 CA)).set_ 1 (.slice XB n2 CB)
    have g0 := HF.cell 0
    have g1 := HF.cell 1
    simp at g0 g1
    have HE := Lib.hid (And.intro hA2 (And.intro HOB.out.2.2 (HK.out.2.2.trans HOB.out.1)))
    clear hA2 hkb HF
    go_wp2
    refine bodyPost_ret (v := .agg #[.slice XA n1 CA, .slice XB n2 CB]) (by simp [results, Try.results26, go_sem, g0, g1]) rfl ?_
    exact ⟨XA, CA, XB, CB, rfl, own_more (own_setCell (own_setCell HE.out.1 zz _) zz _) (by omega), own_more (own_setCell (own_setCell HE.out.2.1 zz _) zz _) (by omega), ((HE.out.2.2.below (Nat.le_refl _) (fun _ _ h => h)).setCell (by simp) _).setCell (by simp) _⟩
end Go.Proofs.Ytbjfbmienlojkaa

namespace Go.Proofs.Ytbjfbmienlojkaa
open Go.RowKit

theorem heads_mono (ls : List (Int × Int)) (k p h : Nat) : ∀ d, (heads_ ls k)[p]? = some h → (heads_ ls (k + d))[p]? = some h := by
  intro d hh
  induction d with
  | zero => exact hh
  | succ d ih =>
    rw [show k + (d + 1) = k + d + 1 from rfl, heads_succ]
    split
    · rw [List.getElem?_append_left (List.getElem?_eq_some_iff.1 ih).1]; exact ih
    · exact ih
theorem canGo_ref : ∀ (l : List (Int × Int)) (f : Nat → Int) (nx : Int) (k : Nat), ((canGo f nx l).getD k (0, 0)).2 = (l.getD k (0, 0)).2 := by
  intro l
  induction l with
  | nil => intro f nx k; rfl
  | cons p t ih =>
    intro f nx k
    obtain ⟨c, r⟩ := p
    unfold canGo
    split
    · cases k with
      | zero => rfl
      | succ k => simpa using ih f nx k
    · cases k with
      | zero => rfl
      | succ k => simpa using ih _ _ k
theorem canon_val (ls : List (Int × Int)) {m : Nat} (hm : m < ls.length) (h0 : 0 ≤ clsAt ls m) : ∃ p h : Nat, (heads_ ls (m + 1))[p]? = some h ∧ clsAt ls h = clsAt ls m ∧ clsAt (canonF ls) m = p := by
  have hI := canInv_all ls (m + 1) (by omega)
  obtain ⟨h, hh, hc⟩ := hI.i4 m (by omega) h0
  obtain ⟨p, hp⟩ := List.getElem?_of_mem hh
  have h1 := hI.i1 p h hp
  have hv := canGo_at ls (fun _ => 0, 0) m hm
  rw [canFold_succ ls _ m hm] at h1
  refine ⟨p, h, hp, hc, ?_⟩
  show clsAt (canGo _ _ ls) m = p
  rw [hv]
  unfold canVal
  rw [if_neg (by omega)]
  unfold canStep at h1
  rw [if_neg (by omega), hc] at h1
  simp only at h1
  omega
theorem canon_same (ls : List (Int × Int)) {j i : Nat} (hj : j < ls.length) (hi : i < ls.length) (h0 : 0 ≤ clsAt ls j) (hc : clsAt ls j = clsAt ls i) : clsAt (canonF ls) j = clsAt (canonF ls) i := by
  obtain ⟨p, h, hp, hh, hv⟩ := canon_val ls hj h0
  obtain ⟨p', h', hp', hh', hv'⟩ := canon_val ls hi (by omega)
  have hI := canInv_all ls ls.length (Nat.le_refl _)
  have e1 := heads_mono ls (j + 1) p h (ls.length - (j + 1)) hp
  have e2 := heads_mono ls (i + 1) p' h' (ls.length - (i + 1)) hp'
  rw [show j + 1 + (ls.length - (j + 1)) = ls.length by omega] at e1
  rw [show i + 1 + (ls.length - (i + 1)) = ls.length by omega] at e2
  have a1 := hI.i1 p h e1
  have a2 := hI.i1 p' h' e2
  rw [hh, hc] at a1
  rw [hh'] at a2
  omega
theorem canon_neg (ls : List (Int × Int)) {i : Nat} (hi : i < ls.length) (h0 : clsAt ls i < 0) : clsAt (canonF ls) i = clsAt ls i := by
  show clsAt (canGo _ _ ls) i = _
  rw [canGo_at ls (fun _ => 0, 0) i hi]
  unfold canVal
  rw [if_pos h0]
theorem canon_new (ls : List (Int × Int)) {i : Nat} (hi : i < ls.length) (hh : headB ls i = true) : clsAt (canonF ls) i = (heads_ ls i).length := by
  have hI := canInv_all ls i (by omega)
  obtain ⟨h0, hn⟩ := (headB_iff ls i).1 hh
  show clsAt (canGo _ _ ls) i = _
  rw [canGo_at ls (fun _ => 0, 0) i hi]
  have hz : (canFold (fun _ => 0, 0) ls i).1 (clsAt ls i).toNat = 0 := by
    apply Decidable.byContradiction
    intro hz
    obtain ⟨p, h, hp, hc⟩ := hI.i2 _ hz
    obtain ⟨h1, h2⟩ := heads_mem.1 (List.mem_of_getElem? hp)
    exact hn h h1 (by omega)
  unfold canVal bump
  rw [if_neg (by omega), if_pos hz, hI.i3]
  simp
theorem canonF_at (ls : List (Int × Int)) {i : Nat} (hi : i < (canonF ls).length) (hl : i < ls.length) : (canonF ls)[i] = (clsAt (canonF ls) i, ls[i].2) := by
  have h1 := canGo_ref ls (fun _ => 0) 0 i
  rw [List.getD_eq_getElem?_getD, List.getD_eq_getElem?_getD, List.getElem?_eq_getElem hl] at h1
  change ((canonF ls)[i]?.getD (0, 0)).2 = _ at h1
  rw [List.getElem?_eq_getElem hi] at h1
  have h2 := clsAt_get hi
  simp only [Option.getD_some] at h1
  rw [h2, ← h1]
theorem first_le (ls : List (Int × Int)) (i : Nat) : ∀ f k, firstFrom ls i f k ≤ i := by
  intro f
  induction f with
  | zero => intro k; exact Nat.le_refl _
  | succ f ih =>
    intro k
    unfold firstFrom
    split
    · split
      · omega
      · exact ih _
    · exact Nat.le_refl _
theorem first_alike (ls : List (Int × Int)) (i : Nat) : ∀ f k, firstFrom ls i f k < i → alikeB ls (firstFrom ls i f k) i = true := by
  intro f
  induction f with
  | zero => intro k h; unfold firstFrom at h; omega
  | succ f ih =>
    intro k h
    unfold firstFrom at h ⊢
    split
    · next hk =>
      rw [if_pos hk] at h
      split
      · assumption
      · next ha =>
        rw [if_neg ha] at h
        exact ih _ h
    · next hk =>
      rw [if_neg hk] at h
      omega
theorem firstF_cls (ls : List (Int × Int)) {i : Nat} (h : firstF ls i < i) : 0 ≤ clsAt ls i ∧ clsAt ls (firstF ls i) = clsAt ls i := by
  have h1 := first_alike ls i i 0 h
  unfold alikeB at h1
  simp at h1
  rcases h1 with h1 | h1
  · change firstF ls i = i at h1
    omega
  · change 0 ≤ clsAt ls (firstF ls i) ∧ clsAt ls (firstF ls i) = clsAt ls i at h1
    exact ⟨by omega, h1.2⟩

/-- the first i lines numbered anew -/
def canPre (ls : List (Int × Int)) (i : Nat) : List (Int × Int) := (canonF ls).take i ++ ls.drop i
theorem canPre_len (ls : List (Int × Int)) (i : Nat) : (canPre ls i).length = ls.length := by
  unfold canPre
  rw [List.length_append, List.length_take, List.length_drop, canonF_len]
  omega
theorem canPre_zero (ls : List (Int × Int)) : canPre ls 0 = ls := by simp [canPre]
theorem canPre_end (ls : List (Int × Int)) : canPre ls ls.length = canonF ls := by
  unfold canPre
  rw [List.drop_length, List.append_nil, List.take_of_length_le (by rw [canonF_len]; exact Nat.le_refl _)]
theorem canPre_here (ls : List (Int × Int)) {i : Nat} (hi : i < ls.length) : (canPre ls i)[i]? = some ls[i] := by
  unfold canPre
  rw [List.getElem?_append_right (by rw [List.length_take]; omega), List.length_take, canonF_len, List.getElem?_drop]
  rw [show i + (i - min i ls.length) = i by omega, List.getElem?_eq_getElem hi]
theorem canPre_back (ls : List (Int × Int)) {k i : Nat} (hk : k < i) (hi : i < ls.length) : (canPre ls i)[k]? = (canonF ls)[k]? := by
  unfold canPre
  rw [List.getElem?_append_left (by rw [List.length_take, canonF_len]; omega), List.getElem?_take, if_pos hk]
theorem canPre_succ (ls : List (Int × Int)) {i : Nat} (hi : i < ls.length) : canPre ls (i + 1) = (canPre ls i).set i (clsAt (canonF ls) i, ls[i].2) := by
  have hc : i < (canonF ls).length := by rw [canonF_len]; exact hi
  apply List.ext_getElem?
  intro q
  rw [List.getElem?_set]
  by_cases e : i = q
  · subst e
    rw [if_pos rfl, if_pos (by rw [canPre_len]; exact hi)]
    unfold canPre
    rw [List.getElem?_append_left (by rw [List.length_take]; omega), List.getElem?_take, if_pos (by omega), List.getElem?_eq_getElem hc, canonF_at ls hc hi]
  · rw [if_neg e]
    unfold canPre
    rcases Nat.lt_or_ge q i with h1 | h1
    · rw [List.getElem?_append_left (by rw [List.length_take]; omega), List.getElem?_append_left (by rw [List.length_take]; omega), List.getElem?_take, List.getElem?_take, if_pos (by omega), if_pos h1]
    · rw [List.getElem?_append_right (by rw [List.length_take]; omega), List.getElem?_append_right (by rw [List.length_take]; omega), List.length_take, List.length_take, List.getElem?_drop, List.getElem?_drop]
      congr 1
      omega
theorem canPre_skip (ls : List (Int × Int)) {i : Nat} (hi : i < ls.length) (h0 : clsAt ls i < 0) : canPre ls (i + 1) = canPre ls i := by
  rw [canPre_succ ls hi, canon_neg ls hi h0, clsAt_get hi]
  apply List.ext_getElem?
  intro q
  rw [List.getElem?_set]
  by_cases e : i = q
  · subst e
    rw [if_pos rfl, if_pos (by rw [canPre_len]; exact hi), canPre_here ls hi]
  · rw [if_neg e]
end Go.Proofs.Ytbjfbmienlojkaa
