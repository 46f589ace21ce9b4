/- cluster.Each over the fixed text; Count. -/
import Derived.Test.YtialpfmaekagjaaK1
import Derived.Stop.RegionWithIn
namespace Go.Proofs.Ytialpfmaekagjaa
open Go.RowKit
attribute [local go_sem] Oper.semAt_some

def eB : ByteArray := ⟨#[101, 204, 129, 120]⟩
def q0 : Pc := (0, 1, 101, false)
def q1 : Pc := (1, 2, 769, false)
def q2 : Pc := (3, 1, 120, false)
theorem pcs_e : pcs eB = [q0, q1, q2] := by decide +kernel
theorem eachc_call (s : ByteArray) (w : World) : Calls Try.prog 48 #[.string s] w fun e w' => e = .returned (.func (.func 59) #[] #[.pointer (some ⟨w.heap.size, 0, none⟩)]) ∧ w' = w.alloc (.cells #[.string s] 9) := by
  go_enter Try.func48, Try.ntmps48
  go_wp2
  go_ret
  exact ⟨rfl, rfl⟩

/-- a cluster: from, to, columns -/
def ceC (c : Int × Int × Int) : Array Value := #[.int .i64 c.1, .int .i64 c.2.1, .int .i64 c.2.2]
def ceA (c : Int × Int × Int) : Array Value := #[.agg #[.int .i64 c.1, .int .i64 c.2.1, .int .i64 c.2.2]]
def cL : List (Int × Int × Int) := [(0, 3, 1), (3, 4, 1)]
/-- memory while Each runs -/
structure ClSt (E : ByteArray) (W0 : World) (l sb : Nat) (op : Bool) (now : Int × Int × Int) (hd : Int) (la : Pc) (W : World) : Prop where
  by_ : Blk W W0.heap.size 124 #[.func (.yield l) #[] #[]]
  bn : Blk W (W0.heap.size + 1) 112 (ceC now)
  bh : Blk W (W0.heap.size + 2) 85 #[.int .i64 hd]
  bl : Blk W (W0.heap.size + 3) 33 (pcC la)
  bo : Blk W (W0.heap.size + 4) 4 #[.bool op]
  bs : Blk W sb 9 #[.string E]
  bp : Blk W (W0.heap.size + 5) 9 #[.string E]
  l1 : sb < W0.heap.size
theorem ClSt.only {E : ByteArray} {W0 : World} {l sb : Nat} {op : Bool} {now : Int × Int × Int} {hd : Int} {la : Pc} {W W' : World} {S : Nat → Prop} (h : ClSt E W0 l sb op now hd la W) (ho : Only S W W') (hS : ∀ b, S b → W0.heap.size + 5 < b ∨ (b < W0.heap.size ∧ b ≠ sb)) : ClSt E W0 l sb op now hd la W' :=
  ⟨h.by_.only ho (fun hs => by have := hS _ hs; omega), h.bn.only ho (fun hs => by have := hS _ hs; omega), h.bh.only ho (fun hs => by have := hS _ hs; omega), h.bl.only ho (fun hs => by have := hS _ hs; omega), h.bo.only ho (fun hs => by have := hS _ hs; omega), h.bs.only ho (fun hs => by have := hS _ hs; have := h.l1; omega), h.bp.only ho (fun hs => by have := hS _ hs; omega), h.l1⟩

theorem pc_arr (q q' : Pc) : (((((pcC q).setIfInBounds 0 (.int .i64 q'.1)).setIfInBounds 1 (.int .i64 q'.2.1)).setIfInBounds 2 (.int .i32 q'.2.2.1)).setIfInBounds 3 (.bool q'.2.2.2)) = pcC q' := by simp [pcC]
theorem pc_put (w : World) (g : Nat) (q q' : Pc) (h : Blk w g 33 (pcC q)) : Blk ((((w.setCell ⟨g, 0, none⟩ (.int .i64 q'.1)).setCell ⟨g, 1, none⟩ (.int .i64 q'.2.1)).setCell ⟨g, 2, none⟩ (.int .i32 q'.2.2.1)).setCell ⟨g, 3, none⟩ (.bool q'.2.2.2)) g 33 (pcC q') := by
  rw [← pc_arr q q']
  exact (((h.set_ 0 _).set_ 1 _).set_ 2 _).set_ 3 _
theorem only4 (w0 w : World) (g : Nat) (S : Nat → Prop) (hS : S g) (h : Only S w0 w) (v0 v1 v2 v3 : Value) : Only S w0 ((((w.setCell ⟨g, 0, none⟩ v0).setCell ⟨g, 1, none⟩ v1).setCell ⟨g, 2, none⟩ v2).setCell ⟨g, 3, none⟩ v3) :=
  (((h.setCell (.inl hS) _).setCell (.inl hS) _).setCell (.inl hS) _).setCell (.inl hS) _
theorem ce_arr (c c' : Int × Int × Int) : ((((ceC c).setIfInBounds 0 (.int .i64 c'.1)).setIfInBounds 1 (.int .i64 c'.2.1)).setIfInBounds 2 (.int .i64 c'.2.2)) = ceC c' := by simp [ceC]
/-- the last piece anew -/
theorem ClSt.last {E : ByteArray} {W0 w : World} {l sb : Nat} {op : Bool} {now : Int × Int × Int} {hd : Int} {la : Pc} (h : ClSt E W0 l sb op now hd la w) (q : Pc) :
    ClSt E W0 l sb op now hd q ((((w.setCell ⟨W0.heap.size + 3, 0, none⟩ (.int .i64 q.1)).setCell ⟨W0.heap.size + 3, 1, none⟩ (.int .i64 q.2.1)).setCell ⟨W0.heap.size + 3, 2, none⟩ (.int .i32 q.2.2.1)).setCell ⟨W0.heap.size + 3, 3, none⟩ (.bool q.2.2.2)) := by
  have ho := only4 w w (W0.heap.size + 3) (fun b => b = W0.heap.size + 3) rfl (Only.refl _ w) (.int .i64 q.1) (.int .i64 q.2.1) (.int .i32 q.2.2.1) (.bool q.2.2.2)
  exact ⟨h.by_.only ho (by omega), h.bn.only ho (by omega), h.bh.only ho (by omega), pc_put _ _ _ _ h.bl, h.bo.only ho (by omega), h.bs.only ho (by have := h.l1; omega), h.bp.only ho (by omega), h.l1⟩
/-- the cluster anew -/
theorem ClSt.now {E : ByteArray} {W0 w : World} {l sb : Nat} {op : Bool} {now : Int × Int × Int} {hd : Int} {la : Pc} (h : ClSt E W0 l sb op now hd la w) (c : Int × Int × Int) :
    ClSt E W0 l sb op c hd la (((w.setCell ⟨W0.heap.size + 1, 0, none⟩ (.int .i64 c.1)).setCell ⟨W0.heap.size + 1, 1, none⟩ (.int .i64 c.2.1)).setCell ⟨W0.heap.size + 1, 2, none⟩ (.int .i64 c.2.2)) := by
  have ho : Only (fun b => b = W0.heap.size + 1) w (((w.setCell ⟨W0.heap.size + 1, 0, none⟩ (.int .i64 c.1)).setCell ⟨W0.heap.size + 1, 1, none⟩ (.int .i64 c.2.1)).setCell ⟨W0.heap.size + 1, 2, none⟩ (.int .i64 c.2.2)) := (((Only.refl (fun b => b = W0.heap.size + 1) w).setCell (.inl rfl) _).setCell (.inl rfl) _).setCell (.inl rfl) _
  refine ⟨h.by_.only ho (by omega), ?_, h.bh.only ho (by omega), h.bl.only ho (by omega), h.bo.only ho (by omega), h.bs.only ho (by have := h.l1; omega), h.bp.only ho (by omega), h.l1⟩
  rw [← ce_arr now c]
  exact ((h.bn.set_ 0 _).set_ 1 _).set_ 2 _
/-- one cell of the cluster anew -/
theorem ClSt.nowTo {E : ByteArray} {W0 w : World} {l sb : Nat} {op : Bool} {now : Int × Int × Int} {hd : Int} {la : Pc} (h : ClSt E W0 l sb op now hd la w) (x : Int) : ClSt E W0 l sb op (now.1, x, now.2.2) hd la (w.setCell ⟨W0.heap.size + 1, 1, none⟩ (.int .i64 x)) := by
  have ho : Only (fun b => b = W0.heap.size + 1) w (w.setCell ⟨W0.heap.size + 1, 1, none⟩ (.int .i64 x)) := (Only.refl (fun b => b = W0.heap.size + 1) w).setCell (.inl rfl) _
  refine ⟨h.by_.only ho (by omega), ?_, h.bh.only ho (by omega), h.bl.only ho (by omega), h.bo.only ho (by omega), h.bs.only ho (by have := h.l1; omega), h.bp.only ho (by omega), h.l1⟩
  have := h.bn.set_ 1 (.int .i64 x)
  simpa [ceC] using this
theorem ClSt.nowCol {E : ByteArray} {W0 w : World} {l sb : Nat} {op : Bool} {now : Int × Int × Int} {hd : Int} {la : Pc} (h : ClSt E W0 l sb op now hd la w) (x : Int) : ClSt E W0 l sb op (now.1, now.2.1, x) hd la (w.setCell ⟨W0.heap.size + 1, 2, none⟩ (.int .i64 x)) := by
  have ho : Only (fun b => b = W0.heap.size + 1) w (w.setCell ⟨W0.heap.size + 1, 2, none⟩ (.int .i64 x)) := (Only.refl (fun b => b = W0.heap.size + 1) w).setCell (.inl rfl) _
  refine ⟨h.by_.only ho (by omega), ?_, h.bh.only ho (by omega), h.bl.only ho (by omega), h.bo.only ho (by omega), h.bs.only ho (by have := h.l1; omega), h.bp.only ho (by omega), h.l1⟩
  have := h.bn.set_ 2 (.int .i64 x)
  simpa [ceC] using this
/-- it is open, with a head's kind -/
theorem ClSt.opens {E : ByteArray} {W0 w : World} {l sb : Nat} {op : Bool} {now : Int × Int × Int} {hd : Int} {la : Pc} (h : ClSt E W0 l sb op now hd la w) : ClSt E W0 l sb true now hd la (w.setCell ⟨W0.heap.size + 4, 0, none⟩ (.bool true)) := by
  have ho : Only (fun b => b = W0.heap.size + 4) w (w.setCell ⟨W0.heap.size + 4, 0, none⟩ (.bool true)) := (Only.refl (fun b => b = W0.heap.size + 4) w).setCell (.inl rfl) _
  exact ⟨h.by_.only ho (by omega), h.bn.only ho (by omega), h.bh.only ho (by omega), h.bl.only ho (by omega), h.bo.set_ 0 _, h.bs.only ho (by have := h.l1; omega), h.bp.only ho (by omega), h.l1⟩
theorem ClSt.head {E : ByteArray} {W0 w : World} {l sb : Nat} {op : Bool} {now : Int × Int × Int} {hd : Int} {la : Pc} (h : ClSt E W0 l sb op now hd la w) (k : Int) : ClSt E W0 l sb op now k la (w.setCell ⟨W0.heap.size + 2, 0, none⟩ (.int .i64 k)) := by
  have ho : Only (fun b => b = W0.heap.size + 2) w (w.setCell ⟨W0.heap.size + 2, 0, none⟩ (.int .i64 k)) := (Only.refl (fun b => b = W0.heap.size + 2) w).setCell (.inl rfl) _
  exact ⟨h.by_.only ho (by omega), h.bn.only ho (by omega), h.bh.set_ 0 _, h.bl.only ho (by omega), h.bo.only ho (by omega), h.bs.only ho (by have := h.l1; omega), h.bp.only ho (by omega), h.l1⟩

theorem ClSt.drew {E : ByteArray} {W0 w : World} {l sb : Nat} {op : Bool} {now : Int × Int × Int} {hd : Int} {la : Pc} (h : ClSt E W0 l sb op now hd la w) : ClSt E W0 l sb op now hd la w.drew :=
  ⟨h.by_.drew, h.bn.drew, h.bh.drew, h.bl.drew, h.bo.drew, h.bs.drew, h.bp.drew, h.l1⟩
theorem ClSt.open6 {E : ByteArray} {W0 w : World} {l sb : Nat} {op : Bool} {now : Int × Int × Int} {hd : Int} {la : Pc} (h : ClSt E W0 l sb op now hd la w) (k a b r : Int) (br : Bool) :
    ClSt E W0 l sb true now k (a, b, r, br) ((((((w.setCell ⟨W0.heap.size + 1 + 1 + 1 + 1, 0, none⟩ (.bool true)).setCell ⟨W0.heap.size + 1 + 1, 0, none⟩ (.int .i64 k)).setCell ⟨W0.heap.size + 1 + 1 + 1, 0, none⟩ (.int .i64 a)).setCell ⟨W0.heap.size + 1 + 1 + 1, 1, none⟩ (.int .i64 b)).setCell ⟨W0.heap.size + 1 + 1 + 1, 2, none⟩ (.int .i32 r)).setCell ⟨W0.heap.size + 1 + 1 + 1, 3, none⟩ (.bool br)).drew ∧
    Only (fun x => W0.heap.size < x ∧ x ≤ W0.heap.size + 4) w ((((((w.setCell ⟨W0.heap.size + 1 + 1 + 1 + 1, 0, none⟩ (.bool true)).setCell ⟨W0.heap.size + 1 + 1, 0, none⟩ (.int .i64 k)).setCell ⟨W0.heap.size + 1 + 1 + 1, 0, none⟩ (.int .i64 a)).setCell ⟨W0.heap.size + 1 + 1 + 1, 1, none⟩ (.int .i64 b)).setCell ⟨W0.heap.size + 1 + 1 + 1, 2, none⟩ (.int .i32 r)).setCell ⟨W0.heap.size + 1 + 1 + 1, 3, none⟩ (.bool br)).drew :=
  ⟨((h.opens.head k).last (a, b, r, br)).drew, ((((((((Only.refl (fun x => W0.heap.size < x ∧ x ≤ W0.heap.size + 4) w).setCell (p := ⟨W0.heap.size + 1 + 1 + 1 + 1, 0, none⟩) (.inl ⟨by simp; omega, by simp⟩) _).setCell (p := ⟨W0.heap.size + 1 + 1, 0, none⟩) (.inl ⟨by simp; omega, by simp⟩) _).setCell (p := ⟨W0.heap.size + 1 + 1 + 1, 0, none⟩) (.inl ⟨by simp; omega, by simp⟩) _).setCell (p := ⟨W0.heap.size + 1 + 1 + 1, 1, none⟩) (.inl ⟨by simp; omega, by simp⟩) _).setCell (p := ⟨W0.heap.size + 1 + 1 + 1, 2, none⟩) (.inl ⟨by simp; omega, by simp⟩) _).setCell (p := ⟨W0.heap.size + 1 + 1 + 1, 3, none⟩) (.inl ⟨by simp; omega, by simp⟩) _).drew)⟩
theorem ClSt.now3 {E : ByteArray} {W0 w : World} {l sb : Nat} {op : Bool} {now : Int × Int × Int} {hd : Int} {la : Pc} (h : ClSt E W0 l sb op now hd la w) (a b c : Int) :
    ClSt E W0 l sb op (a, b, c) hd la (((w.setCell ⟨W0.heap.size + 1, 0, none⟩ (.int .i64 a)).setCell ⟨W0.heap.size + 1, 1, none⟩ (.int .i64 b)).setCell ⟨W0.heap.size + 1, 2, none⟩ (.int .i64 c)) ∧
    Only (fun x => W0.heap.size < x ∧ x ≤ W0.heap.size + 4) w (((w.setCell ⟨W0.heap.size + 1, 0, none⟩ (.int .i64 a)).setCell ⟨W0.heap.size + 1, 1, none⟩ (.int .i64 b)).setCell ⟨W0.heap.size + 1, 2, none⟩ (.int .i64 c)) :=
  ⟨h.now (a, b, c), (((Only.refl (fun x => W0.heap.size < x ∧ x ≤ W0.heap.size + 4) w).setCell (p := ⟨W0.heap.size + 1, 0, none⟩) (.inl ⟨by simp, by simp⟩) _).setCell (p := ⟨W0.heap.size + 1, 1, none⟩) (.inl ⟨by simp, by simp⟩) _).setCell (p := ⟨W0.heap.size + 1, 2, none⟩) (.inl ⟨by simp, by simp⟩) _⟩

theorem ClSt.colLast {E : ByteArray} {W0 w : World} {l sb : Nat} {op : Bool} {n0 n1 n2 : Int} {hd : Int} {la : Pc} (h : ClSt E W0 l sb op (n0, n1, n2) hd la w) (x a b r : Int) (br : Bool) :
    ClSt E W0 l sb op (n0, n1, x) hd (a, b, r, br) (((((w.setCell ⟨W0.heap.size + 1, 2, none⟩ (.int .i64 x)).setCell ⟨W0.heap.size + 1 + 1 + 1, 0, none⟩ (.int .i64 a)).setCell ⟨W0.heap.size + 1 + 1 + 1, 1, none⟩ (.int .i64 b)).setCell ⟨W0.heap.size + 1 + 1 + 1, 2, none⟩ (.int .i32 r)).setCell ⟨W0.heap.size + 1 + 1 + 1, 3, none⟩ (.bool br)) ∧
    Only (fun x => W0.heap.size < x ∧ x ≤ W0.heap.size + 4) w (((((w.setCell ⟨W0.heap.size + 1, 2, none⟩ (.int .i64 x)).setCell ⟨W0.heap.size + 1 + 1 + 1, 0, none⟩ (.int .i64 a)).setCell ⟨W0.heap.size + 1 + 1 + 1, 1, none⟩ (.int .i64 b)).setCell ⟨W0.heap.size + 1 + 1 + 1, 2, none⟩ (.int .i32 r)).setCell ⟨W0.heap.size + 1 + 1 + 1, 3, none⟩ (.bool br)) :=
  ⟨(h.nowCol x).last (a, b, r, br), (((((Only.refl (fun x => W0.heap.size < x ∧ x ≤ W0.heap.size + 4) w).setCell (p := ⟨W0.heap.size + 1, 2, none⟩) (.inl ⟨by simp, by simp⟩) _).setCell (p := ⟨W0.heap.size + 1 + 1 + 1, 0, none⟩) (.inl ⟨by simp; omega, by simp⟩) _).setCell (p := ⟨W0.heap.size + 1 + 1 + 1, 1, none⟩) (.inl ⟨by simp; omega, by simp⟩) _).setCell (p := ⟨W0.heap.size + 1 + 1 + 1, 2, none⟩) (.inl ⟨by simp; omega, by simp⟩) _).setCell (p := ⟨W0.heap.size + 1 + 1 + 1, 3, none⟩) (.inl ⟨by simp; omega, by simp⟩) _⟩

set_option maxHeartbeats 8000000 in
theorem eachc_gives (sb : Nat) (W : World) (hsb : Blk W sb 9 #[.string eB]) : GivesT Try.prog 59 #[.pointer (some ⟨sb, 0, none⟩)] (cL.map ceA) (fun b => b = sb) W := by
  intro l J hJ hY h0
  show Calls Try.prog 59 #[.func (.yield l) #[] #[], .pointer (some ⟨sb, 0, none⟩)] W _
  have HJ := Lib.hid (And.intro hJ h0)
  have HY := Lib.hid (show YieldsT Try.prog W (fun b => b = sb) l J from hY)
  have hlt := hsb.lt
  have HB := Lib.hid hsb
  have HP := Lib.hid pcs_e
  have hez : eB.size ≤ 70000 := by decide
  have HEZ := Lib.hid hez
  clear hJ hY h0 hsb hez
  generalize hE : eB = E at *
  clear hE
  refine calls_of_wp_marks Try.func59 rfl ?_
  simp only [Try.ntmps59, List.size_toArray, List.length_cons, List.length_nil, Nat.reduceAdd, Nat.reduceSub, Array.replicate_succ, Array.replicate_zero, List.push_toArray, List.append_toArray, List.nil_append, List.cons_append]
  go_wp2
  refine wp_scope_labels (fun _ _ _ _ => False) ?first (fun _ _ _ _ h => h.elim)
  go_wp2
  rename_i K hK
  refine wp_label ?_
  simp only [Exit.then]
  apply hK
  clear hK
  refine wp_abs (fun wx => Blk wx W.heap.size 124 #[.func (.yield l) #[] #[]] ∧ Blk wx (W.heap.size + 1) 112 (ceC (0, 0, 0)) ∧ Blk wx (W.heap.size + 2) 85 #[.int .i64 0] ∧ Blk wx (W.heap.size + 3) 33 (pcC (0, 0, 0, false)) ∧ Blk wx (W.heap.size + 4) 4 #[.bool false] ∧ Below W.heap.size W wx ∧ wx.heap.size = W.heap.size + 5) ⟨((((Blk.new W 124 _).alloc _).alloc _).alloc _).alloc _, (((blk_new_eq (by simp)).alloc _).alloc _).alloc _, ((blk_new_eq (by simp)).alloc _).alloc _, (blk_new_eq (by simp)).alloc _, blk_new_eq (by simp), (((((Below.refl _ W).alloc (Nat.le_refl _) _).alloc (by simp) _).alloc (by simp; omega) _).alloc (by simp; omega) _).alloc (by simp; omega) _, by simp⟩ ?_
  rintro w1 ⟨g1, g2, g3, g4, g5, g6, g7⟩
  have cs : w1.cell? ⟨sb, 0, none⟩ = some (.string E) := (HB.out.below g6 hlt).cell 0
  have H1 := Lib.hid (And.intro g1 (And.intro g2 (And.intro g3 (And.intro g4 (And.intro g5 (And.intro g6 g7))))))
  clear g1 g2 g3 g4 g5 g6 g7
  go_wp2_with fail
  refine (pieces_call E w1).mono ?_
  rintro e w3 ⟨rfl, hw3⟩
  have hs3 : w3.heap.size = W.heap.size + 6 := by rw [hw3]; have := H1.out.2.2.2.2.2.2; simp; omega
  have hb3 : Below W.heap.size W w3 := by rw [hw3]; exact H1.out.2.2.2.2.2.1.alloc H1.out.2.2.2.2.2.1.size _
  have hps : w1.heap.size = W.heap.size + 5 := H1.out.2.2.2.2.2.2
  have hS : ClSt E W l sb false (0, 0, 0) 0 (0, 0, 0, false) w3 := by
    rw [hw3]
    exact ⟨H1.out.1.alloc _, H1.out.2.1.alloc _, H1.out.2.2.1.alloc _, H1.out.2.2.2.1.alloc _, H1.out.2.2.2.2.1.alloc _, (HB.out.below H1.out.2.2.2.2.2.1 hlt).alloc _, by rw [← hps]; exact Blk.new _ _ _, hlt⟩
  have hJ0 : J (cL.map ceA) (fun _ => False) w3 := HJ.out.1 _ _ _ _ HJ.out.2 (Only.of_below hb3 _)
  have HS := Lib.hid (And.intro hS hJ0)
  have HS3 := Lib.hid hs3
  rw [hps]
  clear hS hw3 H1 hJ0 hb3 cs hs3 hps
  go_wp2
  refine wp_rangeE (gf := 35) (lb := #[.pointer (some ⟨W.heap.size + 5, 0, none⟩)]) [q0, q1, q2] (fun p => #[pcV p]) (C := fun b => b = W.heap.size + 5) 33 pcC ?F rfl (enters_of Try.func35 (by kernel_rfl) rfl)
    (fun W2 hb _ => by rw [← HP.out]; exact pieces_gives E (W.heap.size + 5) W2 (HS.out.1.bp.below hb HS.out.1.bp.lt) HEZ.out) (fun b e => by rw [e]; exact HS.out.1.bp.lt) (fun p => rfl)
    (fun r S W' => (r = [q0, q1, q2] ∧ ClSt E W l sb false (0, 0, 0) 0 (0, 0, 0, false) W' ∧ J (cL.map ceA) S W') ∨ (r = [q1, q2] ∧ ClSt E W l sb true (0, 1, 1) 1 q0 W' ∧ J (cL.map ceA) S W') ∨ (r = [q2] ∧ ClSt E W l sb true (0, 3, 1) 1 q1 W' ∧ J (cL.map ceA) S W') ∨ (r = [] ∧ ClSt E W l sb true (3, 4, 1) 1 q2 W' ∧ J [ceA (3, 4, 1)] S W'))
    (fun r S A A' h ho => by
      have hl := HS3.out
      have hc : ∀ {op now hd la}, ClSt E W l sb op now hd la A → ClSt E W l sb op now hd la A' := fun h => h.only ho (fun b hb => .inl (by omega))
      have hj : ∀ {r'}, J r' S A → J r' S A' := fun h => HJ.out.1 _ _ _ _ h (ho.weak (fun b _ hb => ⟨by omega, hb.2⟩))
      rcases h with ⟨h1, h2, h3⟩ | ⟨h1, h2, h3⟩ | ⟨h1, h2, h3⟩ | ⟨h1, h2, h3⟩
      · exact .inl ⟨h1, hc h2, hj h3⟩
      · exact .inr (.inl ⟨h1, hc h2, hj h3⟩)
      · exact .inr (.inr (.inl ⟨h1, hc h2, hj h3⟩))
      · exact .inr (.inr (.inr ⟨h1, hc h2, hj h3⟩))) (.inl ⟨rfl, HS.out.1, HS.out.2⟩)
    ?assign ?body ?done
  case assign =>
    rintro l p W
    simp only [List.zip_toArray, List.zip_cons_cons, List.zip_nil_right, List.foldl_toArray', List.foldl_cons, List.foldl_nil]
    rw [show pcV p = .agg #[.int .i64 p.1, .int .i64 p.2.1, .int .i32 p.2.2.1, .bool p.2.2.2] from rfl]
    gi_wp2
    obtain ⟨pb, hpb⟩ : ∃ pb, pb = W.heap.size := ⟨_, rfl⟩
    rw [← hpb]
    refine ⟨rfl, ?_⟩
    exact rfl
  case body =>
    rintro l' p r S pb W' hsu hI hP hSb hpb
    have wf : ∀ k, Fence.wide.fn k := fun _ => trivial
    have wd : Fence.wide.depth = none := rfl
    rcases hI with ⟨he, hS, hj⟩ | ⟨he, hS, hj⟩ | ⟨he, hS, hj⟩ | ⟨he, hS, hj⟩
    · injection he with hp hr
      subst hp hr
      have p0 : W'.cell? ⟨pb, 0, none⟩ = some (.int .i64 0) := hP.cell 0
      have p1 : W'.cell? ⟨pb, 1, none⟩ = some (.int .i64 1) := hP.cell 1
      have p2 : W'.cell? ⟨pb, 2, none⟩ = some (.int .i32 101) := hP.cell 2
      have p3 : W'.cell? ⟨pb, 3, none⟩ = some (.bool false) := hP.cell 3
      have hpz := hP.lt
      have HR := Lib.hid (And.intro hS (And.intro hj (And.intro hP (And.intro hSb hpb))))
      clear hS hj hP hSb hpb
      simp only [q0]
      gi_wp2_with fail
      refine (CallsIn.inRound l' (callsIn_wide.2 (of_any 0 1 101 false _))).mono ?_
      rintro e w4 ⟨rfl, hb⟩
      rw [show (if false = true then (11 : Int) else kindF 101) = 1 from by decide +kernel]
      have HW := Lib.hid (And.intro (HR.out.1.only (S := fun _ => False) (Only.of_below hb _) (fun _ h => h.elim)) (And.intro (HJ.out.1 _ _ _ _ HR.out.2.1 (Only.of_below hb _)) (And.intro (HR.out.2.2.1.below hb HR.out.2.2.1.lt) (And.intro (Only.of_below hb (fun b => (b < w3.heap.size ∧ ¬ b = W.heap.size + 5) ∨ S b)) hb.size))))
      clear hb p0 p1 p2 p3
      have p0 : w4.cell? ⟨pb, 0, none⟩ = some (.int .i64 0) := HW.out.2.2.1.cell 0
      have p1 : w4.cell? ⟨pb, 1, none⟩ = some (.int .i64 1) := HW.out.2.2.1.cell 1
      have p2 : w4.cell? ⟨pb, 2, none⟩ = some (.int .i32 101) := HW.out.2.2.1.cell 2
      have p3 : w4.cell? ⟨pb, 3, none⟩ = some (.bool false) := HW.out.2.2.1.cell 3
      have c4 : w4.cell? ⟨W.heap.size + 1 + 1 + 1 + 1, 0, none⟩ = some (.bool false) := HW.out.1.bo.cell 0
      gi_wp2
      clear c4 p0 p1 p2 p3
      have HBK := Lib.hid (show Blk w4 pb 33 #[.int .i64 0, .int .i64 1, .int .i32 101, .bool false] from HW.out.2.2.1)
      have x4 : w4.cell? ⟨W.heap.size + 1 + 1 + 1 + 1, 0, none⟩ = some (.bool _) := HW.out.1.bo.cell 0
      have f4 : w4.frozen? ⟨W.heap.size + 1 + 1 + 1 + 1, 0, none⟩ = false := HW.out.1.bo.frozen 0
      have x2 : w4.cell? ⟨W.heap.size + 1 + 1, 0, none⟩ = some (.int .i64 _) := HW.out.1.bh.cell 0
      have f2 : w4.frozen? ⟨W.heap.size + 1 + 1, 0, none⟩ = false := HW.out.1.bh.frozen 0
      have y0 : w4.cell? ⟨W.heap.size + 1 + 1 + 1, 0, none⟩ = some (.int .i64 _) := HW.out.1.bl.cell 0
      have y1 : w4.cell? ⟨W.heap.size + 1 + 1 + 1, 1, none⟩ = some (.int .i64 _) := HW.out.1.bl.cell 1
      have y2 : w4.cell? ⟨W.heap.size + 1 + 1 + 1, 2, none⟩ = some (.int .i32 _) := HW.out.1.bl.cell 2
      have y3 : w4.cell? ⟨W.heap.size + 1 + 1 + 1, 3, none⟩ = some (.bool _) := HW.out.1.bl.cell 3
      have g0 : w4.frozen? ⟨W.heap.size + 1 + 1 + 1, 0, none⟩ = false := HW.out.1.bl.frozen 0
      have g1 : w4.frozen? ⟨W.heap.size + 1 + 1 + 1, 1, none⟩ = false := HW.out.1.bl.frozen 1
      have g2 : w4.frozen? ⟨W.heap.size + 1 + 1 + 1, 2, none⟩ = false := HW.out.1.bl.frozen 2
      have g3 : w4.frozen? ⟨W.heap.size + 1 + 1 + 1, 3, none⟩ = false := HW.out.1.bl.frozen 3
      have hpz2 : W.heap.size + 8 ≤ pb := by have := HR.out.2.2.2.2; have := HS3.out; omega
      have HSX := Lib.hid (show (fun wz : World => Blk wz pb 33 #[.int .i64 0, .int .i64 1, .int .i32 101, .bool false]) w4.drew from HBK.out.drew)
      refine wpIn_region_held_round (S := fun wz : World => Blk wz pb 33 #[.int .i64 0, .int .i64 1, .int .i32 101, .bool false]) (by kernel_rfl) (by kernel_rfl) (fun ⟨a, w, h⟩ => h) ?_
      simp only [List.size_toArray, List.length_cons, List.length_nil, Nat.reduceAdd, Array.replicate_succ, Array.replicate_zero, List.push_toArray, List.nil_append, List.cons_append]
      refine wpAnyH_take (i := 0) (v := ?_) rfl (by kernel_rfl) (by kernel_rfl) (by kernel_rfl) (fun _ _ _ h => h) (Or.inl ⟨by rfl, ?hy0⟩) HSX.out ?_
      case hy0 =>
        intro wq hq
        have z0 : wq.cell? ⟨pb, 0, none⟩ = some (.int .i64 0) := hq.cell 0
        have z1 : wq.cell? ⟨pb, 1, none⟩ = some (.int .i64 1) := hq.cell 1
        have z2 : wq.cell? ⟨pb, 2, none⟩ = some (.int .i32 101) := hq.cell 2
        have z3 : wq.cell? ⟨pb, 3, none⟩ = some (.bool false) := hq.cell 3
        go_simp
        try rfl
      simp only [Act.put, List.getElem_toArray, List.getElem_cons_zero, List.setIfInBounds_toArray, List.set_cons_zero, List.set_cons_succ]
      refine wpAnyH_take (i := 1) (v := ?_) rfl (by kernel_rfl) (by kernel_rfl) (by kernel_rfl) (fun _ _ _ h => h) (Or.inl ⟨by rfl, ?hy1⟩) HSX.out ?_
      case hy1 =>
        intro wq hq
        have z0 : wq.cell? ⟨pb, 0, none⟩ = some (.int .i64 0) := hq.cell 0
        have z1 : wq.cell? ⟨pb, 1, none⟩ = some (.int .i64 1) := hq.cell 1
        have z2 : wq.cell? ⟨pb, 2, none⟩ = some (.int .i32 101) := hq.cell 2
        have z3 : wq.cell? ⟨pb, 3, none⟩ = some (.bool false) := hq.cell 3
        go_simp
        try rfl
      simp only [Act.put, List.getElem_toArray, List.getElem_cons_succ, List.getElem_cons_zero, List.setIfInBounds_toArray, List.set_cons_zero, List.set_cons_succ]
      refine wpAnyH_ready (rs := [2]) (by kernel_rfl) (by simp) ?_
      refine AllReadyH.cons rfl (fun K2 hK2 => ?_) (fun _ h => by cases h)
      go_simp
      refine hK2 _ _ ?hs (fun _ => ?_)
      case hs => repeat' (first | with_reducible exact HBK.out | with_reducible refine Blk.drew ?_ | with_reducible refine Blk.far ?_ ?_ _ | (simp only []; omega) | omega)
      simp only [List.setIfInBounds_toArray, List.set_cons_zero, List.set_cons_succ]
      refine wpAnyH_ready (rs := [3]) (by kernel_rfl) (by simp) ?_
      refine AllReadyH.cons rfl (fun K2 hK2 => ?_) (fun _ h => by cases h)
      go_simp
      refine hK2 _ _ ?hs (fun _ => ?_)
      case hs => repeat' (first | with_reducible exact HBK.out | with_reducible refine Blk.drew ?_ | with_reducible refine Blk.far ?_ ?_ _ | (simp only []; omega) | omega)
      simp only [List.setIfInBounds_toArray, List.set_cons_zero, List.set_cons_succ]
      refine wpAnyH_ready (rs := [4]) (by kernel_rfl) (by simp) ?_
      refine AllReadyH.cons rfl (fun K2 hK2 => ?_) (fun _ h => by cases h)
      go_simp
      refine hK2 _ _ ?hs (fun _ => ?_)
      case hs => repeat' (first | with_reducible exact HBK.out | with_reducible refine Blk.drew ?_ | with_reducible refine Blk.far ?_ ?_ _ | (simp only []; omega) | omega)
      refine wpAnyH_done (by kernel_rfl) ?_ _
      gi_wp2
      obtain ⟨hC, hO⟩ := HW.out.1.open6 1 0 1 101 false
      have hls := HS3.out
      have hSb2 := HR.out.2.2.2.1
      refine wpIn_abs (fun wx => ClSt E W l sb true (0, 0, 0) 1 q0 wx ∧ J (cL.map ceA) S wx ∧ Blk wx pb 33 #[.int .i64 0, .int .i64 1, .int .i32 101, .bool false] ∧ (Only (fun b => (b < w3.heap.size ∧ ¬ b = W.heap.size + 5) ∨ S b) W' wx ∧ w4.heap.size ≤ wx.heap.size)) ⟨hC, HJ.out.1 _ _ _ _ HW.out.2.1 (only_sub hO (fun b hb => ⟨by omega, fun h => by have := hSb2 b h; omega⟩)), HBK.out.only hO (by omega), HW.out.2.2.2.1.trans (only_sub hO (fun b hb => .inl ⟨by omega, by omega⟩)), hO.size⟩ ?_
      clear hC hO x4 f4 x2 f2 y0 y1 y2 y3 g0 g1 g2 g3 HSX hls hSb2
      rintro wx hwx
      have HX := Lib.hid hwx
      clear hwx
      have HBX := Lib.hid (show Blk wx pb 33 #[.int .i64 0, .int .i64 1, .int .i32 101, .bool false] from HX.out.2.2.1)
      have hwr : IntKind.i64.wrap 1 = 1 := by decide
      have HSX := Lib.hid (show (fun wz : World => Blk wz pb 33 #[.int .i64 0, .int .i64 1, .int .i32 101, .bool false]) wx.drew from HBX.out.drew)
      refine wpIn_region_held_round (S := fun wz : World => Blk wz pb 33 #[.int .i64 0, .int .i64 1, .int .i32 101, .bool false]) (by kernel_rfl) (by kernel_rfl) (fun ⟨a, w, h⟩ => h) ?_
      simp only [List.size_toArray, List.length_cons, List.length_nil, Nat.reduceAdd, Array.replicate_succ, Array.replicate_zero, List.push_toArray, List.nil_append, List.cons_append]
      refine wpAnyH_take (i := 0) (v := ?_) rfl (by kernel_rfl) (by kernel_rfl) (by kernel_rfl) (fun _ _ _ h => h) (Or.inl ⟨by rfl, ?hy0⟩) HSX.out ?_
      case hy0 =>
        intro wq hq
        have z0 : wq.cell? ⟨pb, 0, none⟩ = some (.int .i64 0) := hq.cell 0
        have z1 : wq.cell? ⟨pb, 1, none⟩ = some (.int .i64 1) := hq.cell 1
        have z2 : wq.cell? ⟨pb, 2, none⟩ = some (.int .i32 101) := hq.cell 2
        have z3 : wq.cell? ⟨pb, 3, none⟩ = some (.bool false) := hq.cell 3
        go_simp
        try rfl
      simp only [Act.put, List.getElem_toArray, List.getElem_cons_zero, List.setIfInBounds_toArray, List.set_cons_zero, List.set_cons_succ]
      refine wpAnyH_take (i := 1) (v := ?_) rfl (by kernel_rfl) (by kernel_rfl) (by kernel_rfl) (fun _ _ _ h => h) (Or.inl ⟨by rfl, ?hy1⟩) HSX.out ?_
      case hy1 =>
        intro wq hq
        have z0 : wq.cell? ⟨pb, 0, none⟩ = some (.int .i64 0) := hq.cell 0
        have z1 : wq.cell? ⟨pb, 1, none⟩ = some (.int .i64 1) := hq.cell 1
        have z2 : wq.cell? ⟨pb, 2, none⟩ = some (.int .i32 101) := hq.cell 2
        have z3 : wq.cell? ⟨pb, 3, none⟩ = some (.bool false) := hq.cell 3
        go_simp
        try rfl
      simp only [Act.put, List.getElem_toArray, List.getElem_cons_succ, List.getElem_cons_zero, List.setIfInBounds_toArray, List.set_cons_zero, List.set_cons_succ]
      refine wpAnyH_take (i := 2) (v := ?_) rfl (by kernel_rfl) (by kernel_rfl) (by kernel_rfl) (fun _ _ _ h => h) (Or.inl ⟨by rfl, ?hy2⟩) HSX.out ?_
      case hy2 =>
        intro wq hq
        have z0 : wq.cell? ⟨pb, 0, none⟩ = some (.int .i64 0) := hq.cell 0
        have z1 : wq.cell? ⟨pb, 1, none⟩ = some (.int .i64 1) := hq.cell 1
        have z2 : wq.cell? ⟨pb, 2, none⟩ = some (.int .i32 101) := hq.cell 2
        have z3 : wq.cell? ⟨pb, 3, none⟩ = some (.bool false) := hq.cell 3
        go_simp
        try rfl
      simp only [Act.put, List.getElem_toArray, List.getElem_cons_succ, List.getElem_cons_zero, List.setIfInBounds_toArray, List.set_cons_zero, List.set_cons_succ]
      refine wpAnyH_take (i := 3) (v := ?_) rfl (by kernel_rfl) (by kernel_rfl) (by kernel_rfl) (fun _ _ _ h => h) (Or.inl ⟨by rfl, ?hy3⟩) HSX.out ?_
      case hy3 =>
        intro wq hq
        have z0 : wq.cell? ⟨pb, 0, none⟩ = some (.int .i64 0) := hq.cell 0
        have z1 : wq.cell? ⟨pb, 1, none⟩ = some (.int .i64 1) := hq.cell 1
        have z2 : wq.cell? ⟨pb, 2, none⟩ = some (.int .i32 101) := hq.cell 2
        have z3 : wq.cell? ⟨pb, 3, none⟩ = some (.bool false) := hq.cell 3
        go_simp
        try rfl
      simp only [Act.put, List.getElem_toArray, List.getElem_cons_succ, List.getElem_cons_zero, List.setIfInBounds_toArray, List.set_cons_zero, List.set_cons_succ]
      refine wpAnyH_take (i := 4) (v := ?_) rfl (by kernel_rfl) (by kernel_rfl) (by kernel_rfl) (fun _ _ _ h => h) (Or.inl ⟨by rfl, ?hy4⟩) HSX.out ?_
      case hy4 =>
        intro wq hq
        have z0 : wq.cell? ⟨pb, 0, none⟩ = some (.int .i64 0) := hq.cell 0
        have z1 : wq.cell? ⟨pb, 1, none⟩ = some (.int .i64 1) := hq.cell 1
        have z2 : wq.cell? ⟨pb, 2, none⟩ = some (.int .i32 101) := hq.cell 2
        have z3 : wq.cell? ⟨pb, 3, none⟩ = some (.bool false) := hq.cell 3
        go_simp
        try rfl
      simp only [Act.put, List.getElem_toArray, List.getElem_cons_succ, List.getElem_cons_zero, List.setIfInBounds_toArray, List.set_cons_zero, List.set_cons_succ]
      refine wpAnyH_take (i := 5) (v := ?_) rfl (by kernel_rfl) (by kernel_rfl) (by kernel_rfl) (fun _ _ _ h => h) (Or.inl ⟨by rfl, ?hy5⟩) HSX.out ?_
      case hy5 =>
        intro wq hq
        have z0 : wq.cell? ⟨pb, 0, none⟩ = some (.int .i64 0) := hq.cell 0
        have z1 : wq.cell? ⟨pb, 1, none⟩ = some (.int .i64 1) := hq.cell 1
        have z2 : wq.cell? ⟨pb, 2, none⟩ = some (.int .i32 101) := hq.cell 2
        have z3 : wq.cell? ⟨pb, 3, none⟩ = some (.bool false) := hq.cell 3
        go_simp
        try rfl
      simp only [Act.put, List.getElem_toArray, List.getElem_cons_succ, List.getElem_cons_zero, List.setIfInBounds_toArray, List.set_cons_zero, List.set_cons_succ]
      refine wpAnyH_take (i := 6) (v := ?_) rfl (by kernel_rfl) (by kernel_rfl) (by kernel_rfl) (fun _ _ _ h => h) (Or.inl ⟨by rfl, ?hy6⟩) HSX.out ?_
      case hy6 =>
        intro wq hq
        have z0 : wq.cell? ⟨pb, 0, none⟩ = some (.int .i64 0) := hq.cell 0
        have z1 : wq.cell? ⟨pb, 1, none⟩ = some (.int .i64 1) := hq.cell 1
        have z2 : wq.cell? ⟨pb, 2, none⟩ = some (.int .i32 101) := hq.cell 2
        have z3 : wq.cell? ⟨pb, 3, none⟩ = some (.bool false) := hq.cell 3
        go_simp
        try rfl
      simp only [Act.put, List.getElem_toArray, List.getElem_cons_succ, List.getElem_cons_zero, List.setIfInBounds_toArray, List.set_cons_zero, List.set_cons_succ]
      refine wpAnyH_take (i := 7) (v := ?_) rfl (by kernel_rfl) (by kernel_rfl) (by kernel_rfl) (fun _ _ _ h => h) (Or.inl ⟨by rfl, ?hy7⟩) HSX.out ?_
      case hy7 =>
        intro wq hq
        have z0 : wq.cell? ⟨pb, 0, none⟩ = some (.int .i64 0) := hq.cell 0
        have z1 : wq.cell? ⟨pb, 1, none⟩ = some (.int .i64 1) := hq.cell 1
        have z2 : wq.cell? ⟨pb, 2, none⟩ = some (.int .i32 101) := hq.cell 2
        have z3 : wq.cell? ⟨pb, 3, none⟩ = some (.bool false) := hq.cell 3
        go_simp
        try rfl
      simp only [Act.put, List.getElem_toArray, List.getElem_cons_succ, List.getElem_cons_zero, List.setIfInBounds_toArray, List.set_cons_zero, List.set_cons_succ]
      refine wpAnyH_take (i := 8) (v := ?_) rfl (by kernel_rfl) (by kernel_rfl) (by kernel_rfl) (fun _ _ _ h => h) (Or.inl ⟨by rfl, ?hy8⟩) HSX.out ?_
      case hy8 =>
        intro wq hq
        have z0 : wq.cell? ⟨pb, 0, none⟩ = some (.int .i64 0) := hq.cell 0
        have z1 : wq.cell? ⟨pb, 1, none⟩ = some (.int .i64 1) := hq.cell 1
        have z2 : wq.cell? ⟨pb, 2, none⟩ = some (.int .i32 101) := hq.cell 2
        have z3 : wq.cell? ⟨pb, 3, none⟩ = some (.bool false) := hq.cell 3
        go_simp
        try rfl
      simp only [Act.put, List.getElem_toArray, List.getElem_cons_succ, List.getElem_cons_zero, List.setIfInBounds_toArray, List.set_cons_zero, List.set_cons_succ]
      refine wpAnyH_ready (rs := [9]) (by kernel_rfl) (by simp) ?_
      refine AllReadyH.cons rfl (fun K2 hK2 => ?_) (fun _ h => by cases h)
      go_simp
      refine (columns_letter 0 1 101 (by decide +kernel) (by decide) _).mono ?_
      rintro e w6 ⟨rfl, hb6⟩
      have hbx : Below wx.heap.size wx w6 := ⟨hb6.os, hb6.tape, hb6.output, hb6.size, hb6.block⟩
      have H6 := Lib.hid (show ClSt E W l sb true (0, 0, 0) 1 q0 w6 ∧ J (cL.map ceA) S w6 ∧ Blk w6 pb 33 #[.int .i64 0, .int .i64 1, .int .i32 101, .bool false] ∧ Only (fun b => (b < w3.heap.size ∧ ¬ b = W.heap.size + 5) ∨ S b) W' w6 from ⟨HX.out.1.only (S := fun _ => False) (Only.of_below hbx _) (fun _ h => h.elim), HJ.out.1 _ _ _ _ HX.out.2.1 (Only.of_below hbx _), HX.out.2.2.1.below hbx HX.out.2.2.1.lt, HX.out.2.2.2.1.trans (Only.of_below hbx _)⟩)
      clear hb6 hbx
      refine hK2 _ _ H6.out.2.2.1 (fun _ => ?_)
      simp only [List.setIfInBounds_toArray, List.set_cons_zero, List.set_cons_succ]
      have v0 : w6.cell? ⟨W.heap.size + 1, 0, none⟩ = some (.int .i64 _) := H6.out.1.bn.cell 0
      have u0 : w6.frozen? ⟨W.heap.size + 1, 0, none⟩ = false := H6.out.1.bn.frozen 0
      have v1 : w6.cell? ⟨W.heap.size + 1, 1, none⟩ = some (.int .i64 _) := H6.out.1.bn.cell 1
      have u1 : w6.frozen? ⟨W.heap.size + 1, 1, none⟩ = false := H6.out.1.bn.frozen 1
      have v2 : w6.cell? ⟨W.heap.size + 1, 2, none⟩ = some (.int .i64 _) := H6.out.1.bn.cell 2
      have u2 : w6.frozen? ⟨W.heap.size + 1, 2, none⟩ = false := H6.out.1.bn.frozen 2
      refine wpAnyH_take (i := 10) (v := ?_) rfl (by kernel_rfl) (by kernel_rfl) (by kernel_rfl) (fun _ _ _ h => h) (Or.inl ⟨by rfl, ?hy10⟩) H6.out.2.2.1 ?_
      case hy10 =>
        intro wq hq
        have z0 : wq.cell? ⟨pb, 0, none⟩ = some (.int .i64 0) := hq.cell 0
        have z1 : wq.cell? ⟨pb, 1, none⟩ = some (.int .i64 1) := hq.cell 1
        have z2 : wq.cell? ⟨pb, 2, none⟩ = some (.int .i32 101) := hq.cell 2
        have z3 : wq.cell? ⟨pb, 3, none⟩ = some (.bool false) := hq.cell 3
        go_simp
        try rfl
      simp only [Act.put, List.getElem_toArray, List.getElem_cons_succ, List.getElem_cons_zero, List.setIfInBounds_toArray, List.set_cons_zero, List.set_cons_succ]
      have HB6 := Lib.hid H6.out.2.2.1
      refine wpAnyH_ready (rs := [11]) (by kernel_rfl) (by simp) ?_
      refine AllReadyH.cons rfl (fun K2 hK2 => ?_) (fun _ h => by cases h)
      go_simp
      refine hK2 _ _ ?hs (fun _ => ?_)
      case hs => repeat' (first | with_reducible exact HB6.out | with_reducible refine Blk.drew ?_ | with_reducible refine Blk.far ?_ ?_ _ | (simp only []; omega) | omega)
      refine wpAnyH_done (by kernel_rfl) ?_ _
      gi_wp2
      obtain ⟨hC, hO⟩ := H6.out.1.now3 0 1 1
      have hls := HS3.out
      have hSb2 := HR.out.2.2.2.1
      have hJf : J (cL.map ceA) S _ := HJ.out.1 _ _ _ _ H6.out.2.1 (only_sub hO (fun b hb => ⟨by omega, fun h => by have := hSb2 b h; omega⟩))
      refine ⟨H6.out.2.2.2.trans (only_sub hO (fun b hb => .inl ⟨by omega, by omega⟩)), S, ?_, fun b h => .inl h⟩
      first | exact ⟨hC, hJf⟩ | exact .inr (.inl ⟨rfl, hC, hJf⟩) | exact .inr (.inr (.inr ⟨rfl, hC, hJf⟩))
    · injection he with hp hr
      subst hp hr
      have p0 : W'.cell? ⟨pb, 0, none⟩ = some (.int .i64 1) := hP.cell 0
      have p1 : W'.cell? ⟨pb, 1, none⟩ = some (.int .i64 2) := hP.cell 1
      have p2 : W'.cell? ⟨pb, 2, none⟩ = some (.int .i32 769) := hP.cell 2
      have p3 : W'.cell? ⟨pb, 3, none⟩ = some (.bool false) := hP.cell 3
      have hpz := hP.lt
      have HR := Lib.hid (And.intro hS (And.intro hj (And.intro hP (And.intro hSb hpb))))
      clear hS hj hP hSb hpb
      simp only [q1]
      gi_wp2_with fail
      refine (CallsIn.inRound l' (callsIn_wide.2 (of_any 1 2 769 false _))).mono ?_
      rintro e w4 ⟨rfl, hb⟩
      rw [show (if false = true then (11 : Int) else kindF 769) = 2 from by decide +kernel]
      have HW := Lib.hid (And.intro (HR.out.1.only (S := fun _ => False) (Only.of_below hb _) (fun _ h => h.elim)) (And.intro (HJ.out.1 _ _ _ _ HR.out.2.1 (Only.of_below hb _)) (And.intro (HR.out.2.2.1.below hb HR.out.2.2.1.lt) (And.intro (Only.of_below hb (fun b => (b < w3.heap.size ∧ ¬ b = W.heap.size + 5) ∨ S b)) hb.size))))
      clear hb p0 p1 p2 p3
      have p0 : w4.cell? ⟨pb, 0, none⟩ = some (.int .i64 1) := HW.out.2.2.1.cell 0
      have p1 : w4.cell? ⟨pb, 1, none⟩ = some (.int .i64 2) := HW.out.2.2.1.cell 1
      have p2 : w4.cell? ⟨pb, 2, none⟩ = some (.int .i32 769) := HW.out.2.2.1.cell 2
      have p3 : w4.cell? ⟨pb, 3, none⟩ = some (.bool false) := HW.out.2.2.1.cell 3
      have c4 : w4.cell? ⟨W.heap.size + 1 + 1 + 1 + 1, 0, none⟩ = some (.bool true) := HW.out.1.bo.cell 0
      have c2 : w4.cell? ⟨W.heap.size + 1 + 1, 0, none⟩ = some (.int .i64 1) := HW.out.1.bh.cell 0
      have l0 : w4.cell? ⟨W.heap.size + 1 + 1 + 1, 0, none⟩ = some (.int .i64 0) := HW.out.1.bl.cell 0
      have l1 : w4.cell? ⟨W.heap.size + 1 + 1 + 1, 1, none⟩ = some (.int .i64 1) := HW.out.1.bl.cell 1
      have l2 : w4.cell? ⟨W.heap.size + 1 + 1 + 1, 2, none⟩ = some (.int .i32 101) := HW.out.1.bl.cell 2
      have l3 : w4.cell? ⟨W.heap.size + 1 + 1 + 1, 3, none⟩ = some (.bool false) := HW.out.1.bl.cell 3
      have n0 : w4.cell? ⟨W.heap.size + 1, 0, none⟩ = some (.int .i64 0) := HW.out.1.bn.cell 0
      have n1 : w4.cell? ⟨W.heap.size + 1, 1, none⟩ = some (.int .i64 1) := HW.out.1.bn.cell 1
      have n2 : w4.cell? ⟨W.heap.size + 1, 2, none⟩ = some (.int .i64 1) := HW.out.1.bn.cell 2
      have cy : w4.cell? ⟨W.heap.size, 0, none⟩ = some (.func (.yield l) #[] #[]) := HW.out.1.by_.cell 0
      gi_wp2_with fail
      refine (CallsIn.inRound l' (callsIn_wide.2 (joins_mark q0 1 2 769 (by decide +kernel) _))).mono ?_
      rintro e w5 ⟨rfl, hb5⟩
      have HV := Lib.hid (And.intro (HW.out.1.only (S := fun _ => False) (Only.of_below hb5 _) (fun _ h => h.elim)) (And.intro (HJ.out.1 _ _ _ _ HW.out.2.1 (Only.of_below hb5 _)) (And.intro (HW.out.2.2.1.below hb5 HW.out.2.2.1.lt) (And.intro (HW.out.2.2.2.1.trans (Only.of_below hb5 _)) (Nat.le_trans HW.out.2.2.2.2 hb5.size)))))
      clear hb5 p0 p1 p2 p3 c4 c2 l0 l1 l2 l3 n0 n1 n2 cy
      have p0 : w5.cell? ⟨pb, 0, none⟩ = some (.int .i64 1) := HV.out.2.2.1.cell 0
      have p1 : w5.cell? ⟨pb, 1, none⟩ = some (.int .i64 2) := HV.out.2.2.1.cell 1
      have p2 : w5.cell? ⟨pb, 2, none⟩ = some (.int .i32 769) := HV.out.2.2.1.cell 2
      have p3 : w5.cell? ⟨pb, 3, none⟩ = some (.bool false) := HV.out.2.2.1.cell 3
      have c4 : w5.cell? ⟨W.heap.size + 1 + 1 + 1 + 1, 0, none⟩ = some (.bool true) := HV.out.1.bo.cell 0
      have c2 : w5.cell? ⟨W.heap.size + 1 + 1, 0, none⟩ = some (.int .i64 1) := HV.out.1.bh.cell 0
      have l0 : w5.cell? ⟨W.heap.size + 1 + 1 + 1, 0, none⟩ = some (.int .i64 0) := HV.out.1.bl.cell 0
      have l1 : w5.cell? ⟨W.heap.size + 1 + 1 + 1, 1, none⟩ = some (.int .i64 1) := HV.out.1.bl.cell 1
      have l2 : w5.cell? ⟨W.heap.size + 1 + 1 + 1, 2, none⟩ = some (.int .i32 101) := HV.out.1.bl.cell 2
      have l3 : w5.cell? ⟨W.heap.size + 1 + 1 + 1, 3, none⟩ = some (.bool false) := HV.out.1.bl.cell 3
      have n0 : w5.cell? ⟨W.heap.size + 1, 0, none⟩ = some (.int .i64 0) := HV.out.1.bn.cell 0
      have n1 : w5.cell? ⟨W.heap.size + 1, 1, none⟩ = some (.int .i64 1) := HV.out.1.bn.cell 1
      have n2 : w5.cell? ⟨W.heap.size + 1, 2, none⟩ = some (.int .i64 1) := HV.out.1.bn.cell 2
      have cy : w5.cell? ⟨W.heap.size, 0, none⟩ = some (.func (.yield l) #[] #[]) := HV.out.1.by_.cell 0
      have u0 : w5.frozen? ⟨W.heap.size + 1, 0, none⟩ = false := HV.out.1.bn.frozen 0
      have u1 : w5.frozen? ⟨W.heap.size + 1, 1, none⟩ = false := HV.out.1.bn.frozen 1
      have u2 : w5.frozen? ⟨W.heap.size + 1, 2, none⟩ = false := HV.out.1.bn.frozen 2
      have hwr : IntKind.i64.wrap 3 = 3 := by decide
      gi_wp2
      have hC := HV.out.1.nowTo 3
      have hO := (Only.refl (fun x => W.heap.size < x ∧ x ≤ W.heap.size + 4) w5).setCell (p := ⟨W.heap.size + 1, 1, none⟩) (.inl ⟨by simp, by simp⟩) (.int .i64 3)
      have hls := HS3.out
      have hSb2 := HR.out.2.2.2.1
      refine wpIn_abs (fun wx => ClSt E W l sb true (0, 3, 1) 1 q0 wx ∧ J (cL.map ceA) S wx ∧ Blk wx pb 33 #[.int .i64 1, .int .i64 2, .int .i32 769, .bool false] ∧ (Only (fun b => (b < w3.heap.size ∧ ¬ b = W.heap.size + 5) ∨ S b) W' wx ∧ w5.heap.size ≤ wx.heap.size)) ⟨hC, HJ.out.1 _ _ _ _ HV.out.2.1 (only_sub hO (fun b hb => ⟨by omega, fun h => by have := hSb2 b h; omega⟩)), HV.out.2.2.1.only hO (by have := HR.out.2.2.2.2; omega), HV.out.2.2.2.1.trans (only_sub hO (fun b hb => .inl ⟨by omega, by omega⟩)), hO.size⟩ ?_
      clear hC hO hls hSb2 p0 p1 p2 p3 u0 u1 u2 c4 c2 l0 l1 l2 l3 n0 n1 n2 cy
      rintro wx hwx
      have HX := Lib.hid hwx
      clear hwx
      have HSX := Lib.hid (show (fun wz : World => Blk wz pb 33 #[.int .i64 1, .int .i64 2, .int .i32 769, .bool false] ∧ Blk wz (W.heap.size + 1) 112 #[.int .i64 0, .int .i64 3, .int .i64 1]) wx.drew from ⟨HX.out.2.2.1.drew, HX.out.1.bn.drew⟩)
      refine wpIn_region_held_round (S := fun wz : World => Blk wz pb 33 #[.int .i64 1, .int .i64 2, .int .i32 769, .bool false] ∧ Blk wz (W.heap.size + 1) 112 #[.int .i64 0, .int .i64 3, .int .i64 1]) (by kernel_rfl) (by kernel_rfl) (fun ⟨a, w, h⟩ => h) ?_
      simp only [List.size_toArray, List.length_cons, List.length_nil, Nat.reduceAdd, Array.replicate_succ, Array.replicate_zero, List.push_toArray, List.nil_append, List.cons_append]
      refine wpAnyH_take (i := 0) (v := ?_) rfl (by kernel_rfl) (by kernel_rfl) (by kernel_rfl) (fun _ _ _ h => h) (Or.inl ⟨by rfl, ?hy0⟩) HSX.out ?_
      case hy0 =>
        intro wq hq
        have z0 : wq.cell? ⟨pb, 0, none⟩ = some (.int .i64 1) := hq.1.cell 0
        have z1 : wq.cell? ⟨pb, 1, none⟩ = some (.int .i64 2) := hq.1.cell 1
        have z2 : wq.cell? ⟨pb, 2, none⟩ = some (.int .i32 769) := hq.1.cell 2
        have z3 : wq.cell? ⟨pb, 3, none⟩ = some (.bool false) := hq.1.cell 3
        have o0 : wq.cell? ⟨W.heap.size + 1, 0, none⟩ = some (.int .i64 0) := hq.2.cell 0
        have o1 : wq.cell? ⟨W.heap.size + 1, 1, none⟩ = some (.int .i64 3) := hq.2.cell 1
        have o2 : wq.cell? ⟨W.heap.size + 1, 2, none⟩ = some (.int .i64 1) := hq.2.cell 2
        go_simp
        try rfl
      simp only [Act.put, List.getElem_toArray, List.getElem_cons_zero, List.setIfInBounds_toArray, List.set_cons_zero, List.set_cons_succ]
      refine wpAnyH_take (i := 1) (v := ?_) rfl (by kernel_rfl) (by kernel_rfl) (by kernel_rfl) (fun _ _ _ h => h) (Or.inl ⟨by rfl, ?hy1⟩) HSX.out ?_
      case hy1 =>
        intro wq hq
        have z0 : wq.cell? ⟨pb, 0, none⟩ = some (.int .i64 1) := hq.1.cell 0
        have z1 : wq.cell? ⟨pb, 1, none⟩ = some (.int .i64 2) := hq.1.cell 1
        have z2 : wq.cell? ⟨pb, 2, none⟩ = some (.int .i32 769) := hq.1.cell 2
        have z3 : wq.cell? ⟨pb, 3, none⟩ = some (.bool false) := hq.1.cell 3
        have o0 : wq.cell? ⟨W.heap.size + 1, 0, none⟩ = some (.int .i64 0) := hq.2.cell 0
        have o1 : wq.cell? ⟨W.heap.size + 1, 1, none⟩ = some (.int .i64 3) := hq.2.cell 1
        have o2 : wq.cell? ⟨W.heap.size + 1, 2, none⟩ = some (.int .i64 1) := hq.2.cell 2
        go_simp
        try rfl
      simp only [Act.put, List.getElem_toArray, List.getElem_cons_succ, List.getElem_cons_zero, List.setIfInBounds_toArray, List.set_cons_zero, List.set_cons_succ]
      refine wpAnyH_take (i := 2) (v := ?_) rfl (by kernel_rfl) (by kernel_rfl) (by kernel_rfl) (fun _ _ _ h => h) (Or.inl ⟨by rfl, ?hy2⟩) HSX.out ?_
      case hy2 =>
        intro wq hq
        have z0 : wq.cell? ⟨pb, 0, none⟩ = some (.int .i64 1) := hq.1.cell 0
        have z1 : wq.cell? ⟨pb, 1, none⟩ = some (.int .i64 2) := hq.1.cell 1
        have z2 : wq.cell? ⟨pb, 2, none⟩ = some (.int .i32 769) := hq.1.cell 2
        have z3 : wq.cell? ⟨pb, 3, none⟩ = some (.bool false) := hq.1.cell 3
        have o0 : wq.cell? ⟨W.heap.size + 1, 0, none⟩ = some (.int .i64 0) := hq.2.cell 0
        have o1 : wq.cell? ⟨W.heap.size + 1, 1, none⟩ = some (.int .i64 3) := hq.2.cell 1
        have o2 : wq.cell? ⟨W.heap.size + 1, 2, none⟩ = some (.int .i64 1) := hq.2.cell 2
        go_simp
        try rfl
      simp only [Act.put, List.getElem_toArray, List.getElem_cons_succ, List.getElem_cons_zero, List.setIfInBounds_toArray, List.set_cons_zero, List.set_cons_succ]
      refine wpAnyH_ready (rs := [3]) (by kernel_rfl) (by simp) ?_
      refine AllReadyH.cons rfl (fun K2 hK2 => ?_) (fun _ h => by cases h)
      go_simp
      refine (columns_mark 1 2 769 (by decide +kernel) _).mono ?_
      rintro e w6 ⟨rfl, hb6⟩
      have hbx : Below wx.heap.size wx w6 := ⟨hb6.os, hb6.tape, hb6.output, hb6.size, hb6.block⟩
      have H6 := Lib.hid (show ClSt E W l sb true (0, 3, 1) 1 q0 w6 ∧ J (cL.map ceA) S w6 ∧ Blk w6 pb 33 #[.int .i64 1, .int .i64 2, .int .i32 769, .bool false] ∧ Only (fun b => (b < w3.heap.size ∧ ¬ b = W.heap.size + 5) ∨ S b) W' w6 from ⟨HX.out.1.only (S := fun _ => False) (Only.of_below hbx _) (fun _ h => h.elim), HJ.out.1 _ _ _ _ HX.out.2.1 (Only.of_below hbx _), HX.out.2.2.1.below hbx HX.out.2.2.1.lt, HX.out.2.2.2.1.trans (Only.of_below hbx _)⟩)
      clear hb6 hbx
      refine hK2 _ _ ⟨H6.out.2.2.1, H6.out.1.bn⟩ (fun _ => ?_)
      simp only [List.setIfInBounds_toArray, List.set_cons_zero, List.set_cons_succ]
      have v0 : w6.cell? ⟨W.heap.size + 1, 0, none⟩ = some (.int .i64 _) := H6.out.1.bn.cell 0
      have u0 : w6.frozen? ⟨W.heap.size + 1, 0, none⟩ = false := H6.out.1.bn.frozen 0
      have v1 : w6.cell? ⟨W.heap.size + 1, 1, none⟩ = some (.int .i64 _) := H6.out.1.bn.cell 1
      have u1 : w6.frozen? ⟨W.heap.size + 1, 1, none⟩ = false := H6.out.1.bn.frozen 1
      have v2 : w6.cell? ⟨W.heap.size + 1, 2, none⟩ = some (.int .i64 _) := H6.out.1.bn.cell 2
      have u2 : w6.frozen? ⟨W.heap.size + 1, 2, none⟩ = false := H6.out.1.bn.frozen 2
      refine wpAnyH_take (i := 4) (v := ?_) rfl (by kernel_rfl) (by kernel_rfl) (by kernel_rfl) (fun _ _ _ h => h) (Or.inl ⟨by rfl, ?hy4⟩) ⟨H6.out.2.2.1, H6.out.1.bn⟩ ?_
      case hy4 =>
        intro wq hq
        have z0 : wq.cell? ⟨pb, 0, none⟩ = some (.int .i64 1) := hq.1.cell 0
        have z1 : wq.cell? ⟨pb, 1, none⟩ = some (.int .i64 2) := hq.1.cell 1
        have z2 : wq.cell? ⟨pb, 2, none⟩ = some (.int .i32 769) := hq.1.cell 2
        have z3 : wq.cell? ⟨pb, 3, none⟩ = some (.bool false) := hq.1.cell 3
        have o0 : wq.cell? ⟨W.heap.size + 1, 0, none⟩ = some (.int .i64 0) := hq.2.cell 0
        have o1 : wq.cell? ⟨W.heap.size + 1, 1, none⟩ = some (.int .i64 3) := hq.2.cell 1
        have o2 : wq.cell? ⟨W.heap.size + 1, 2, none⟩ = some (.int .i64 1) := hq.2.cell 2
        go_simp
        try rfl
      simp only [Act.put, List.getElem_toArray, List.getElem_cons_succ, List.getElem_cons_zero, List.setIfInBounds_toArray, List.set_cons_zero, List.set_cons_succ]
      refine wpAnyH_take (i := 5) (v := ?_) rfl (by kernel_rfl) (by kernel_rfl) (by kernel_rfl) (fun _ _ _ h => h) (Or.inl ⟨by rfl, ?hy5⟩) ⟨H6.out.2.2.1, H6.out.1.bn⟩ ?_
      case hy5 =>
        intro wq hq
        have z0 : wq.cell? ⟨pb, 0, none⟩ = some (.int .i64 1) := hq.1.cell 0
        have z1 : wq.cell? ⟨pb, 1, none⟩ = some (.int .i64 2) := hq.1.cell 1
        have z2 : wq.cell? ⟨pb, 2, none⟩ = some (.int .i32 769) := hq.1.cell 2
        have z3 : wq.cell? ⟨pb, 3, none⟩ = some (.bool false) := hq.1.cell 3
        have o0 : wq.cell? ⟨W.heap.size + 1, 0, none⟩ = some (.int .i64 0) := hq.2.cell 0
        have o1 : wq.cell? ⟨W.heap.size + 1, 1, none⟩ = some (.int .i64 3) := hq.2.cell 1
        have o2 : wq.cell? ⟨W.heap.size + 1, 2, none⟩ = some (.int .i64 1) := hq.2.cell 2
        go_simp
        try rfl
      simp only [Act.put, List.getElem_toArray, List.getElem_cons_succ, List.getElem_cons_zero, List.setIfInBounds_toArray, List.set_cons_zero, List.set_cons_succ]
      refine wpAnyH_ready (rs := [6]) (by kernel_rfl) (by simp) ?_
      refine AllReadyH.cons rfl (fun K2 hK2 => ?_) (fun _ h => by cases h)
      go_simp
      have HB6 := Lib.hid H6.out.2.2.1
      have hpz2 : W.heap.size + 8 ≤ pb := by have := HR.out.2.2.2.2; have := HS3.out; omega
      refine hK2 _ _ ⟨?hsa, ?hsb⟩ (fun _ => ?_)
      case hsa => repeat' (first | with_reducible exact HB6.out | with_reducible refine Blk.drew ?_ | with_reducible refine Blk.far ?_ ?_ _ | (simp only []; omega) | omega)
      case hsb => exact H6.out.1.bn.set_ 2 _
      refine wpAnyH_done (by kernel_rfl) ?_ _
      have p0 : w6.cell? ⟨pb, 0, none⟩ = some (.int .i64 1) := H6.out.2.2.1.cell 0
      have p1 : w6.cell? ⟨pb, 1, none⟩ = some (.int .i64 2) := H6.out.2.2.1.cell 1
      have p2 : w6.cell? ⟨pb, 2, none⟩ = some (.int .i32 769) := H6.out.2.2.1.cell 2
      have p3 : w6.cell? ⟨pb, 3, none⟩ = some (.bool false) := H6.out.2.2.1.cell 3
      have y0 : w6.cell? ⟨W.heap.size + 1 + 1 + 1, 0, none⟩ = some (.int .i64 _) := H6.out.1.bl.cell 0
      have y1 : w6.cell? ⟨W.heap.size + 1 + 1 + 1, 1, none⟩ = some (.int .i64 _) := H6.out.1.bl.cell 1
      have y2 : w6.cell? ⟨W.heap.size + 1 + 1 + 1, 2, none⟩ = some (.int .i32 _) := H6.out.1.bl.cell 2
      have y3 : w6.cell? ⟨W.heap.size + 1 + 1 + 1, 3, none⟩ = some (.bool _) := H6.out.1.bl.cell 3
      have g0 : w6.frozen? ⟨W.heap.size + 1 + 1 + 1, 0, none⟩ = false := H6.out.1.bl.frozen 0
      have g1 : w6.frozen? ⟨W.heap.size + 1 + 1 + 1, 1, none⟩ = false := H6.out.1.bl.frozen 1
      have g2 : w6.frozen? ⟨W.heap.size + 1 + 1 + 1, 2, none⟩ = false := H6.out.1.bl.frozen 2
      have g3 : w6.frozen? ⟨W.heap.size + 1 + 1 + 1, 3, none⟩ = false := H6.out.1.bl.frozen 3
      gi_wp2
      obtain ⟨hC, hO⟩ := H6.out.1.colLast 1 1 2 769 false
      have hls := HS3.out
      have hSb2 := HR.out.2.2.2.1
      have hJf : J (cL.map ceA) S _ := HJ.out.1 _ _ _ _ H6.out.2.1 (only_sub hO (fun b hb => ⟨by omega, fun h => by have := hSb2 b h; omega⟩))
      refine ⟨H6.out.2.2.2.trans (only_sub hO (fun b hb => .inl ⟨by omega, by omega⟩)), S, ?_, fun b h => .inl h⟩
      first | exact ⟨hC, hJf⟩ | exact .inr (.inr (.inl ⟨rfl, hC, hJf⟩))
    · injection he with hp hr
      subst hp hr
      have p0 : W'.cell? ⟨pb, 0, none⟩ = some (.int .i64 3) := hP.cell 0
      have p1 : W'.cell? ⟨pb, 1, none⟩ = some (.int .i64 1) := hP.cell 1
      have p2 : W'.cell? ⟨pb, 2, none⟩ = some (.int .i32 120) := hP.cell 2
      have p3 : W'.cell? ⟨pb, 3, none⟩ = some (.bool false) := hP.cell 3
      have hpz := hP.lt
      have HR := Lib.hid (And.intro hS (And.intro hj (And.intro hP (And.intro hSb hpb))))
      clear hS hj hP hSb hpb
      simp only [q2]
      gi_wp2_with fail
      refine (CallsIn.inRound l' (callsIn_wide.2 (of_any 3 1 120 false _))).mono ?_
      rintro e w4 ⟨rfl, hb⟩
      rw [show (if false = true then (11 : Int) else kindF 120) = 1 from by decide +kernel]
      have HW := Lib.hid (And.intro (HR.out.1.only (S := fun _ => False) (Only.of_below hb _) (fun _ h => h.elim)) (And.intro (HJ.out.1 _ _ _ _ HR.out.2.1 (Only.of_below hb _)) (And.intro (HR.out.2.2.1.below hb HR.out.2.2.1.lt) (And.intro (Only.of_below hb (fun b => (b < w3.heap.size ∧ ¬ b = W.heap.size + 5) ∨ S b)) hb.size))))
      clear hb p0 p1 p2 p3
      have p0 : w4.cell? ⟨pb, 0, none⟩ = some (.int .i64 3) := HW.out.2.2.1.cell 0
      have p1 : w4.cell? ⟨pb, 1, none⟩ = some (.int .i64 1) := HW.out.2.2.1.cell 1
      have p2 : w4.cell? ⟨pb, 2, none⟩ = some (.int .i32 120) := HW.out.2.2.1.cell 2
      have p3 : w4.cell? ⟨pb, 3, none⟩ = some (.bool false) := HW.out.2.2.1.cell 3
      have c4 : w4.cell? ⟨W.heap.size + 1 + 1 + 1 + 1, 0, none⟩ = some (.bool true) := HW.out.1.bo.cell 0
      have c2 : w4.cell? ⟨W.heap.size + 1 + 1, 0, none⟩ = some (.int .i64 1) := HW.out.1.bh.cell 0
      have l0 : w4.cell? ⟨W.heap.size + 1 + 1 + 1, 0, none⟩ = some (.int .i64 1) := HW.out.1.bl.cell 0
      have l1 : w4.cell? ⟨W.heap.size + 1 + 1 + 1, 1, none⟩ = some (.int .i64 2) := HW.out.1.bl.cell 1
      have l2 : w4.cell? ⟨W.heap.size + 1 + 1 + 1, 2, none⟩ = some (.int .i32 769) := HW.out.1.bl.cell 2
      have l3 : w4.cell? ⟨W.heap.size + 1 + 1 + 1, 3, none⟩ = some (.bool false) := HW.out.1.bl.cell 3
      have n0 : w4.cell? ⟨W.heap.size + 1, 0, none⟩ = some (.int .i64 0) := HW.out.1.bn.cell 0
      have n1 : w4.cell? ⟨W.heap.size + 1, 1, none⟩ = some (.int .i64 3) := HW.out.1.bn.cell 1
      have n2 : w4.cell? ⟨W.heap.size + 1, 2, none⟩ = some (.int .i64 1) := HW.out.1.bn.cell 2
      have cy : w4.cell? ⟨W.heap.size, 0, none⟩ = some (.func (.yield l) #[] #[]) := HW.out.1.by_.cell 0
      gi_wp2_with fail
      refine (CallsIn.inRound l' (callsIn_wide.2 (joins_letter q1 3 1 120 (by decide +kernel) (by decide) _))).mono ?_
      rintro e w5 ⟨rfl, hb5⟩
      have HV := Lib.hid (And.intro (HW.out.1.only (S := fun _ => False) (Only.of_below hb5 _) (fun _ h => h.elim)) (And.intro (HJ.out.1 _ _ _ _ HW.out.2.1 (Only.of_below hb5 _)) (And.intro (HW.out.2.2.1.below hb5 HW.out.2.2.1.lt) (And.intro (HW.out.2.2.2.1.trans (Only.of_below hb5 _)) (Nat.le_trans HW.out.2.2.2.2 hb5.size)))))
      clear hb5 p0 p1 p2 p3 c4 c2 l0 l1 l2 l3 n0 n1 n2 cy
      have p0 : w5.cell? ⟨pb, 0, none⟩ = some (.int .i64 3) := HV.out.2.2.1.cell 0
      have p1 : w5.cell? ⟨pb, 1, none⟩ = some (.int .i64 1) := HV.out.2.2.1.cell 1
      have p2 : w5.cell? ⟨pb, 2, none⟩ = some (.int .i32 120) := HV.out.2.2.1.cell 2
      have p3 : w5.cell? ⟨pb, 3, none⟩ = some (.bool false) := HV.out.2.2.1.cell 3
      have c4 : w5.cell? ⟨W.heap.size + 1 + 1 + 1 + 1, 0, none⟩ = some (.bool true) := HV.out.1.bo.cell 0
      have c2 : w5.cell? ⟨W.heap.size + 1 + 1, 0, none⟩ = some (.int .i64 1) := HV.out.1.bh.cell 0
      have l0 : w5.cell? ⟨W.heap.size + 1 + 1 + 1, 0, none⟩ = some (.int .i64 1) := HV.out.1.bl.cell 0
      have l1 : w5.cell? ⟨W.heap.size + 1 + 1 + 1, 1, none⟩ = some (.int .i64 2) := HV.out.1.bl.cell 1
      have l2 : w5.cell? ⟨W.heap.size + 1 + 1 + 1, 2, none⟩ = some (.int .i32 769) := HV.out.1.bl.cell 2
      have l3 : w5.cell? ⟨W.heap.size + 1 + 1 + 1, 3, none⟩ = some (.bool false) := HV.out.1.bl.cell 3
      have n0 : w5.cell? ⟨W.heap.size + 1, 0, none⟩ = some (.int .i64 0) := HV.out.1.bn.cell 0
      have n1 : w5.cell? ⟨W.heap.size + 1, 1, none⟩ = some (.int .i64 3) := HV.out.1.bn.cell 1
      have n2 : w5.cell? ⟨W.heap.size + 1, 2, none⟩ = some (.int .i64 1) := HV.out.1.bn.cell 2
      have cy : w5.cell? ⟨W.heap.size, 0, none⟩ = some (.func (.yield l) #[] #[]) := HV.out.1.by_.cell 0
      have hls := HS3.out
      have hSb2 := HR.out.2.2.2.1
      obtain ⟨fn, tmps, assign, body, hy, hR⟩ : YieldAt (Fence.wide.inRound l') 0 Try.prog l (ceA (0, 3, 1)) w5 _ := HY.out _ [ceA (3, 4, 1)] S w5 (fun b h => by have := hSb2 b h; have := HV.out.2.2.2.2; omega) (by have := HV.out.2.2.2.2; have := HR.out.2.2.2.2; omega) HV.out.2.1
      have HRR := Lib.hid hR
      replace hy : (Instr.yield l #[.agg #[.int .i64 0, .int .i64 3, .int .i64 1]]).run Try.prog w5 = _ := hy
      clear hR hls hSb2
      gi_wp2_with (with_reducible refine HRR.out.mono ?_)
      intro e w6
      first | rintro ⟨rfl, S', hj6, hS6, ho6⟩ | rintro rfl S' hj6 hS6 ho6
      have hls := HS3.out
      have hSb2 := HR.out.2.2.2.1
      have HU := Lib.hid (show ClSt E W l sb true (0, 3, 1) 1 q1 w6 ∧ J [ceA (3, 4, 1)] S' w6 ∧ Blk w6 pb 33 #[.int .i64 3, .int .i64 1, .int .i32 120, .bool false] ∧ Only (fun b => (b < w3.heap.size ∧ ¬ b = W.heap.size + 5) ∨ S b) W' w6 ∧ (∀ b, S' b → S b ∨ (W'.heap.size ≤ b ∧ b < w6.heap.size)) from ⟨HV.out.1.only ho6 (fun b hb => by
          rcases hb with hb | hb
          · omega
          · have := hSb2 b hb; omega), hj6, HV.out.2.2.1.only ho6 (fun hb => by
          rcases hb with hb | hb
          · have := HR.out.2.2.2.2; omega
          · have := hSb2 _ hb; omega), HV.out.2.2.2.1.trans (only_sub ho6 (fun b hb => by
          rcases hb with hb | hb
          · exact .inl (by omega)
          · exact .inr hb)), fun b hb => by
          have := HV.out.2.2.2.2
          rcases hS6 b hb with h | h
          · exact .inl h
          · exact .inr (by omega)⟩)
      clear hj6 hS6 ho6 hls hSb2 hy p0 p1 p2 p3 c4 c2 l0 l1 l2 l3 n0 n1 n2 cy
      gi_wp2
      have NOTX0 : True := trivial
      have HBK := Lib.hid (show Blk w6 pb 33 #[.int .i64 3, .int .i64 1, .int .i32 120, .bool false] from HU.out.2.2.1)
      have x4 : w6.cell? ⟨W.heap.size + 1 + 1 + 1 + 1, 0, none⟩ = some (.bool _) := HU.out.1.bo.cell 0
      have f4 : w6.frozen? ⟨W.heap.size + 1 + 1 + 1 + 1, 0, none⟩ = false := HU.out.1.bo.frozen 0
      have x2 : w6.cell? ⟨W.heap.size + 1 + 1, 0, none⟩ = some (.int .i64 _) := HU.out.1.bh.cell 0
      have f2 : w6.frozen? ⟨W.heap.size + 1 + 1, 0, none⟩ = false := HU.out.1.bh.frozen 0
      have y0 : w6.cell? ⟨W.heap.size + 1 + 1 + 1, 0, none⟩ = some (.int .i64 _) := HU.out.1.bl.cell 0
      have y1 : w6.cell? ⟨W.heap.size + 1 + 1 + 1, 1, none⟩ = some (.int .i64 _) := HU.out.1.bl.cell 1
      have y2 : w6.cell? ⟨W.heap.size + 1 + 1 + 1, 2, none⟩ = some (.int .i32 _) := HU.out.1.bl.cell 2
      have y3 : w6.cell? ⟨W.heap.size + 1 + 1 + 1, 3, none⟩ = some (.bool _) := HU.out.1.bl.cell 3
      have g0 : w6.frozen? ⟨W.heap.size + 1 + 1 + 1, 0, none⟩ = false := HU.out.1.bl.frozen 0
      have g1 : w6.frozen? ⟨W.heap.size + 1 + 1 + 1, 1, none⟩ = false := HU.out.1.bl.frozen 1
      have g2 : w6.frozen? ⟨W.heap.size + 1 + 1 + 1, 2, none⟩ = false := HU.out.1.bl.frozen 2
      have g3 : w6.frozen? ⟨W.heap.size + 1 + 1 + 1, 3, none⟩ = false := HU.out.1.bl.frozen 3
      have hpz2 : W.heap.size + 8 ≤ pb := by have := HR.out.2.2.2.2; have := HS3.out; omega
      have HSX := Lib.hid (show (fun wz : World => Blk wz pb 33 #[.int .i64 3, .int .i64 1, .int .i32 120, .bool false]) w6.drew from HBK.out.drew)
      refine wpIn_region_held_round (S := fun wz : World => Blk wz pb 33 #[.int .i64 3, .int .i64 1, .int .i32 120, .bool false]) (by kernel_rfl) (by kernel_rfl) (fun ⟨a, w, h⟩ => h) ?_
      simp only [List.size_toArray, List.length_cons, List.length_nil, Nat.reduceAdd, Array.replicate_succ, Array.replicate_zero, List.push_toArray, List.nil_append, List.cons_append]
      refine wpAnyH_take (i := 0) (v := ?_) rfl (by kernel_rfl) (by kernel_rfl) (by kernel_rfl) (fun _ _ _ h => h) (Or.inl ⟨by rfl, ?hy0⟩) HSX.out ?_
      case hy0 =>
        intro wq hq
        have z0 : wq.cell? ⟨pb, 0, none⟩ = some (.int .i64 3) := hq.cell 0
        have z1 : wq.cell? ⟨pb, 1, none⟩ = some (.int .i64 1) := hq.cell 1
        have z2 : wq.cell? ⟨pb, 2, none⟩ = some (.int .i32 120) := hq.cell 2
        have z3 : wq.cell? ⟨pb, 3, none⟩ = some (.bool false) := hq.cell 3
        go_simp
        try rfl
      simp only [Act.put, List.getElem_toArray, List.getElem_cons_zero, List.setIfInBounds_toArray, List.set_cons_zero, List.set_cons_succ]
      refine wpAnyH_take (i := 1) (v := ?_) rfl (by kernel_rfl) (by kernel_rfl) (by kernel_rfl) (fun _ _ _ h => h) (Or.inl ⟨by rfl, ?hy1⟩) HSX.out ?_
      case hy1 =>
        intro wq hq
        have z0 : wq.cell? ⟨pb, 0, none⟩ = some (.int .i64 3) := hq.cell 0
        have z1 : wq.cell? ⟨pb, 1, none⟩ = some (.int .i64 1) := hq.cell 1
        have z2 : wq.cell? ⟨pb, 2, none⟩ = some (.int .i32 120) := hq.cell 2
        have z3 : wq.cell? ⟨pb, 3, none⟩ = some (.bool false) := hq.cell 3
        go_simp
        try rfl
      simp only [Act.put, List.getElem_toArray, List.getElem_cons_succ, List.getElem_cons_zero, List.setIfInBounds_toArray, List.set_cons_zero, List.set_cons_succ]
      refine wpAnyH_ready (rs := [2]) (by kernel_rfl) (by simp) ?_
      refine AllReadyH.cons rfl (fun K2 hK2 => ?_) (fun _ h => by cases h)
      go_simp
      refine hK2 _ _ ?hs (fun _ => ?_)
      case hs => repeat' (first | with_reducible exact HBK.out | with_reducible refine Blk.drew ?_ | with_reducible refine Blk.far ?_ ?_ _ | (simp only []; omega) | omega)
      simp only [List.setIfInBounds_toArray, List.set_cons_zero, List.set_cons_succ]
      refine wpAnyH_ready (rs := [3]) (by kernel_rfl) (by simp) ?_
      refine AllReadyH.cons rfl (fun K2 hK2 => ?_) (fun _ h => by cases h)
      go_simp
      refine hK2 _ _ ?hs (fun _ => ?_)
      case hs => repeat' (first | with_reducible exact HBK.out | with_reducible refine Blk.drew ?_ | with_reducible refine Blk.far ?_ ?_ _ | (simp only []; omega) | omega)
      simp only [List.setIfInBounds_toArray, List.set_cons_zero, List.set_cons_succ]
      refine wpAnyH_ready (rs := [4]) (by kernel_rfl) (by simp) ?_
      refine AllReadyH.cons rfl (fun K2 hK2 => ?_) (fun _ h => by cases h)
      go_simp
      refine hK2 _ _ ?hs (fun _ => ?_)
      case hs => repeat' (first | with_reducible exact HBK.out | with_reducible refine Blk.drew ?_ | with_reducible refine Blk.far ?_ ?_ _ | (simp only []; omega) | omega)
      refine wpAnyH_done (by kernel_rfl) ?_ _
      gi_wp2
      obtain ⟨hC, hO⟩ := HU.out.1.open6 1 3 1 120 false
      have hls := HS3.out
      have hSb2 := HR.out.2.2.2.1
      refine wpIn_abs (fun wx => ClSt E W l sb true (0, 3, 1) 1 q2 wx ∧ J [ceA (3, 4, 1)] S' wx ∧ Blk wx pb 33 #[.int .i64 3, .int .i64 1, .int .i32 120, .bool false] ∧ (Only (fun b => (b < w3.heap.size ∧ ¬ b = W.heap.size + 5) ∨ S b) W' wx ∧ w6.heap.size ≤ wx.heap.size)) ⟨hC, HJ.out.1 _ _ _ _ HU.out.2.1 (only_sub hO (fun b hb => ⟨by omega, fun h => by have h2 := HU.out.2.2.2.2 b h; have := HR.out.2.2.2.2; have := hpz; rcases h2 with h2 | h2; (have := hSb2 b h2; omega); omega⟩)), HBK.out.only hO (by omega), HU.out.2.2.2.1.trans (only_sub hO (fun b hb => .inl ⟨by omega, by omega⟩)), hO.size⟩ ?_
      clear hC hO x4 f4 x2 f2 y0 y1 y2 y3 g0 g1 g2 g3 HSX hls hSb2
      rintro wx hwx
      have HX := Lib.hid hwx
      clear hwx
      have HBX := Lib.hid (show Blk wx pb 33 #[.int .i64 3, .int .i64 1, .int .i32 120, .bool false] from HX.out.2.2.1)
      have hwr : IntKind.i64.wrap 4 = 4 := by decide
      have HSX := Lib.hid (show (fun wz : World => Blk wz pb 33 #[.int .i64 3, .int .i64 1, .int .i32 120, .bool false]) wx.drew from HBX.out.drew)
      refine wpIn_region_held_round (S := fun wz : World => Blk wz pb 33 #[.int .i64 3, .int .i64 1, .int .i32 120, .bool false]) (by kernel_rfl) (by kernel_rfl) (fun ⟨a, w, h⟩ => h) ?_
      simp only [List.size_toArray, List.length_cons, List.length_nil, Nat.reduceAdd, Array.replicate_succ, Array.replicate_zero, List.push_toArray, List.nil_append, List.cons_append]
      refine wpAnyH_take (i := 0) (v := ?_) rfl (by kernel_rfl) (by kernel_rfl) (by kernel_rfl) (fun _ _ _ h => h) (Or.inl ⟨by rfl, ?hy0⟩) HSX.out ?_
      case hy0 =>
        intro wq hq
        have z0 : wq.cell? ⟨pb, 0, none⟩ = some (.int .i64 3) := hq.cell 0
        have z1 : wq.cell? ⟨pb, 1, none⟩ = some (.int .i64 1) := hq.cell 1
        have z2 : wq.cell? ⟨pb, 2, none⟩ = some (.int .i32 120) := hq.cell 2
        have z3 : wq.cell? ⟨pb, 3, none⟩ = some (.bool false) := hq.cell 3
        go_simp
        try rfl
      simp only [Act.put, List.getElem_toArray, List.getElem_cons_zero, List.setIfInBounds_toArray, List.set_cons_zero, List.set_cons_succ]
      refine wpAnyH_take (i := 1) (v := ?_) rfl (by kernel_rfl) (by kernel_rfl) (by kernel_rfl) (fun _ _ _ h => h) (Or.inl ⟨by rfl, ?hy1⟩) HSX.out ?_
      case hy1 =>
        intro wq hq
        have z0 : wq.cell? ⟨pb, 0, none⟩ = some (.int .i64 3) := hq.cell 0
        have z1 : wq.cell? ⟨pb, 1, none⟩ = some (.int .i64 1) := hq.cell 1
        have z2 : wq.cell? ⟨pb, 2, none⟩ = some (.int .i32 120) := hq.cell 2
        have z3 : wq.cell? ⟨pb, 3, none⟩ = some (.bool false) := hq.cell 3
        go_simp
        try rfl
      simp only [Act.put, List.getElem_toArray, List.getElem_cons_succ, List.getElem_cons_zero, List.setIfInBounds_toArray, List.set_cons_zero, List.set_cons_succ]
      refine wpAnyH_take (i := 2) (v := ?_) rfl (by kernel_rfl) (by kernel_rfl) (by kernel_rfl) (fun _ _ _ h => h) (Or.inl ⟨by rfl, ?hy2⟩) HSX.out ?_
      case hy2 =>
        intro wq hq
        have z0 : wq.cell? ⟨pb, 0, none⟩ = some (.int .i64 3) := hq.cell 0
        have z1 : wq.cell? ⟨pb, 1, none⟩ = some (.int .i64 1) := hq.cell 1
        have z2 : wq.cell? ⟨pb, 2, none⟩ = some (.int .i32 120) := hq.cell 2
        have z3 : wq.cell? ⟨pb, 3, none⟩ = some (.bool false) := hq.cell 3
        go_simp
        try rfl
      simp only [Act.put, List.getElem_toArray, List.getElem_cons_succ, List.getElem_cons_zero, List.setIfInBounds_toArray, List.set_cons_zero, List.set_cons_succ]
      refine wpAnyH_take (i := 3) (v := ?_) rfl (by kernel_rfl) (by kernel_rfl) (by kernel_rfl) (fun _ _ _ h => h) (Or.inl ⟨by rfl, ?hy3⟩) HSX.out ?_
      case hy3 =>
        intro wq hq
        have z0 : wq.cell? ⟨pb, 0, none⟩ = some (.int .i64 3) := hq.cell 0
        have z1 : wq.cell? ⟨pb, 1, none⟩ = some (.int .i64 1) := hq.cell 1
        have z2 : wq.cell? ⟨pb, 2, none⟩ = some (.int .i32 120) := hq.cell 2
        have z3 : wq.cell? ⟨pb, 3, none⟩ = some (.bool false) := hq.cell 3
        go_simp
        try rfl
      simp only [Act.put, List.getElem_toArray, List.getElem_cons_succ, List.getElem_cons_zero, List.setIfInBounds_toArray, List.set_cons_zero, List.set_cons_succ]
      refine wpAnyH_take (i := 4) (v := ?_) rfl (by kernel_rfl) (by kernel_rfl) (by kernel_rfl) (fun _ _ _ h => h) (Or.inl ⟨by rfl, ?hy4⟩) HSX.out ?_
      case hy4 =>
        intro wq hq
        have z0 : wq.cell? ⟨pb, 0, none⟩ = some (.int .i64 3) := hq.cell 0
        have z1 : wq.cell? ⟨pb, 1, none⟩ = some (.int .i64 1) := hq.cell 1
        have z2 : wq.cell? ⟨pb, 2, none⟩ = some (.int .i32 120) := hq.cell 2
        have z3 : wq.cell? ⟨pb, 3, none⟩ = some (.bool false) := hq.cell 3
        go_simp
        try rfl
      simp only [Act.put, List.getElem_toArray, List.getElem_cons_succ, List.getElem_cons_zero, List.setIfInBounds_toArray, List.set_cons_zero, List.set_cons_succ]
      refine wpAnyH_take (i := 5) (v := ?_) rfl (by kernel_rfl) (by kernel_rfl) (by kernel_rfl) (fun _ _ _ h => h) (Or.inl ⟨by rfl, ?hy5⟩) HSX.out ?_
      case hy5 =>
        intro wq hq
        have z0 : wq.cell? ⟨pb, 0, none⟩ = some (.int .i64 3) := hq.cell 0
        have z1 : wq.cell? ⟨pb, 1, none⟩ = some (.int .i64 1) := hq.cell 1
        have z2 : wq.cell? ⟨pb, 2, none⟩ = some (.int .i32 120) := hq.cell 2
        have z3 : wq.cell? ⟨pb, 3, none⟩ = some (.bool false) := hq.cell 3
        go_simp
        try rfl
      simp only [Act.put, List.getElem_toArray, List.getElem_cons_succ, List.getElem_cons_zero, List.setIfInBounds_toArray, List.set_cons_zero, List.set_cons_succ]
      refine wpAnyH_take (i := 6) (v := ?_) rfl (by kernel_rfl) (by kernel_rfl) (by kernel_rfl) (fun _ _ _ h => h) (Or.inl ⟨by rfl, ?hy6⟩) HSX.out ?_
      case hy6 =>
        intro wq hq
        have z0 : wq.cell? ⟨pb, 0, none⟩ = some (.int .i64 3) := hq.cell 0
        have z1 : wq.cell? ⟨pb, 1, none⟩ = some (.int .i64 1) := hq.cell 1
        have z2 : wq.cell? ⟨pb, 2, none⟩ = some (.int .i32 120) := hq.cell 2
        have z3 : wq.cell? ⟨pb, 3, none⟩ = some (.bool false) := hq.cell 3
        go_simp
        try rfl
      simp only [Act.put, List.getElem_toArray, List.getElem_cons_succ, List.getElem_cons_zero, List.setIfInBounds_toArray, List.set_cons_zero, List.set_cons_succ]
      refine wpAnyH_take (i := 7) (v := ?_) rfl (by kernel_rfl) (by kernel_rfl) (by kernel_rfl) (fun _ _ _ h => h) (Or.inl ⟨by rfl, ?hy7⟩) HSX.out ?_
      case hy7 =>
        intro wq hq
        have z0 : wq.cell? ⟨pb, 0, none⟩ = some (.int .i64 3) := hq.cell 0
        have z1 : wq.cell? ⟨pb, 1, none⟩ = some (.int .i64 1) := hq.cell 1
        have z2 : wq.cell? ⟨pb, 2, none⟩ = some (.int .i32 120) := hq.cell 2
        have z3 : wq.cell? ⟨pb, 3, none⟩ = some (.bool false) := hq.cell 3
        go_simp
        try rfl
      simp only [Act.put, List.getElem_toArray, List.getElem_cons_succ, List.getElem_cons_zero, List.setIfInBounds_toArray, List.set_cons_zero, List.set_cons_succ]
      refine wpAnyH_take (i := 8) (v := ?_) rfl (by kernel_rfl) (by kernel_rfl) (by kernel_rfl) (fun _ _ _ h => h) (Or.inl ⟨by rfl, ?hy8⟩) HSX.out ?_
      case hy8 =>
        intro wq hq
        have z0 : wq.cell? ⟨pb, 0, none⟩ = some (.int .i64 3) := hq.cell 0
        have z1 : wq.cell? ⟨pb, 1, none⟩ = some (.int .i64 1) := hq.cell 1
        have z2 : wq.cell? ⟨pb, 2, none⟩ = some (.int .i32 120) := hq.cell 2
        have z3 : wq.cell? ⟨pb, 3, none⟩ = some (.bool false) := hq.cell 3
        go_simp
        try rfl
      simp only [Act.put, List.getElem_toArray, List.getElem_cons_succ, List.getElem_cons_zero, List.setIfInBounds_toArray, List.set_cons_zero, List.set_cons_succ]
      refine wpAnyH_ready (rs := [9]) (by kernel_rfl) (by simp) ?_
      refine AllReadyH.cons rfl (fun K2 hK2 => ?_) (fun _ h => by cases h)
      go_simp
      refine (columns_letter 3 1 120 (by decide +kernel) (by decide) _).mono ?_
      rintro e w7 ⟨rfl, hb6⟩
      have hbx : Below wx.heap.size wx w7 := ⟨hb6.os, hb6.tape, hb6.output, hb6.size, hb6.block⟩
      have H6S := Lib.hid (show w6.heap.size ≤ wx.heap.size ∧ wx.heap.size ≤ w7.heap.size from ⟨HX.out.2.2.2.2, hbx.size⟩)
      have H6 := Lib.hid (show ClSt E W l sb true (0, 3, 1) 1 q2 w7 ∧ J [ceA (3, 4, 1)] S' w7 ∧ Blk w7 pb 33 #[.int .i64 3, .int .i64 1, .int .i32 120, .bool false] ∧ Only (fun b => (b < w3.heap.size ∧ ¬ b = W.heap.size + 5) ∨ S b) W' w7 from ⟨HX.out.1.only (S := fun _ => False) (Only.of_below hbx _) (fun _ h => h.elim), HJ.out.1 _ _ _ _ HX.out.2.1 (Only.of_below hbx _), HX.out.2.2.1.below hbx HX.out.2.2.1.lt, HX.out.2.2.2.1.trans (Only.of_below hbx _)⟩)
      clear hb6 hbx
      refine hK2 _ _ H6.out.2.2.1 (fun _ => ?_)
      simp only [List.setIfInBounds_toArray, List.set_cons_zero, List.set_cons_succ]
      have v0 : w7.cell? ⟨W.heap.size + 1, 0, none⟩ = some (.int .i64 _) := H6.out.1.bn.cell 0
      have u0 : w7.frozen? ⟨W.heap.size + 1, 0, none⟩ = false := H6.out.1.bn.frozen 0
      have v1 : w7.cell? ⟨W.heap.size + 1, 1, none⟩ = some (.int .i64 _) := H6.out.1.bn.cell 1
      have u1 : w7.frozen? ⟨W.heap.size + 1, 1, none⟩ = false := H6.out.1.bn.frozen 1
      have v2 : w7.cell? ⟨W.heap.size + 1, 2, none⟩ = some (.int .i64 _) := H6.out.1.bn.cell 2
      have u2 : w7.frozen? ⟨W.heap.size + 1, 2, none⟩ = false := H6.out.1.bn.frozen 2
      refine wpAnyH_take (i := 10) (v := ?_) rfl (by kernel_rfl) (by kernel_rfl) (by kernel_rfl) (fun _ _ _ h => h) (Or.inl ⟨by rfl, ?hy10⟩) H6.out.2.2.1 ?_
      case hy10 =>
        intro wq hq
        have z0 : wq.cell? ⟨pb, 0, none⟩ = some (.int .i64 3) := hq.cell 0
        have z1 : wq.cell? ⟨pb, 1, none⟩ = some (.int .i64 1) := hq.cell 1
        have z2 : wq.cell? ⟨pb, 2, none⟩ = some (.int .i32 120) := hq.cell 2
        have z3 : wq.cell? ⟨pb, 3, none⟩ = some (.bool false) := hq.cell 3
        go_simp
        try rfl
      simp only [Act.put, List.getElem_toArray, List.getElem_cons_succ, List.getElem_cons_zero, List.setIfInBounds_toArray, List.set_cons_zero, List.set_cons_succ]
      have HB6 := Lib.hid H6.out.2.2.1
      refine wpAnyH_ready (rs := [11]) (by kernel_rfl) (by simp) ?_
      refine AllReadyH.cons rfl (fun K2 hK2 => ?_) (fun _ h => by cases h)
      go_simp
      refine hK2 _ _ ?hs (fun _ => ?_)
      case hs => repeat' (first | with_reducible exact HB6.out | with_reducible refine Blk.drew ?_ | with_reducible refine Blk.far ?_ ?_ _ | (simp only []; omega) | omega)
      refine wpAnyH_done (by kernel_rfl) ?_ _
      gi_wp2
      obtain ⟨hC, hO⟩ := H6.out.1.now3 3 4 1
      have hls := HS3.out
      have hSb2 := HR.out.2.2.2.1
      have hJf : J [ceA (3, 4, 1)] S' _ := HJ.out.1 _ _ _ _ H6.out.2.1 (only_sub hO (fun b hb => ⟨by omega, fun h => by have h2 := HU.out.2.2.2.2 b h; have := HR.out.2.2.2.2; have := hpz; rcases h2 with h2 | h2; (have := hSb2 b h2; omega); omega⟩))
      refine ⟨H6.out.2.2.2.trans (only_sub hO (fun b hb => .inl ⟨by omega, by omega⟩)), S', ?_, fun b h => by have h2 := H6.out.2.2.2.size; have h3 := hO.size; rcases HU.out.2.2.2.2 b h with h | h; exact .inl h; exact .inr (by have := H6S.out; omega)⟩
      first | exact ⟨hC, hJf⟩ | exact .inr (.inl ⟨rfl, hC, hJf⟩) | exact .inr (.inr (.inr ⟨rfl, hC, hJf⟩))
    · cases he
  case done =>
    rintro S W' hSb hBW hI hmk
    rcases hI with ⟨he, hS, hj⟩ | ⟨he, hS, hj⟩ | ⟨he, hS, hj⟩ | ⟨he, hS, hj⟩
    · cases he
    · cases he
    · cases he
    · clear he
      have c4 : W'.cell? ⟨W.heap.size + 1 + 1 + 1 + 1, 0, none⟩ = some (.bool true) := hS.bo.cell 0
      have n0 : W'.cell? ⟨W.heap.size + 1, 0, none⟩ = some (.int .i64 3) := hS.bn.cell 0
      have n1 : W'.cell? ⟨W.heap.size + 1, 1, none⟩ = some (.int .i64 4) := hS.bn.cell 1
      have n2 : W'.cell? ⟨W.heap.size + 1, 2, none⟩ = some (.int .i64 1) := hS.bn.cell 2
      have cy : W'.cell? ⟨W.heap.size, 0, none⟩ = some (.func (.yield l) #[] #[]) := hS.by_.cell 0
      obtain ⟨fn, tmps, assign, body, hy, hR⟩ := HY.out (ceA (3, 4, 1)) [] S W' (fun b h => by have := hSb b h; have := HS3.out; omega) (by have := HS3.out; omega) hj
      have HRR := Lib.hid hR
      replace hy : (Instr.yield l #[.agg #[.int .i64 3, .int .i64 4, .int .i64 1]]).run Try.prog W' = _ := hy
      have HK := Lib.hid (And.intro hS (And.intro hmk (And.intro hSb hBW)))
      clear hR hS hj hmk hSb hBW
      go_upto_region 20 with (fail)
      refine (wpIn_wide (n := 0)).1 ?_
      have wf : ∀ k, Fence.wide.fn k := fun _ => trivial
      have wd : Fence.wide.depth = none := rfl
      gi_wp2_with (with_reducible refine HRR.out.mono ?_)
      intro e w4
      rintro rfl S' hj4 hS4 ho4
      have hmk4 := (ho4.block _ (Array.getElem?_eq_some_iff.1 HK.out.2.1).1 (fun h => by
        rcases h with h | h
        · have := HS3.out; omega
        · have := HK.out.2.2.1 _ h; omega)).trans HK.out.2.1
      have HW4 := Lib.hid (And.intro hmk4 (And.intro hj4 (And.intro hS4 ho4.size)))
      clear hmk4 hj4 hS4 ho4 hy c4 n0 n1 n2 cy
      gi_wp2
      go_wp2
      dsimp only [Exit.jumps]
      refine leaves_one (D := w3.heap.size) HW4.out.1 ?_
      intro w' ho
      have hl := HS3.out
      refine ⟨_, results_none rfl _ _ _, ⟨_, rfl⟩, S', fun b h => ?_, HJ.out.1 _ _ _ _ HW4.out.2.1 (only_sub ho (fun b e => by
          subst e
          refine ⟨by omega, fun h => ?_⟩
          rcases HW4.out.2.2.1 _ h with h | h
          · have := HK.out.2.2.1 _ h; omega
          · have := HK.out.2.2.2; omega))⟩
      have h2 := ho.size
      have h3 := HW4.out.2.2.2
      rcases HW4.out.2.2.1 b h with h | h
      · have := HK.out.2.2.1 b h; omega
      · have := HK.out.2.2.2; omega
end Go.Proofs.Ytialpfmaekagjaa
