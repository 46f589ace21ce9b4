/- RhymeIsOne: the law walked. -/
import Derived.Test.YtogofchpocoebaaV8
import Derived.Sort.CutIn
namespace Go.Proofs.Ytogofchpocoebaa
open Go.RowKit Go.Maps

def fnb (f : Nat → Bool) (N : Nat) : List Value := (List.range N).map fun a => Value.bool (f a)
theorem fnb_len (f : Nat → Bool) (N : Nat) : (fnb f N).length = N := by simp [fnb]
theorem fnb_at {f : Nat → Bool} {N j : Nat} (h : j < N) : (fnb f N)[j]? = some (.bool (f j)) := by
  unfold fnb
  rw [List.getElem?_map, List.getElem?_range h]
  rfl
theorem fnb_congr {f g : Nat → Bool} {N : Nat} (h : ∀ a, a < N → f a = g a) : fnb f N = fnb g N := by
  unfold fnb
  exact List.map_congr_left fun a ha => by rw [h a (List.mem_range.1 ha)]
theorem fnb_set {f : Nat → Bool} {N j : Nat} (v : Bool) : (fnb f N).set j (.bool v) = fnb (fun a => if a = j then v else f a) N := by
  apply List.ext_getElem?
  intro i
  rw [List.getElem?_set]
  by_cases hi : i < N
  · rw [fnb_at hi, fnb_at hi, fnb_len]
    by_cases e : j = i
    · subst e
      rw [if_pos rfl, if_pos hi, if_pos rfl]
    · rw [if_neg e, if_neg (Ne.symm e)]
  · rw [List.getElem?_eq_none (by rw [fnb_len]; omega), List.getElem?_eq_none (by rw [fnb_len]; omega), fnb_len]
    by_cases e : j = i
    · subst e
      rw [if_pos rfl, if_neg hi]
    · rw [if_neg e]
def at3 (x y z : Sd) (i : Nat) : Sd := if i = 0 then x else if i = 1 then y else z
def onB (x y z : Sd) (a : Nat) : Bool := decide (tailF (at3 x y z (a / 3)).l (at3 x y z (a / 3)).ss = tailF (at3 x y z (a % 3)).l (at3 x y z (a % 3)).ss)
def faB (x y z : Sd) (a : Nat) : Int := farS (at3 x y z (a / 3)) (at3 x y z (a % 3))
def onN (x y z : Sd) (N a : Nat) : Bool := if a < N then onB x y z a else false
def faN (x y z : Sd) (N a : Nat) : Int := if a < N then faB x y z a else 0
/-- memory while the law runs: the three forms, who rhymes with whom, how far they are apart -/
structure IoSt (w0 : World) (g : Nat) (x y z : Sd) (f : Nat → Bool) (d : Nat → Int) (W : World) : Prop where
  bl : Blk W g 118 #[.slice x.A x.n x.c, .slice x.D x.m x.d, .slice y.A y.n y.c, .slice y.D y.m y.d, .slice z.A z.n z.c, .slice z.D z.m z.d]
  bo : Blk W (g + 1) 120 (fnb f 9).toArray
  bf : Blk W (g + 2) 122 (fnl d 9).toArray
  below : Below w0.heap.size w0 W
  lg : w0.heap.size ≤ g
theorem IoSt.on {w0 : World} {g : Nat} {x y z : Sd} {f : Nat → Bool} {d : Nat → Int} {W W' : World} (h : IoSt w0 g x y z f d W) (hb : Below W.heap.size W W') : IoSt w0 g x y z f d W' :=
  ⟨h.bl.below hb h.bl.lt, h.bo.below hb h.bo.lt, h.bf.below hb h.bf.lt, h.below.trans (hb.mono h.below.size), h.lg⟩
theorem IoSt.at {w0 : World} {g : Nat} {x y z : Sd} {f : Nat → Bool} {d : Nat → Int} {W : World} (h : IoSt w0 g x y z f d W) {i : Nat} (hi : i < 3) : W.cell? ⟨g, i * 2, none⟩ = some (.slice (at3 x y z i).A (at3 x y z i).n (at3 x y z i).c) ∧ W.cell? ⟨g, i * 2 + 1, none⟩ = some (.slice (at3 x y z i).D (at3 x y z i).m (at3 x y z i).d) := by
  have h3 : i = 0 ∨ i = 1 ∨ i = 2 := by omega
  rcases h3 with rfl | rfl | rfl
  · exact ⟨h.bl.cell 0, h.bl.cell 1⟩
  · exact ⟨h.bl.cell 2, h.bl.cell 3⟩
  · exact ⟨h.bl.cell 4, h.bl.cell 5⟩
theorem IoSt.son {w0 : World} {g : Nat} {x y z : Sd} {f : Nat → Bool} {d : Nat → Int} {W : World} (h : IoSt w0 g x y z f d W) (k : Nat) (b : Bool) : IoSt w0 g x y z (fun a => if a = k then b else f a) d (W.setCell ⟨g + 1, k, none⟩ (.bool b)) := by
  have hl := h.lg
  refine ⟨h.bl.far (by simp) _, ?_, h.bf.far (by simp) _, h.below.setCell (by simp; omega) _, h.lg⟩
  have := h.bo.set_ k (.bool b)
  rw [List.setIfInBounds_toArray, fnb_set] at this
  exact this
theorem IoSt.sfar {w0 : World} {g : Nat} {x y z : Sd} {f : Nat → Bool} {d : Nat → Int} {W : World} (h : IoSt w0 g x y z f d W) (k : Nat) (b : Int) : IoSt w0 g x y z f (fun a => if a = k then b else d a) (W.setCell ⟨g + 2, k, none⟩ (.int .i64 b)) := by
  have hl := h.lg
  refine ⟨h.bl.far (by simp) _, h.bo.far (by simp) _, ?_, h.below.setCell (by simp; omega) _, h.lg⟩
  have := h.bf.set_ k (.int .i64 b)
  rw [List.setIfInBounds_toArray, fnl_set] at this
  exact this
theorem onN_step {x y z : Sd} {k : Nat} {b : Bool} (h : b = onB x y z k) : (fun a => if a = k then b else onN x y z k a) = onN x y z (k + 1) := by
  funext a
  unfold onN
  by_cases e : a = k
  · subst e; rw [if_pos rfl, if_pos (Nat.lt_succ_self _), h]
  · rw [if_neg e]
    by_cases h2 : a < k
    · rw [if_pos h2, if_pos (Nat.lt_succ_of_lt h2)]
    · rw [if_neg h2, if_neg (by omega)]
theorem faN_step {x y z : Sd} {k : Nat} {b : Int} (h : b = faB x y z k) : (fun a => if a = k then b else faN x y z k a) = faN x y z (k + 1) := by
  funext a
  unfold faN
  by_cases e : a = k
  · subst e; rw [if_pos rfl, if_pos (Nat.lt_succ_self _), h]
  · rw [if_neg e]
    by_cases h2 : a < k
    · rw [if_pos h2, if_pos (Nat.lt_succ_of_lt h2)]
    · rw [if_neg h2, if_neg (by omega)]
theorem on_at {x y z : Sd} {i j : Nat} (hj : j < 3) : onB x y z (i * 3 + j) = decide (tailF (at3 x y z i).l (at3 x y z i).ss = tailF (at3 x y z j).l (at3 x y z j).ss) := by
  unfold onB
  rw [show (i * 3 + j) / 3 = i by omega, show (i * 3 + j) % 3 = j by omega]
theorem fa_at {x y z : Sd} {i j : Nat} (hj : j < 3) : faB x y z (i * 3 + j) = farS (at3 x y z i) (at3 x y z j) := by
  unfold faB
  rw [show (i * 3 + j) / 3 = i by omega, show (i * 3 + j) % 3 = j by omega]
theorem at3_in {W : World} {B : Nat} {x y z : Sd} (hx : SdIn W B x) (hy : SdIn W B y) (hz : SdIn W B z) (i : Nat) : SdIn W B (at3 x y z i) := by
  unfold at3
  split
  · exact hx
  · split
    · exact hy
    · exact hz

theorem key_beq {x y : Sd} (hf : Form x.l x.ss) (hg : Form y.l y.ss) : ((bts (texts (tailF x.l x.ss))).toList == (bts (texts (tailF y.l y.ss))).toList) = decide (tailF x.l x.ss = tailF y.l y.ss) := by
  by_cases h : tailF x.l x.ss = tailF y.l y.ss
  · rw [h, decide_eq_true rfl]
    exact beq_self_eq_true _
  · rw [decide_eq_false h]
    have : ¬ (bts (texts (tailF x.l x.ss))).toList = (bts (texts (tailF y.l y.ss))).toList := fun e => by
      rw [ByteArray.toList_eq, ByteArray.toList_eq] at e
      exact h ((key_eq hf hg).1 (ByteArray.ext (Array.toList_inj.1 e)))
    simpa using this
theorem far_beq {x y : Sd} (hf : Form x.l x.ss) (hg : Form y.l y.ss) : (farS x y == 0) = decide (tailF x.l x.ss = tailF y.l y.ss) := by
  by_cases h : tailF x.l x.ss = tailF y.l y.ss
  · rw [decide_eq_true h, (far_same hf hg).2 h]
    rfl
  · rw [decide_eq_false h]
    have : ¬ farS x y = 0 := fun e => h ((far_same hf hg).1 e)
    simpa using this
theorem io_on {w0 : World} {g : Nat} {x y z : Sd} {d : Nat → Int} {W : World} (h : IoSt w0 g x y z (onN x y z 9) d W) {i j : Nat} (hi : i < 3) (hj : j < 3) : W.cell? ⟨g + 1, i * 3 + j, none⟩ = some (.bool (decide (tailF (at3 x y z i).l (at3 x y z i).ss = tailF (at3 x y z j).l (at3 x y z j).ss))) := by
  rw [h.bo.cell, List.getElem?_toArray, fnb_at (by omega)]
  unfold onN
  rw [if_pos (by omega), on_at hj]
theorem io_fa {w0 : World} {g : Nat} {x y z : Sd} {f : Nat → Bool} {W : World} (h : IoSt w0 g x y z f (faN x y z 9) W) {i j : Nat} (hi : i < 3) (hj : j < 3) : W.cell? ⟨g + 1 + 1, i * 3 + j, none⟩ = some (.int .i64 (farS (at3 x y z i) (at3 x y z j))) := by
  rw [show g + 1 + 1 = g + 2 from rfl, h.bf.cell, List.getElem?_toArray, fnl_at (by omega)]
  unfold faN
  rw [if_pos (by omega), fa_at hj]
/-- what a cell holds -/
def curV (W : World) (p : Addr) : Value := (W.cell? p).getD undef
theorem curV_of {W : World} {p : Addr} {u : Value} (h : W.cell? p = some u) : W.cell? p = some (curV W p) := by unfold curV; rw [h]; rfl

set_option maxHeartbeats 8000000 in
set_option maxRecDepth 100000 in
theorem rhymeIsOne_any (x y z : Sd) (w : World) (hx : SdIn w w.heap.size x) (hy : SdIn w w.heap.size y) (hz : SdIn w w.heap.size z) :
    Calls Try.prog 16 #[.agg #[.slice x.A x.n x.c, .slice x.D x.m x.d], .agg #[.slice y.A y.n y.c, .slice y.D y.m y.d], .agg #[.slice z.A z.n z.c, .slice z.D z.m z.d]] w fun e w' => e = .returned (.bool true) ∧ Below w.heap.size w w' := by
  have HA := Lib.hid (at3_in hx hy hz)
  clear hx hy hz
  go_enter Try.func16, Try.ntmps16
  go_upto_region 1 with (fail)
  refine wp_abs (fun wx => Below w.heap.size w wx ∧ Blk wx w.heap.size 25 #[.slice x.A x.n x.c, .slice x.D x.m x.d] ∧ Blk wx (w.heap.size + 1) 25 #[.slice y.A y.n y.c, .slice y.D y.m y.d] ∧ Blk wx (w.heap.size + 2) 25 #[.slice z.A z.n z.c, .slice z.D z.m z.d]) ⟨(((Below.refl _ _).alloc (Nat.le_refl _) _).alloc (by simp) _).alloc (by simp; omega) _, ((Blk.new _ _ _).alloc _).alloc _, (blk_new_eq (by simp)).alloc _, blk_new_eq (by simp)⟩ ?_
  rintro w1 ⟨hb, hB0, hB1, hB2⟩
  have H1 := Lib.hid (And.intro hb (And.intro hB0 (And.intro hB1 hB2)))
  clear hb hB0 hB1 hB2
  go_wp2_with fail
  refine (wakes15_any w1).mono ?_
  rintro e w2 ⟨rfl, hb⟩
  have x0 : w2.cell? ⟨w.heap.size, 0, none⟩ = some (.slice x.A x.n x.c) := (H1.out.2.1.below hb H1.out.2.1.lt).cell 0
  have x1 : w2.cell? ⟨w.heap.size, 1, none⟩ = some (.slice x.D x.m x.d) := (H1.out.2.1.below hb H1.out.2.1.lt).cell 1
  have y0 : w2.cell? ⟨w.heap.size + 1, 0, none⟩ = some (.slice y.A y.n y.c) := (H1.out.2.2.1.below hb H1.out.2.2.1.lt).cell 0
  have y1 : w2.cell? ⟨w.heap.size + 1, 1, none⟩ = some (.slice y.D y.m y.d) := (H1.out.2.2.1.below hb H1.out.2.2.1.lt).cell 1
  have z0 : w2.cell? ⟨w.heap.size + 2, 0, none⟩ = some (.slice z.A z.n z.c) := (H1.out.2.2.2.below hb H1.out.2.2.2.lt).cell 0
  have z1 : w2.cell? ⟨w.heap.size + 2, 1, none⟩ = some (.slice z.D z.m z.d) := (H1.out.2.2.2.below hb H1.out.2.2.2.lt).cell 1
  have H2 := Lib.hid (H1.out.1.trans (hb.mono H1.out.1.size))
  clear hb H1
  go_upto_region 7 with (fail)
  refine wp_abs (IoSt w w2.heap.size x y z (onN x y z 0) (faN x y z 0)) ⟨((Blk.new _ _ _).alloc _).alloc _, (blk_new_eq (by simp)).alloc _, blk_new_eq (by simp), ((H2.out.alloc H2.out.size _).alloc (by have := H2.out.size; simp; omega) _).alloc (by have := H2.out.size; simp; omega) _, H2.out.size⟩ ?_
  clear x0 x1 y0 y1 z0 z1 H2
  generalize w2.heap.size = g at *
  intro w3 hS
  have H3 := Lib.hid hS
  clear hS
  go_wp2
  go_loopw [11, 12, 13, 14, 15, 16, 17, 18, 19, 20, 21, 22, 23] (fun v11 _ _ _ _ _ _ _ _ _ _ _ _ wr => ∃ i : Nat, i ≤ 3 ∧ v11 = .int .i64 i ∧ Hid (IoSt w g x y z (onN x y z (i * 3)) (faN x y z (i * 3)) wr ∧ (0 < i → ∀ a, mayB (at3 x y z a) = true))) (fun v _ _ _ _ _ _ _ _ _ _ _ _ _ => 3 - (intOf v).toNat)
  case atStart => exact ⟨0, by omega, rfl, Lib.hid ⟨H3.out, fun h => absurd h (by omega)⟩⟩
  case round =>
    obtain ⟨i, hi, rfl, HR⟩ := hrel
    clear H3
    by_cases hlt : i < 3
    · have i1 : (0 : Int) ≤ (i : Int) := by omega
      have i2 : (i : Int) < 3 := by omega
      have d1 : decide ((i : Int) < 3) = true := by simp; omega
      go_wp2
      go_loopw [12, 13, 14, 15, 16, 17, 18, 19, 20, 21] (fun v12 _ _ _ _ _ _ _ _ _ wr => ∃ j : Nat, j ≤ 3 ∧ v12 = .int .i64 j ∧ Hid (IoSt w g x y z (onN x y z (i * 3 + j)) (faN x y z (i * 3 + j)) wr ∧ (0 < i → ∀ a, mayB (at3 x y z a) = true) ∧ ∀ a, a < j → mayB (at3 x y z a) = true)) (fun v _ _ _ _ _ _ _ _ _ _ => 3 - (intOf v).toNat)
      case atStart => exact ⟨0, by omega, rfl, Lib.hid ⟨HR.out.1, HR.out.2, fun a h => absurd h (by omega)⟩⟩
      case round =>
        obtain ⟨j, hj, rfl, HQ⟩ := hrel
        clear HR
        by_cases hlj : j < 3
        · have j1 : (0 : Int) ≤ (j : Int) := by omega
          have j2 : (j : Int) < 3 := by omega
          have dj : decide ((j : Int) < 3) = true := by simp; omega
          obtain ⟨a0, a1⟩ := HQ.out.1.at hlt
          obtain ⟨b0, b1⟩ := HQ.out.1.at hlj
          have fo : wr.frozen? ⟨g + 1, i * 3 + j, none⟩ = false := HQ.out.1.bo.frozen _
          have fc : ∃ u, wr.cell? ⟨g + 1, i * 3 + j, none⟩ = some u := ⟨_, (HQ.out.1.bo.cell _).trans (by rw [List.getElem?_toArray]; exact fnb_at (by omega))⟩
          obtain ⟨u, fc⟩ := fc
          clear fc fo
          clear u
          have hK : ∀ W', Below wr.heap.size wr W' → (W'.cell? ⟨g, i * 2, none⟩ = some (.slice (at3 x y z i).A (at3 x y z i).n (at3 x y z i).c) ∧ W'.cell? ⟨g, i * 2 + 1, none⟩ = some (.slice (at3 x y z i).D (at3 x y z i).m (at3 x y z i).d) ∧ W'.cell? ⟨g, j * 2, none⟩ = some (.slice (at3 x y z j).A (at3 x y z j).n (at3 x y z j).c) ∧ W'.cell? ⟨g, j * 2 + 1, none⟩ = some (.slice (at3 x y z j).D (at3 x y z j).m (at3 x y z j).d) ∧ W'.cell? ⟨g + 1, i * 3 + j, none⟩ = some (curV W' ⟨g + 1, i * 3 + j, none⟩) ∧ W'.frozen? ⟨g + 1, i * 3 + j, none⟩ = false) := fun W' hb => by
            have hS := HQ.out.1.on hb
            obtain ⟨k1, k2⟩ := hS.at hlt
            obtain ⟨k3, k4⟩ := hS.at hlj
            exact ⟨k1, k2, k3, k4, curV_of ((hS.bo.cell _).trans (by rw [List.getElem?_toArray]; exact fnb_at (by omega))), hS.bo.frozen _⟩
          have hKS : ∀ W' v, Below wr.heap.size wr W' → ((W'.setCell ⟨g + 1, i * 3 + j, none⟩ (.bool v)).cell? ⟨g, i * 2, none⟩ = some (.slice (at3 x y z i).A (at3 x y z i).n (at3 x y z i).c) ∧ (W'.setCell ⟨g + 1, i * 3 + j, none⟩ (.bool v)).cell? ⟨g, i * 2 + 1, none⟩ = some (.slice (at3 x y z i).D (at3 x y z i).m (at3 x y z i).d) ∧ (W'.setCell ⟨g + 1, i * 3 + j, none⟩ (.bool v)).cell? ⟨g, j * 2, none⟩ = some (.slice (at3 x y z j).A (at3 x y z j).n (at3 x y z j).c) ∧ (W'.setCell ⟨g + 1, i * 3 + j, none⟩ (.bool v)).cell? ⟨g, j * 2 + 1, none⟩ = some (.slice (at3 x y z j).D (at3 x y z j).m (at3 x y z j).d) ∧ (W'.setCell ⟨g + 1, i * 3 + j, none⟩ (.bool v)).cell? ⟨g + 1, i * 3 + j, none⟩ = some (curV (W'.setCell ⟨g + 1, i * 3 + j, none⟩ (.bool v)) ⟨g + 1, i * 3 + j, none⟩) ∧ (W'.setCell ⟨g + 1, i * 3 + j, none⟩ (.bool v)).frozen? ⟨g + 1, i * 3 + j, none⟩ = false) := fun W' v hb => by
            have hS := (HQ.out.1.on hb).son (i * 3 + j) v
            obtain ⟨k1, k2⟩ := hS.at hlt
            obtain ⟨k3, k4⟩ := hS.at hlj
            exact ⟨k1, k2, k3, k4, curV_of ((hS.bo.cell _).trans (by rw [List.getElem?_toArray]; exact fnb_at (by omega))), hS.bo.frozen _⟩
          obtain ⟨a0, a1, b0, b1, c0, c1⟩ := hK wr (Below.refl _ _)
          have HK := Lib.hid hK
          have HKS := Lib.hid hKS
          clear hK hKS
          have hBr : w.heap.size ≤ wr.heap.size := HQ.out.1.below.size
          go_wp2
          cases hm : (mayB (at3 x y z i) && mayB (at3 x y z j)) with
          | false =>
            have HM := Lib.hid hm
            clear hm
            go_region_held3 (fun W' => W'.cell? ⟨g, i * 2, none⟩ = some (.slice (at3 x y z i).A (at3 x y z i).n (at3 x y z i).c) ∧ W'.cell? ⟨g, i * 2 + 1, none⟩ = some (.slice (at3 x y z i).D (at3 x y z i).m (at3 x y z i).d) ∧ W'.cell? ⟨g, j * 2, none⟩ = some (.slice (at3 x y z j).A (at3 x y z j).n (at3 x y z j).c) ∧ W'.cell? ⟨g, j * 2 + 1, none⟩ = some (.slice (at3 x y z j).D (at3 x y z j).m (at3 x y z j).d) ∧ W'.cell? ⟨g + 1, i * 3 + j, none⟩ = some (curV W' ⟨g + 1, i * 3 + j, none⟩) ∧ W'.frozen? ⟨g + 1, i * 3 + j, none⟩ = false)
              ((first
                | (refine HKS.out _ _ ?_; repeat (first | exact HZ.out | exact Below.refl _ _ | (with_reducible refine bdrew ?_)))
                | (refine HK.out _ ?_; repeat (first | exact HZ.out | exact Below.refl _ _ | (with_reducible refine bdrew ?_)))))
              (first
                | (go_at_call 75
                   refine (full_bad (at3 x y z i) (at3 x y z j) w.heap.size _ ((HA.out i).below (HQ.out.1.below.trans (Below.mono (by repeat (first | exact HZ.out | exact Below.refl _ _ | (with_reducible refine bdrew ?_))) hBr)) (Nat.le_refl _)) ((HA.out j).below (HQ.out.1.below.trans (Below.mono (by repeat (first | exact HZ.out | exact Below.refl _ _ | (with_reducible refine bdrew ?_))) hBr)) (Nat.le_refl _)) (by first | exact hBr | exact Nat.le_trans hBr HZ.out.size) HM.out).mono ?_
                   rintro e wz ⟨rfl, hb⟩
                   have HZ : Hid (Below wr.heap.size wr wz) := Lib.hid (by first | exact HZ.out.trans (hb.mono HZ.out.size) | exact Below.trans (by repeat (first | exact HZ.out | exact Below.refl _ _ | (with_reducible refine bdrew ?_))) (hb.mono (by first | exact Nat.le_refl _ | exact HZ.out.size)))
                   clear hb))
            refine exit_abs (IoSt w g x y z (fun a => if a = i * 3 + j then false else onN x y z (i * 3 + j) a) (faN x y z (i * 3 + j))) ((HQ.out.1.on HZ.out).son _ _) ?_
            intro w4 hS
            clear HZ HK HKS hBr a0 a1 b0 b1 c0 c1 HQ
            have H4 := Lib.hid hS
            clear hS
            cases m1 : mayB (at3 x y z i) with
            | false =>
              cases m2 : mayB (at3 x y z j) with
              | false =>
                obtain ⟨a0, a1⟩ := H4.out.at hlt
                obtain ⟨b0, b1⟩ := H4.out.at hlj
                go_wp2_with fail
                refine (keyUp_any (at3 x y z i) w.heap.size w4 ((HA.out i).below H4.out.below (Nat.le_refl _)) H4.out.below.size).mono ?_
                rintro e w5 ⟨rfl, hb⟩
                have Hw5 := Lib.hid (H4.out.on hb)
                clear hb a0 a1 b0 b1
                simp only [m1, Bool.false_eq_true, if_false]
                rw [show bts [] = ⟨#[]⟩ from rfl]
                obtain ⟨a0, a1⟩ := Hw5.out.at hlt
                obtain ⟨b0, b1⟩ := Hw5.out.at hlj
                go_wp2_with fail
                refine (keyUp_any (at3 x y z j) w.heap.size w5 ((HA.out j).below Hw5.out.below (Nat.le_refl _)) Hw5.out.below.size).mono ?_
                rintro e w6 ⟨rfl, hb⟩
                have Hw6 := Lib.hid (Hw5.out.on hb)
                clear hb a0 a1 b0 b1
                simp only [m2, Bool.false_eq_true, if_false]
                rw [show bts [] = ⟨#[]⟩ from rfl]
                go_wp2
                go_ret
                exact ⟨rfl, Hw6.out.below⟩
              | true =>
                obtain ⟨a0, a1⟩ := H4.out.at hlt
                obtain ⟨b0, b1⟩ := H4.out.at hlj
                go_wp2_with fail
                refine (keyUp_any (at3 x y z i) w.heap.size w4 ((HA.out i).below H4.out.below (Nat.le_refl _)) H4.out.below.size).mono ?_
                rintro e w5 ⟨rfl, hb⟩
                have Hw5 := Lib.hid (H4.out.on hb)
                clear hb a0 a1 b0 b1
                simp only [m1, Bool.false_eq_true, if_false]
                rw [show bts [] = ⟨#[]⟩ from rfl]
                obtain ⟨a0, a1⟩ := Hw5.out.at hlt
                obtain ⟨b0, b1⟩ := Hw5.out.at hlj
                go_wp2_with fail
                refine (keyUp_any (at3 x y z j) w.heap.size w5 ((HA.out j).below Hw5.out.below (Nat.le_refl _)) Hw5.out.below.size).mono ?_
                rintro e w6 ⟨rfl, hb⟩
                have Hw6 := Lib.hid (Hw5.out.on hb)
                clear hb a0 a1 b0 b1
                simp only [m2, if_true]
                go_wp2
                go_ret
                exact ⟨rfl, Hw6.out.below⟩
            | true =>
              have m2 : mayB (at3 x y z j) = false := by have := HM.out; rw [m1] at this; simpa using this
              obtain ⟨a0, a1⟩ := H4.out.at hlt
              obtain ⟨b0, b1⟩ := H4.out.at hlj
              go_wp2_with fail
              refine (keyUp_any (at3 x y z i) w.heap.size w4 ((HA.out i).below H4.out.below (Nat.le_refl _)) H4.out.below.size).mono ?_
              rintro e w5 ⟨rfl, hb⟩
              have Hw5 := Lib.hid (H4.out.on hb)
              clear hb a0 a1 b0 b1
              simp only [m1, if_true]
              obtain ⟨a0, a1⟩ := Hw5.out.at hlt
              obtain ⟨b0, b1⟩ := Hw5.out.at hlj
              go_wp2_with fail
              refine (keyUp_any (at3 x y z j) w.heap.size w5 ((HA.out j).below Hw5.out.below (Nat.le_refl _)) Hw5.out.below.size).mono ?_
              rintro e w6 ⟨rfl, hb⟩
              have Hw6 := Lib.hid (Hw5.out.on hb)
              clear hb a0 a1 b0 b1
              simp only [m2, Bool.false_eq_true, if_false]
              rw [show bts [] = ⟨#[]⟩ from rfl]
              go_wp2
              go_ret
              exact ⟨rfl, Hw6.out.below⟩
          | true =>
            have HM := Lib.hid (show mayB (at3 x y z i) = true ∧ mayB (at3 x y z j) = true by simpa using hm)
            clear hm
            go_region_held3 (fun W' => W'.cell? ⟨g, i * 2, none⟩ = some (.slice (at3 x y z i).A (at3 x y z i).n (at3 x y z i).c) ∧ W'.cell? ⟨g, i * 2 + 1, none⟩ = some (.slice (at3 x y z i).D (at3 x y z i).m (at3 x y z i).d) ∧ W'.cell? ⟨g, j * 2, none⟩ = some (.slice (at3 x y z j).A (at3 x y z j).n (at3 x y z j).c) ∧ W'.cell? ⟨g, j * 2 + 1, none⟩ = some (.slice (at3 x y z j).D (at3 x y z j).m (at3 x y z j).d) ∧ W'.cell? ⟨g + 1, i * 3 + j, none⟩ = some (curV W' ⟨g + 1, i * 3 + j, none⟩) ∧ W'.frozen? ⟨g + 1, i * 3 + j, none⟩ = false)
              ((first
                | (refine HKS.out _ _ ?_; repeat (first | exact HZ.out | exact Below.refl _ _ | (with_reducible refine bdrew ?_)))
                | (refine HK.out _ ?_; repeat (first | exact HZ.out | exact Below.refl _ _ | (with_reducible refine bdrew ?_)))))
              (first
                | (go_at_call 75
                   refine (full_ok (at3 x y z i) (at3 x y z j) w.heap.size _ ((HA.out i).below (HQ.out.1.below.trans (Below.mono (by repeat (first | exact HZ.out | exact Below.refl _ _ | (with_reducible refine bdrew ?_))) hBr)) (Nat.le_refl _)) ((HA.out j).below (HQ.out.1.below.trans (Below.mono (by repeat (first | exact HZ.out | exact Below.refl _ _ | (with_reducible refine bdrew ?_))) hBr)) (Nat.le_refl _)) (by first | exact hBr | exact Nat.le_trans hBr HZ.out.size) HM.out).mono ?_
                   rintro e wz ⟨rfl, hb⟩
                   have HZ : Hid (Below wr.heap.size wr wz) := Lib.hid (by first | exact HZ.out.trans (hb.mono HZ.out.size) | exact Below.trans (by repeat (first | exact HZ.out | exact Below.refl _ _ | (with_reducible refine bdrew ?_))) (hb.mono (by first | exact Nat.le_refl _ | exact HZ.out.size)))
                   clear hb))
            refine exit_abs (IoSt w g x y z (onN x y z (i * 3 + j + 1)) (faN x y z (i * 3 + j))) ?p14 ?_
            case p14 =>
              have h := (HQ.out.1.on HZ.out).son (i * 3 + j) (decide (tailF (at3 x y z i).l (at3 x y z i).ss = tailF (at3 x y z j).l (at3 x y z j).ss))
              rw [onN_step (on_at hlj).symm] at h
              exact h
            intro w4 hS
            clear HZ HK HKS hBr a0 a1 b0 b1 c0 c1
            have H4 := Lib.hid hS
            clear hS
            obtain ⟨a0, a1⟩ := H4.out.at hlt
            obtain ⟨b0, b1⟩ := H4.out.at hlj
            go_wp2_with fail
            refine (keyUp_any (at3 x y z i) w.heap.size w4 ((HA.out i).below H4.out.below (Nat.le_refl _)) H4.out.below.size).mono ?_
            rintro e w5 ⟨rfl, hb⟩
            have Hw5 := Lib.hid (H4.out.on hb)
            clear hb a0 a1 b0 b1
            simp only [HM.out.1, if_true]
            obtain ⟨a0, a1⟩ := Hw5.out.at hlt
            obtain ⟨b0, b1⟩ := Hw5.out.at hlj
            go_wp2_with fail
            refine (keyUp_any (at3 x y z j) w.heap.size w5 ((HA.out j).below Hw5.out.below (Nat.le_refl _)) Hw5.out.below.size).mono ?_
            rintro e w6 ⟨rfl, hb⟩
            have Hw6 := Lib.hid (Hw5.out.on hb)
            clear hb a0 a1 b0 b1
            simp only [HM.out.2, if_true]
            have hK : ∀ W', Below w6.heap.size w6 W' → (W'.cell? ⟨g, i * 2, none⟩ = some (.slice (at3 x y z i).A (at3 x y z i).n (at3 x y z i).c) ∧ W'.cell? ⟨g, i * 2 + 1, none⟩ = some (.slice (at3 x y z i).D (at3 x y z i).m (at3 x y z i).d) ∧ W'.cell? ⟨g, j * 2, none⟩ = some (.slice (at3 x y z j).A (at3 x y z j).n (at3 x y z j).c) ∧ W'.cell? ⟨g, j * 2 + 1, none⟩ = some (.slice (at3 x y z j).D (at3 x y z j).m (at3 x y z j).d) ∧ W'.cell? ⟨g + 2, i * 3 + j, none⟩ = some (curV W' ⟨g + 2, i * 3 + j, none⟩) ∧ W'.frozen? ⟨g + 2, i * 3 + j, none⟩ = false) := fun W' hb => by
              have hS := Hw6.out.on hb
              obtain ⟨k1, k2⟩ := hS.at hlt
              obtain ⟨k3, k4⟩ := hS.at hlj
              exact ⟨k1, k2, k3, k4, curV_of ((hS.bf.cell _).trans (by rw [List.getElem?_toArray]; exact fnl_at (by omega))), hS.bf.frozen _⟩
            have hKS : ∀ W' v, Below w6.heap.size w6 W' → ((W'.setCell ⟨g + 2, i * 3 + j, none⟩ (.int .i64 v)).cell? ⟨g, i * 2, none⟩ = some (.slice (at3 x y z i).A (at3 x y z i).n (at3 x y z i).c) ∧ (W'.setCell ⟨g + 2, i * 3 + j, none⟩ (.int .i64 v)).cell? ⟨g, i * 2 + 1, none⟩ = some (.slice (at3 x y z i).D (at3 x y z i).m (at3 x y z i).d) ∧ (W'.setCell ⟨g + 2, i * 3 + j, none⟩ (.int .i64 v)).cell? ⟨g, j * 2, none⟩ = some (.slice (at3 x y z j).A (at3 x y z j).n (at3 x y z j).c) ∧ (W'.setCell ⟨g + 2, i * 3 + j, none⟩ (.int .i64 v)).cell? ⟨g, j * 2 + 1, none⟩ = some (.slice (at3 x y z j).D (at3 x y z j).m (at3 x y z j).d) ∧ (W'.setCell ⟨g + 2, i * 3 + j, none⟩ (.int .i64 v)).cell? ⟨g + 2, i * 3 + j, none⟩ = some (curV (W'.setCell ⟨g + 2, i * 3 + j, none⟩ (.int .i64 v)) ⟨g + 2, i * 3 + j, none⟩) ∧ (W'.setCell ⟨g + 2, i * 3 + j, none⟩ (.int .i64 v)).frozen? ⟨g + 2, i * 3 + j, none⟩ = false) := fun W' v hb => by
              have hS := (Hw6.out.on hb).sfar (i * 3 + j) v
              obtain ⟨k1, k2⟩ := hS.at hlt
              obtain ⟨k3, k4⟩ := hS.at hlj
              exact ⟨k1, k2, k3, k4, curV_of ((hS.bf.cell _).trans (by rw [List.getElem?_toArray]; exact fnl_at (by omega))), hS.bf.frozen _⟩
            obtain ⟨a0, a1, b0, b1, c0, c1⟩ := hK w6 (Below.refl _ _)
            have HK := Lib.hid hK
            have HKS := Lib.hid hKS
            clear hK hKS
            have hBr : w.heap.size ≤ w6.heap.size := Hw6.out.below.size
            go_wp2
            go_region_held3 (fun W' => W'.cell? ⟨g, i * 2, none⟩ = some (.slice (at3 x y z i).A (at3 x y z i).n (at3 x y z i).c) ∧ W'.cell? ⟨g, i * 2 + 1, none⟩ = some (.slice (at3 x y z i).D (at3 x y z i).m (at3 x y z i).d) ∧ W'.cell? ⟨g, j * 2, none⟩ = some (.slice (at3 x y z j).A (at3 x y z j).n (at3 x y z j).c) ∧ W'.cell? ⟨g, j * 2 + 1, none⟩ = some (.slice (at3 x y z j).D (at3 x y z j).m (at3 x y z j).d) ∧ W'.cell? ⟨g + 2, i * 3 + j, none⟩ = some (curV W' ⟨g + 2, i * 3 + j, none⟩) ∧ W'.frozen? ⟨g + 2, i * 3 + j, none⟩ = false)
              ((first
                | (refine HKS.out _ _ ?_; repeat (first | exact HZ.out | exact Below.refl _ _ | (with_reducible refine bdrew ?_)))
                | (refine HK.out _ ?_; repeat (first | exact HZ.out | exact Below.refl _ _ | (with_reducible refine bdrew ?_)))))
              (first
                | (go_at_call 77
                   refine (near_ok (at3 x y z i) (at3 x y z j) w.heap.size _ ((HA.out i).below (Hw6.out.below.trans (Below.mono (by repeat (first | exact HZ.out | exact Below.refl _ _ | (with_reducible refine bdrew ?_))) hBr)) (Nat.le_refl _)) ((HA.out j).below (Hw6.out.below.trans (Below.mono (by repeat (first | exact HZ.out | exact Below.refl _ _ | (with_reducible refine bdrew ?_))) hBr)) (Nat.le_refl _)) (by first | exact hBr | exact Nat.le_trans hBr HZ.out.size) HM.out).mono ?_
                   rintro e wz ⟨rfl, hb⟩
                   have HZ : Hid (Below w6.heap.size w6 wz) := Lib.hid (by first | exact HZ.out.trans (hb.mono HZ.out.size) | exact Below.trans (by repeat (first | exact HZ.out | exact Below.refl _ _ | (with_reducible refine bdrew ?_))) (hb.mono (by first | exact Nat.le_refl _ | exact HZ.out.size)))
                   clear hb))
            refine exit_abs (IoSt w g x y z (onN x y z (i * 3 + j + 1)) (faN x y z (i * 3 + j + 1))) ?p21 ?_
            case p21 =>
              have h := (Hw6.out.on HZ.out).sfar (i * 3 + j) (farS (at3 x y z i) (at3 x y z j))
              rw [faN_step (fa_at hlj).symm] at h
              exact h
            intro w7 hS
            clear HZ HK HKS hBr a0 a1 b0 b1 c0 c1
            have hfi := form_of (show mayF (at3 x y z i).l (at3 x y z i).ss = 0 by have := HM.out.1; unfold mayB at this; exact eq_of_beq this)
            have hfj := form_of (show mayF (at3 x y z j).l (at3 x y z j).ss = 0 by have := HM.out.2; unfold mayB at this; exact eq_of_beq this)
            have o0 : w7.cell? ⟨g + 1, i * 3 + j, none⟩ = some (.bool (decide (tailF (at3 x y z i).l (at3 x y z i).ss = tailF (at3 x y z j).l (at3 x y z j).ss))) := by
              rw [hS.bo.cell, List.getElem?_toArray, fnb_at (by omega)]
              unfold onN
              rw [if_pos (by omega), on_at hlj]
            have f0 : w7.cell? ⟨g + 1 + 1, i * 3 + j, none⟩ = some (.int .i64 (farS (at3 x y z i) (at3 x y z j))) := by
              rw [show g + 1 + 1 = g + 2 from rfl, hS.bf.cell, List.getElem?_toArray, fnl_at (by omega)]
              unfold faN
              rw [if_pos (by omega), fa_at hlj]
            have q1 := key_beq hfi hfj
            have q2 := far_beq hfi hfj
            have H7 := Lib.hid hS
            clear hS hfi hfj
            generalize decide (tailF (at3 x y z i).l (at3 x y z i).ss = tailF (at3 x y z j).l (at3 x y z j).ss) = b at *
            generalize farS (at3 x y z i) (at3 x y z j) = d at *
            generalize bts (texts (tailF (at3 x y z i).l (at3 x y z i).ss)) = k1 at *
            generalize bts (texts (tailF (at3 x y z j).l (at3 x y z j).ss)) = k2 at *
            have q4 : (b != b) = false := by simp
            go_wp2
            go_quiet (fail)
            go_wp2
            go_roundw
            case rel => exact ⟨j + 1, by omega, by go_num, Lib.hid ⟨H7.out.on (Below.drewNB (Below.refl _ _) _), HQ.out.2.1, fun a ha => by
              rcases Nat.lt_or_ge a j with h | h
              · exact HQ.out.2.2 a h
              · have : a = j := by omega
                subst this
                exact HM.out.2⟩⟩
            case measure => simp [intOf]; omega
        · have hj3 : j = 3 := by omega
          subst hj3
          have hall : ∀ a, mayB (at3 x y z a) = true := fun a => by
            by_cases h : a < 3
            · exact HQ.out.2.2 a h
            · have e : at3 x y z a = at3 x y z 2 := by unfold at3; rw [if_neg (by omega), if_neg (by omega), if_neg (by decide), if_neg (by decide)]
              rw [e]
              exact HQ.out.2.2 2 (by omega)
          have HAL := Lib.hid hall
          clear hall
          obtain ⟨a0, a1⟩ := HQ.out.1.at hlt
          have hks : kindF (at3 x y z i).l (at3 x y z i).l (tailF (at3 x y z i).l (at3 x y z i).ss) (tailF (at3 x y z i).l (at3 x y z i).ss) (headF (at3 x y z i).l (at3 x y z i).ss) (headF (at3 x y z i).l (at3 x y z i).ss) = 5 := kind_self _ _ _
          have HKS := Lib.hid hks
          have hBr : w.heap.size ≤ wr.heap.size := HQ.out.1.below.size
          clear hks
          have wf : ∀ k, Fence.wide.fn k := fun _ => trivial
          have wd : Fence.wide.depth = none := rfl
          go_wp2
          have Xa0 := Bel.cell a0
          have Xa1 := Bel.cell a1
          clear a0 a1
          refine wp_bel (by kernel_rfl) (by kernel_rfl) ?_
          repeat (gi_big_quiet_step (fail))
          gi_big_quiet_want
          gi_big_quiet_op
          refine ⟨.tuple #[.int .i64 5, .int .i64 0], fun u => ?_, ?_⟩
          · exact callsIn_wide.2 ((kind_ok (at3 x y z i) (at3 x y z i) w.heap.size u.1 ((HA.out i).below (HQ.out.1.below.trans (u.2.mono hBr)) (Nat.le_refl _)) ((HA.out i).below (HQ.out.1.below.trans (u.2.mono hBr)) (Nat.le_refl _)) (Nat.le_trans hBr u.2.size) ⟨HAL.out i, HAL.out i⟩).mono (fun e w' h => ⟨by rw [← HKS.out]; exact h.1, u.next h.2⟩))
          go_big_quiet_on
          repeat (gi_big_quiet_step (fail))
          refine wpQuietIn_nil ?_
          intro _ hw'
          obtain ⟨uW, hw''⟩ := hw'
          subst hw''
          have HZ := Lib.hid (HQ.out.1.on uW.2)
          generalize uW.1 = wz at *
          clear Xa0 Xa1 HQ
          go_wp2
          go_roundw
          case rel => exact ⟨i + 1, by omega, by go_num, Lib.hid ⟨by rw [show (i + 1) * 3 = i * 3 + 3 by omega]; exact HZ.out, fun _ => HAL.out⟩⟩
          case measure => simp [intOf]; omega
    · have hi3 : i = 3 := by omega
      subst hi3
      have HAL := Lib.hid (HR.out.2 (by omega))
      have HS := Lib.hid HR.out.1
      clear HR
      go_wp2
      go_loopw [24, 25, 26] (fun v24 _ _ wr => ∃ i : Nat, i ≤ 3 ∧ v24 = .int .i64 i ∧ Hid (IoSt w g x y z (onN x y z 9) (faN x y z 9) wr)) (fun v _ _ _ => 3 - (intOf v).toNat)
      case atStart => exact ⟨0, by omega, rfl, HS⟩
      case round =>
        obtain ⟨i, hi, rfl, HR⟩ := hrel
        clear HS
        by_cases hlt : i < 3
        · have i1 : (0 : Int) ≤ (i : Int) := by omega
          have i2 : (i : Int) < 3 := by omega
          have d1 : decide ((i : Int) < 3) = true := by simp; omega
          go_wp2
          go_loopw [25, 26] (fun v25 _ wr => ∃ j : Nat, j ≤ 3 ∧ v25 = .int .i64 j ∧ Hid (IoSt w g x y z (onN x y z 9) (faN x y z 9) wr)) (fun v _ _ => 3 - (intOf v).toNat)
          case atStart => exact ⟨0, by omega, rfl, HR⟩
          case round =>
            obtain ⟨j, hj, rfl, HQ⟩ := hrel
            by_cases hlj : j < 3
            · have j1 : (0 : Int) ≤ (j : Int) := by omega
              have j2 : (j : Int) < 3 := by omega
              have dj : decide ((j : Int) < 3) = true := by simp; omega
              clear HR
              go_wp2
              go_loopw [26] (fun v26 wr => ∃ k : Nat, k ≤ 3 ∧ v26 = .int .i64 k ∧ Hid (IoSt w g x y z (onN x y z 9) (faN x y z 9) wr)) (fun v _ => 3 - (intOf v).toNat)
              case atStart => exact ⟨0, by omega, rfl, HQ⟩
              case round =>
                obtain ⟨k, hk, rfl, HK⟩ := hrel
                by_cases hlk : k < 3
                · have k1 : (0 : Int) ≤ (k : Int) := by omega
                  have k2 : (k : Int) < 3 := by omega
                  have dk : decide ((k : Int) < 3) = true := by simp; omega
                  clear HQ
                  have o1 := io_on HK.out hlt hlj
                  have o2 := io_on HK.out hlj hlk
                  have o3 := io_on HK.out hlt hlk
                  have o4 := io_on HK.out hlj hlt
                  have f1 := io_fa HK.out hlt hlk
                  have f2 := io_fa HK.out hlt hlj
                  have f3 := io_fa HK.out hlj hlk
                  have hfo : ∀ a, Form (at3 x y z a).l (at3 x y z a).ss := fun a => form_of (by have := HAL.out a; unfold mayB at this; exact eq_of_beq this)
                  have t1 := far_tri' (at3 x y z i) (at3 x y z j) (at3 x y z k)
                  have h1 := far_hi' (hfo i) (hfo j)
                  have h2 := far_hi' (hfo j) (hfo k)
                  have h3 := far_nn' (at3 x y z i) (at3 x y z j)
                  have h4 := far_nn' (at3 x y z j) (at3 x y z k)
                  clear hfo
                  have e4 : decide (tailF (at3 x y z j).l (at3 x y z j).ss = tailF (at3 x y z i).l (at3 x y z i).ss) = decide (tailF (at3 x y z i).l (at3 x y z i).ss = tailF (at3 x y z j).l (at3 x y z j).ss) := decide_eq_decide.2 ⟨Eq.symm, Eq.symm⟩
                  rw [e4] at o4
                  have e3 : (decide (tailF (at3 x y z i).l (at3 x y z i).ss = tailF (at3 x y z j).l (at3 x y z j).ss) = true) → (decide (tailF (at3 x y z j).l (at3 x y z j).ss = tailF (at3 x y z k).l (at3 x y z k).ss) = true) → (decide (tailF (at3 x y z i).l (at3 x y z i).ss = tailF (at3 x y z k).l (at3 x y z k).ss) = true) := fun a b => decide_eq_true ((of_decide_eq_true a).trans (of_decide_eq_true b))
                  generalize decide (tailF (at3 x y z i).l (at3 x y z i).ss = tailF (at3 x y z j).l (at3 x y z j).ss) = b1 at *
                  generalize decide (tailF (at3 x y z j).l (at3 x y z j).ss = tailF (at3 x y z k).l (at3 x y z k).ss) = b2 at *
                  generalize decide (tailF (at3 x y z i).l (at3 x y z i).ss = tailF (at3 x y z k).l (at3 x y z k).ss) = b3 at *
                  generalize farS (at3 x y z i) (at3 x y z k) = p1 at *
                  generalize farS (at3 x y z i) (at3 x y z j) = p2 at *
                  generalize farS (at3 x y z j) (at3 x y z k) = p3 at *
                  have dw : IntKind.i64.wrap (p2 + p3) = p2 + p3 := IntWalk.i64_in _ (by omega)
                  have dg : decide (p2 + p3 < p1) = false := by simp; omega
                  have n1 : ∀ b : Bool, (b != b) = false := fun b => by simp
                  have ways : (b1 = false) ∨ (b1 = true ∧ b2 = false) ∨ (b1 = true ∧ b2 = true ∧ b3 = true) := by
                    cases b1 with
                    | false => exact .inl rfl
                    | true =>
                      cases b2 with
                      | false => exact .inr (.inl ⟨rfl, rfl⟩)
                      | true => exact .inr (.inr ⟨rfl, rfl, e3 rfl rfl⟩)
                  clear e3 e4 t1
                  rcases ways with rfl | ⟨rfl, rfl⟩ | ⟨rfl, rfl, rfl⟩
                  all_goals
                    go_wp2
                    go_quiet (fail)
                    go_wp2
                    go_roundw
                    case rel => exact ⟨k + 1, by omega, by go_num, Lib.hid (HK.out.on (Below.drewNB (Below.refl _ _) _))⟩
                    case measure => simp [intOf]; omega
                · have hk3 : k = 3 := by omega
                  subst hk3
                  go_wp2
                  go_roundw
                  case rel => exact ⟨j + 1, by omega, by go_num, HK⟩
                  case measure => simp [intOf]; omega
            · have hj3 : j = 3 := by omega
              subst hj3
              go_wp2
              go_roundw
              case rel => exact ⟨i + 1, by omega, by go_num, HQ⟩
              case measure => simp [intOf]; omega
        · have hi3 : i = 3 := by omega
          subst hi3
          go_wp2
          go_ret
          exact ⟨rfl, HR.out.below⟩
end Go.Proofs.Ytogofchpocoebaa
