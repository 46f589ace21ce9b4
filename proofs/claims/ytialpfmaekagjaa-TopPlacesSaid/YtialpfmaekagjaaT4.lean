/- A region that draws its order: reads and calls that make memory, then stores: one walk. -/
import Derived.Test.YtialpfmaekagjaaMem
import Derived.StillTail
import Derived.BigQuiet
namespace Go.Proofs.Ytialpfmaekagjaa
open Go.RowKit

section
variable {P : Program} {ops : Array Oper} {md : Region.Mode} {C : World → Prop} {Q : Exit → Act → World → Prop} {st late : Nat → Bool}

/-- does j wait for i, by at most so many steps? -/
def waitsT (md : Region.Mode) (ops : Array Oper) : Nat → Nat → Nat → Bool
  | 0, _, _ => false
  | f + 1, j, i => Region.waitsFor md ops j i || (List.range ops.size).any fun m => Region.waitsFor md ops j m && waitsT md ops f m i
theorem waits_one {listed : Array Bool} (inv : HeadInv md ops ops.size listed) {j i : Nat} (h : Region.waitsFor md ops j i = true) (hj : listed.getD j false = true ∨ j ∈ Region.ready md ops listed) : listed.getD i false = true := by
  obtain ⟨oj, hoj, e, he, hb, hon⟩ := Region.waitsFor_spec h
  rw [← hon]
  rcases hj with hj | hj
  · exact inv.closed j oj hoj hj e he hb
  · obtain ⟨_, o', ho', hall⟩ := mem_ready.1 hj
    obtain rfl : oj = o' := Option.some.inj (hoj.symm.trans ho')
    exact hall e he hb
theorem waits_listed {listed : Array Bool} (inv : HeadInv md ops ops.size listed) : ∀ (f j i : Nat), waitsT md ops f j i = true → (listed.getD j false = true ∨ j ∈ Region.ready md ops listed) → listed.getD i false = true := by
  intro f
  induction f with
  | zero => intro j i h; cases h
  | succ f ih =>
    intro j i h hj
    unfold waitsT at h
    rw [Bool.or_eq_true] at h
    rcases h with h | h
    · exact waits_one inv h hj
    · obtain ⟨m, _, hm⟩ := List.any_eq_true.1 h
      rw [Bool.and_eq_true] at hm
      exact ih m i hm.2 (.inl (waits_one inv hm.1 hj))

/-- whatever order is picked: quiet operations in a class of worlds, till a store comes -/
def wpAnyM (P : Program) (md : Region.Mode) (ops : Array Oper) (C : World → Prop) (Q : Exit → Act → World → Prop) (st : Nat → Bool) : Nat → Array Bool → Act → Prop
  | 0, listed, a => Region.ready md ops listed = [] ∧ ∀ w, C w → Q .normal a w
  | fuel + 1, listed, a =>
    (Region.ready md ops listed = [] → ∀ w, C w → Q .normal a w) ∧
    ∀ i ∈ Region.ready md ops listed, if st i = true then ∀ w, C w → wpOp P ops Q i (wpAny P md ops Q fuel (listed.setIfInBounds i true)) a w else qOp P ops C i (wpAnyM P md ops C Q st fuel (listed.setIfInBounds i true)) a
theorem wpAny_of_M : ∀ (fuel : Nat) (listed : Array Bool) (a : Act) (w : World), C w → wpAnyM P md ops C Q st fuel listed a → wpAny P md ops Q fuel listed a w
  | 0, _, _, w, hw, h => ⟨h.1, h.2 w hw⟩
  | fuel + 1, listed, a, w, hw, h => ⟨fun h0 => h.1 h0 w hw, fun i hi => by
      have h2 := h.2 i hi
      split at h2
      · exact h2 w hw
      · exact wpOp_of_qOp hw (fun a' w' hw' hk => wpAny_of_M fuel _ a' w' hw' hk) h2⟩
theorem qOp_keep {j : Nat} {oj : Oper} (hj : ops[j]? = some oj) {R K : Act → Prop} {a : Act} (hR : ∀ u, R (a.put oj.dst u)) (h : qOp P ops C j K a) : qOp P ops C j (fun a' => R a' ∧ K a') a := by
  unfold qOp at h ⊢
  simp only [hj] at h ⊢
  split
  · rename_i hw
    rw [if_pos hw] at h
    obtain ⟨u, hu, hk⟩ := h
    exact ⟨u, hu, hR u, hk⟩
  · rename_i hw
    rw [if_neg hw] at h
    exact ⟨hR _, h⟩
theorem wpAnyM_first {i f : Nat} {oi : Oper} {v : Value} (hi : ops[i]? = some oi) (hsel : ∀ (j : Nat) (o : Oper) cs b, ops[j]? = some o → o.op ≠ .select cs b) (hst : st i = false)
    (hQ : ∀ c a w, Q (.panic c) (a.put oi.dst v) w → Q (.panic c) a w) :
    ∀ (fuel : Nat) (listed : Array Bool) (a : Act), HeadInv md ops ops.size listed →
      (∀ j oj, ops[j]? = some oj → j ≠ i → listed.getD j true = false → (∀ e ∈ oj.after, Region.binds md e = true → e.on ≠ i) → oi.apart ops oj = true) →
      i ∈ Region.ready md ops listed → YieldsIn P ops C oi v a → (Yields P ops oi v a ∨ ∀ j, j < ops.size → st j = true → waitsT md ops f j i = true) →
      wpAnyM P md ops C Q st fuel (listed.setIfInBounds i true) (a.put oi.dst v) → wpAnyM P md ops C Q st (fuel + 1) listed a := by
  intro fuel
  induction fuel with
  | zero =>
    intro listed a _ _ hr hy _ H
    refine ⟨fun h => (by rw [h] at hr; cases hr), fun j hj => ?_⟩
    by_cases hji : j = i
    · subst hji
      rw [if_neg (by rw [hst]; exact Bool.false_ne_true)]
      exact hy.qOp hi H
    · have := ready_mono hj hji
      rw [H.1] at this
      cases this
  | succ fuel ih =>
    intro listed a inv hfree hr hy hp H
    refine ⟨fun h => (by rw [h] at hr; cases hr), fun j hj => ?_⟩
    by_cases hji : j = i
    · subst hji
      rw [if_neg (by rw [hst]; exact Bool.false_ne_true)]
      exact hy.qOp hi H
    · have h1 := H.2 j (ready_mono hj hji)
      obtain ⟨hjun, oj, hoj, hall⟩ := mem_ready.1 hj
      have hjlt : j < ops.size := (Array.getElem?_eq_some_iff.1 hoj).1
      have hiun := (mem_ready.1 hr).1
      have hnot : ∀ e ∈ oj.after, Region.binds md e = true → e.on ≠ i := fun e he hb heq => by
        have h1 := hall e he hb
        rw [heq, getD_both hiun] at h1
        cases h1
      have hap := hfree j oj hoj hji hjun hnot
      obtain ⟨a1, a2, a3⟩ := Oper.apart_spec hap
      have hfree' : ∀ k ok, ops[k]? = some ok → k ≠ i → (listed.setIfInBounds j true).getD k true = false →
          (∀ e ∈ ok.after, Region.binds md e = true → e.on ≠ i) → oi.apart ops ok = true := fun k ok hk hki hun hno => by
        refine hfree k ok hk hki ?_ hno
        by_cases hjk : j = k
        · subst hjk; exact hjun
        · rw [getD_set_ne true hjk] at hun; exact hun
      by_cases hsj : st j = true
      · rw [if_pos hsj] at h1 ⊢
        intro w hw
        have hpure : Yields P ops oi v a := by
          rcases hp with h | h
          · exact h
          · have h2 := waits_listed inv f j i (h j hjlt hsj) (.inr hj)
            rw [getD_both hiun] at h2
            cases h2
        refine wpOp_mono (fun a' w' h3 => wpAny_first hi hsel hQ fuel (listed.setIfInBounds j true) a' w' hfree' (ready_mono hr (Ne.symm hji)) h3.1 ?_) (wpOp_put hoj hap (fun cs b => hsel i oi cs b hi) (fun cs b => hsel j oj cs b hoj) hQ hpure (h1 w hw))
        rw [Array.setIfInBounds_comm _ _ hji]
        exact h3.2
      · rw [if_neg hsj] at h1 ⊢
        have h2 := qOp_put hoj hap (fun cs b => hsel i oi cs b hi) (fun cs b => hsel j oj cs b hoj) hy h1
        have h2 := qOp_keep (R := fun a' => Yields P ops oi v a' ∨ ∀ j, j < ops.size → st j = true → waitsT md ops f j i = true) hoj (fun u => hp.imp (fun h => h.of_same (execOp_put oi (fun cs b => hsel i oi cs b hi) a oj.dst u a3) (wanted_put oi a oj.dst u a3)) id) h2
        refine qOp_mono (fun a' h3 => ih (listed.setIfInBounds j true) a' (inv.set hj hjlt) hfree' (ready_mono hr (Ne.symm hji)) h3.2.1 h3.1 ?_) h2
        rw [Array.setIfInBounds_comm _ _ hji]
        exact h3.2.2

def isBin (o : Oper) : Bool := match o.op with | .binOp .. => true | _ => false
theorem yields_bin {o : Oper} {v : Value} {a : Act} (hb : isBin o = true) (h : YieldsIn P ops (fun _ => True) o v a) : Yields P ops o v a := by
  rcases h with ⟨hw, h⟩ | h
  · refine .inl ⟨hw, fun w => ?_⟩
    have h1 := h w trivial
    unfold Oper.quietAt at h1
    cases hr : (execOp a.eval o).run P w with
    | halt x w' => rw [hr] at h1; exact h1.elim
    | ok x w' =>
      rw [hr] at h1
      cases x with
      | value u => rw [h1.1, h1.2]
      | _ =>
        exfalso
        unfold isBin at hb
        cases ho : o.op with
        | binOp op t x y r =>
          unfold execOp at hr
          rw [ho] at hr
          dsimp only at hr
          revert hr
          generalize (do eqGuard op t x y (a.eval x) (a.eval y); binOp op t (a.eval x) (a.eval y) : Sem Value) = m
          intro hr
          rw [Sem.run_bind] at hr
          cases hm : m.run P w with
          | ok u w2 => rw [hm] at hr; cases hr
          | halt u w2 => rw [hm] at hr; cases hr
        | _ => rw [ho] at hb; cases hb
  · exact .inr h
theorem yields_in {o : Oper} {v : Value} {a : Act} (h : Yields P ops o v a) : YieldsIn P ops C o v a :=
  h.imp (fun ⟨hw, hv⟩ => ⟨hw, fun w _ => by unfold Oper.quietAt; rw [hv w]; exact ⟨rfl, rfl⟩⟩) id

/-- the walk of the text's order: those that may come late are walked in every world -/
def wpMix (P : Program) (ops : Array Oper) (C : World → Prop) (late : Nat → Bool) (Qn : Act → Prop) : List Oper → Nat → Act → Prop
  | [], _, a => Qn a
  | o :: rest, k, a => if Region.wanted o (yielded ops a.tmps) then o.quiet P a (if late k = true then fun _ => True else C) (wpMix P ops C late Qn rest (k + 1)) else wpMix P ops C late Qn rest (k + 1) (a.put o.dst undef)
theorem wpMix_seg {Qn : Act → Prop} {rest : List Oper} : ∀ (l : List Oper) (k : Nat) (a : Act), (∀ m, m < l.length → late (k + m) = false) → wpQuiet P ops C (fun a' => wpMix P ops C late Qn rest (k + l.length) a') l a → wpMix P ops C late Qn (l ++ rest) k a
  | [], k, a, _, h => h
  | o :: l, k, a, hl, h => by
    have h0 : late k = false := hl 0 (by simp)
    have hl' : ∀ m, m < l.length → late (k + 1 + m) = false := fun m hm => by have := hl (m + 1) (by simp; omega); rw [show k + 1 + m = k + (m + 1) by omega]; exact this
    have ih := fun a => wpMix_seg (rest := rest) (Qn := Qn) l (k + 1) a hl'
    simp only [List.length_cons, show k + (l.length + 1) = k + 1 + l.length by omega] at h
    simp only [List.cons_append, wpMix, h0, Bool.false_eq_true, if_false]
    unfold wpQuiet at h
    split
    · rename_i hw
      rw [if_pos hw] at h
      exact Oper.quiet_mono (fun a h => ih a h) h
    · rename_i hw
      rw [if_neg hw] at h
      exact ih _ h
theorem wpQuiet_mono {C : World → Prop} {K K' : Act → Prop} (h : ∀ a, K a → K' a) : ∀ (l : List Oper) (a : Act), wpQuiet P ops C K l a → wpQuiet P ops C K' l a
  | [], _, hh => h _ hh
  | o :: l, a, hh => by
    unfold wpQuiet at hh ⊢
    split
    · rename_i hw
      rw [if_pos hw] at hh
      exact Oper.quiet_mono (fun a h' => wpQuiet_mono h l a h') hh
    · rename_i hw
      rw [if_neg hw] at hh
      exact wpQuiet_mono h l _ hh
theorem wpMix_late {Qn : Act → Prop} {rest : List Oper} {o : Oper} {k : Nat} {a : Act} (hk : late k = true) (h : wpQuiet P ops (fun _ => True) (fun a' => wpMix P ops C late Qn rest (k + 1) a') [o] a) : wpMix P ops C late Qn (o :: rest) k a := by
  simp only [wpMix, hk, if_true]
  exact h

/-- the checks: in the text's order each may come, free of the others; the stores wait for each, or it is arithmetic -/
def mixB (md : Region.Mode) (ops : Array Oper) (st late : Nat → Bool) (f g : Nat) : Nat → Nat → Array Bool → Bool
  | 0, k, listed => Region.seqB md ops g k listed && (Region.ready md ops listed).all st && decide (0 < g)
  | m + 1, k, listed => (Region.ready md ops listed).contains k && Region.free md ops listed k && !st k &&
      (if late k then (match ops[k]? with | some o => isBin o | none => false) else (List.range ops.size).all fun j => !st j || waitsT md ops f j k) && mixB md ops st late f g m (k + 1) (listed.setIfInBounds k true)
theorem wpAnyM_lex {f g : Nat} {Lq : Act → Prop} (hs : Region.noSelect ops = true) (hQ : ∀ c a d v w, Q (.panic c) (Act.put a d v) w → Q (.panic c) a w)
    (hend : ∀ k listed a, Region.seqB md ops g k listed = true → Lq a → k + g = ops.size → ∀ w, C w → wpAny P md ops Q g listed a w) :
    ∀ (l : List Oper) (k : Nat) (listed : Array Bool) (a : Act), (∀ j, j < l.length → l[j]? = ops[k + j]?) → k + l.length + g = ops.size → HeadInv md ops ops.size listed → mixB md ops st late f g l.length k listed = true →
      wpMix P ops C late Lq l k a → wpAnyM P md ops C Q st (l.length + g) listed a
  | [], k, listed, a, _, hk, _, hB, h => by
    simp only [List.length_nil, mixB, Bool.and_eq_true, decide_eq_true_eq] at hB
    obtain ⟨⟨hB1, hB2⟩, hg⟩ := hB
    obtain ⟨g', rfl⟩ : ∃ g', g = g' + 1 := ⟨g - 1, by omega⟩
    rw [List.length_nil, Nat.zero_add]
    have hany := hend k listed a hB1 h (by simpa using hk)
    refine ⟨fun h0 w hw => (hany w hw).1 h0, fun i hi => ?_⟩
    rw [if_pos (List.all_eq_true.1 hB2 i hi)]
    exact fun w hw => (hany w hw).2 i hi
  | o :: l, k, listed, a, hl, hk, inv, hB, h => by
    have h0 : ops[k]? = some o := by simpa using (hl 0 (by simp)).symm
    simp only [List.length_cons, mixB, Bool.and_eq_true] at hB
    obtain ⟨⟨⟨⟨hr, hf⟩, hst⟩, hw⟩, hB'⟩ := hB
    have hst' : st k = false := by simpa using hst
    have hr' : k ∈ Region.ready md ops listed := by simpa using hr
    have hkn : k < ops.size := (Array.getElem?_eq_some_iff.1 h0).1
    rw [List.length_cons, show l.length + 1 + g = (l.length + g) + 1 by omega]
    have hgo : ∀ v, YieldsIn P ops C o v a → (Yields P ops o v a ∨ ∀ j, j < ops.size → st j = true → waitsT md ops f j k = true) → wpMix P ops C late Lq l (k + 1) (a.put o.dst v) → wpAnyM P md ops C Q st (l.length + g + 1) listed a := fun v hy hp hK =>
      wpAnyM_first h0 (Region.noSelect_spec hs) hst' (fun c a w h => hQ c a _ _ w h) (l.length + g) listed a inv (Region.free_spec h0 hf) hr' hy hp
        (wpAnyM_lex hs hQ hend l (k + 1) _ _ (fun j hj => by have := hl (j + 1) (by simp; omega); simpa [Nat.add_assoc, Nat.add_comm 1 j] using this) (by simp only [List.length_cons] at hk; omega) (inv.set hr' hkn) hB' hK)
    by_cases hlate : late k = true
    · rw [if_pos hlate, h0] at hw
      have hq : qOp P ops (fun _ => True) k (wpMix P ops C late Lq l (k + 1)) a := by
        unfold qOp
        simp only [h0]
        simp only [wpMix, hlate, if_true] at h
        exact h
      obtain ⟨v, hy, hK⟩ := yieldsIn_of_qOp h0 hq
      have hy' := yields_bin hw hy
      exact hgo v (yields_in hy') (.inl hy') hK
    · rw [if_neg hlate] at hw
      have hq : qOp P ops C k (wpMix P ops C late Lq l (k + 1)) a := by
        unfold qOp
        simp only [h0]
        simp only [wpMix, hlate] at h
        exact h
      obtain ⟨v, hy, hK⟩ := yieldsIn_of_qOp h0 hq
      refine hgo v hy (.inr fun j hj hsj => ?_) hK
      have := List.all_eq_true.1 hw j (List.mem_range.2 hj)
      simpa [hsj] using this

theorem seg_split {α : Type} (l : List α) {a b c : Nat} (h1 : a ≤ b) (h2 : b ≤ c) (h3 : c ≤ l.length) : (l.take c).drop a = (l.take b).drop a ++ (l.take c).drop b := by
  have h : l.take c = l.take b ++ (l.take c).drop b := by
    conv => lhs; rw [← List.take_append_drop b (l.take c)]
    rw [List.take_take, Nat.min_eq_left h2]
  conv => lhs; rw [h]
  rw [List.drop_append_of_le_length (by simp; omega)]
theorem seg_one {α : Type} (l : List α) {a : Nat} (h : a < l.length) : (l.take (a + 1)).drop a = [l[a]] := by
  rw [List.take_succ_eq_append_getElem h, List.drop_append_of_le_length (by simp; omega)]
  simp
def isStore (o : Oper) : Bool := match o.op with | .store .. => true | _ => false
def storeAt (l : List Oper) (i : Nat) : Bool := match l[i]? with | some o => isStore o | none => false
def belB (l : List Oper) (n1 n2 n f : Nat) : Bool := Region.noSelect l.toArray && decide (n1 < n2) && decide (n2 < n) && decide (n ≤ l.length) && mixB .any l.toArray (storeAt l) (fun k => k == n1 || k == n2) f (l.length - n) n 0 (Array.replicate l.toArray.size false)
/-- a post that asks that nothing panics -/
def noP (Q : Exit → Act → World → Prop) : Exit → Act → World → Prop
  | .panic _, _, _ => False
  | e, a, w => Q e a w
theorem noP_normal {a : Act} {w : World} (h : Q .normal a w) : noP Q .normal a w := h
theorem noP_imp : ∀ (e : Exit) (a : Act) (w : World), noP Q e a w → Q e a w := fun e a w h => by
  cases e <;> first | exact h | exact (h : False).elim
/-- a region that draws its order: n operations that read, or call what makes memory (n1 and n2: arithmetic that may come late), then stores -/
theorem wp_bel_stores {id : Nat} {a : Act} {w : World} {l : List Oper} (n1 n2 n f : Nat) (hm : P.follows .mixedOrders = true) (hB : belB l n1 n2 n f = true)
    (h : wpQuiet P l.toArray (fun w' => ∃ x : Bel w, w' = x.1) (fun a => wpQuiet P l.toArray (fun _ => True) (fun a => wpQuiet P l.toArray (fun w' => ∃ x : Bel w, w' = x.1) (fun a => wpQuiet P l.toArray (fun _ => True) (fun a => wpQuiet P l.toArray (fun w' => ∃ x : Bel w, w' = x.1) (fun a =>
      ∀ w', (∃ x : Bel w, w' = x.1) → wpList P l.toArray (noP Q) (l.drop n) a w') ((l.take n).drop (n2 + 1)) a) ((l.take (n2 + 1)).drop n2) a) ((l.take n2).drop (n1 + 1)) a) ((l.take (n1 + 1)).drop n1) a) (l.take n1) a) : (Code.region id l.toArray true).wp P Q a w := by
  simp only [belB, Bool.and_eq_true, decide_eq_true_eq] at hB
  obtain ⟨⟨⟨⟨hs, h12⟩, h2n⟩, hnl⟩, hB⟩ := hB
  have htl : (l.take n).length = n := by simp; omega
  have hmix : wpMix P l.toArray (fun w' => ∃ x : Bel w, w' = x.1) (fun k => k == n1 || k == n2) (fun a => ∀ w', (∃ x : Bel w, w' = x.1) → wpList P l.toArray (noP Q) (l.drop n) a w') (l.take n) 0 a := by
    have e : l.take n = l.take n1 ++ l[n1]'(by omega) :: ((l.take n2).drop (n1 + 1) ++ l[n2]'(by omega) :: ((l.take n).drop (n2 + 1) ++ [])) := by
      have := seg_split l (a := 0) (b := n1) (c := n) (by omega) (by omega) hnl
      rw [List.drop_zero, List.drop_zero] at this
      conv => lhs; rw [this, seg_split l (a := n1) (b := n1 + 1) (c := n) (by omega) (by omega) hnl, seg_one l (by omega), seg_split l (a := n1 + 1) (b := n2) (c := n) (by omega) (by omega) hnl, seg_split l (a := n2) (b := n2 + 1) (c := n) (by omega) (by omega) hnl, seg_one l (by omega)]
      simp only [List.append_nil, List.cons_append, List.nil_append]
    rw [seg_one l (by omega), seg_one l (by omega)] at h
    rw [e]
    have l1 : (l.take n1).length = n1 := by simp; omega
    have l2 : ((l.take n2).drop (n1 + 1)).length = n2 - (n1 + 1) := by simp; omega
    have l3 : ((l.take n).drop (n2 + 1)).length = n - (n2 + 1) := by simp; omega
    refine wpMix_seg _ _ _ (fun m hm => by rw [l1] at hm; simp; omega) ?_
    rw [l1, Nat.zero_add]
    refine wpQuiet_mono ?_ _ _ h
    intro a h
    refine wpMix_late (by simp) ?_
    refine wpQuiet_mono ?_ _ _ h
    intro a h
    refine wpMix_seg _ _ _ (fun m hm => by rw [l2] at hm; simp; omega) ?_
    rw [l2, show n1 + 1 + (n2 - (n1 + 1)) = n2 by omega]
    refine wpQuiet_mono ?_ _ _ h
    intro a h
    refine wpMix_late (by simp) ?_
    refine wpQuiet_mono ?_ _ _ h
    intro a h
    refine wpMix_seg _ _ _ (fun m hm => by rw [l3] at hm; simp; omega) ?_
    exact h
  refine Code.wp_mono noP_imp (wp_region_any hm ?_)
  have inv0 : HeadInv .any l.toArray l.toArray.size (Array.replicate l.toArray.size false) :=
    ⟨by simp, fun j oj _ hl => (by rw [getD_replicate_false] at hl; cases hl), fun t h1 h2 => by omega⟩
  have hM := wpAnyM_lex (f := f) (g := l.length - n) (Q := noP Q) (C := fun w' => ∃ x : Bel w, w' = x.1) (md := .any) (st := storeAt l) hs (fun _ _ _ _ _ h => h) (fun k listed a hseq hq hk w' hw' => by
      have hkn : k = n := by simp at hk; omega
      subst hkn
      have := wpAny_of_seq (md := .any) (Q' := noP Q) (l.drop k) k listed a w' (fun j => by simp [List.getElem?_drop]) (by simpa using hseq) (hq w' hw')
      simpa using this) (l.take n) 0 (Array.replicate l.toArray.size false) a (fun j hj => by rw [htl] at hj; simp [hj]) (by rw [htl]; simp; omega) inv0 (by rw [htl]; exact hB) hmix
  have := wpAny_of_M _ _ _ _ (Bel.drew w) hM
  rw [htl, show n + (l.length - n) = l.toArray.size by simp; omega] at this
  exact this
/-- a region that draws its order: reads, and calls of what makes memory -/
theorem wp_belP {id : Nat} {a : Act} {w : World} {l : List Oper} (hm : P.follows .mixedOrders = true) (hB : Region.lexB .any l.toArray = true)
    (h : wpQuiet P l.toArray (fun w' => ∃ x : Bel w, w' = x.1) (fun a' => ∀ w', (∃ x : Bel w, w' = x.1) → Q .normal a' w') l a) : (Code.region id l.toArray true).wp P Q a w :=
  wp_region_quiet (C := fun w' => ∃ x : Bel w, w' = x.1) hm hB (Bel.drew w) (by simpa using h)
end
end Go.Proofs.Ytialpfmaekagjaa
