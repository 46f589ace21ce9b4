/- Printed and read, read and printed; all phones of a text, where they stand (no program in sight).
   The phones of a text: where each begins and ends; what stands between (no program in sight). -/
import Derived.Test.YtogofchpocoebaaP1
import Derived.Test.YtogofchpocoebaaQ6
namespace Go.Proofs.Ytogofchpocoebaa

def StOk (l : List UInt8) (st : Ph × Nat) : Prop := st.2 = 0 ∨ (isF st.1 = true ∧ textP st.1 <+: l ∧ st.2 = (textP st.1).length)
theorem try_ok {l : List UInt8} {st : Ph × Nat} (p : Ph) (h : StOk l st) : StOk l (tryP l st p) := by
  unfold tryP
  split
  · rename_i hc
    simp only [Bool.and_eq_true, decide_eq_true_eq] at hc
    exact .inr ⟨hc.1.1, List.isPrefixOf_iff_prefix.1 hc.1.2, rfl⟩
  · exact h
theorem foldl_ok {α β : Type} (f : β → α → β) (P : β → Prop) (hf : ∀ b a, P b → P (f b a)) : ∀ (l : List α) (b : β), P b → P (l.foldl f b) := by
  intro l
  induction l with
  | nil => intro b h; exact h
  | cons a l ih => intro b h; exact ih _ (hf b a h)
/-- what is read is a phone whose text stands there -/
theorem next_ok {l : List UInt8} (h : (nextL l).2 ≠ 0) : isF (nextL l).1 = true ∧ textP (nextL l).1 <+: l ∧ (nextL l).2 = (textP (nextL l).1).length := by
  have : StOk l (bestL l) := foldl_ok _ (StOk l) (fun st x hs => foldl_ok _ (StOk l) (fun _ p hp => try_ok p hp) _ _ hs) _ _ (.inl rfl)
  rw [best_next] at this
  rcases this with h0 | h0
  · exact absurd h0 h
  · exact h0

/-- what may stand behind a phone's text, so that it is read as it is -/
def Tail (R : List UInt8) : Prop := longL.isPrefixOf R = false ∧ glideL.isPrefixOf R = false ∧ (105 :: glideL).isPrefixOf R = false ∧ (117 :: glideL).isPrefixOf R = false
theorem Tail.nil : Tail [] := ⟨rfl, rfl, rfl, rfl⟩
def encOk : List UInt8 → Bool
  | [a] => a != 203 && a != 204
  | [a, _] => a != 203 && a != 204 && a != 105 && a != 117
  | _ => false
theorem enc_all : (rowsL.all fun x => encOk (encL x.1)) = true := by decide +kernel
theorem tab_mem5 {r : Int} {t : Tr} (h : tabF r = some t) : (r, t) ∈ rowsL := by
  obtain ⟨a1, b1, e, _, _⟩ := rows_split h
  rw [e]; simp
theorem enc_head {r : Int} (h : (tabF r).isSome = true) : (∃ a, encL r = [a] ∧ a ≠ 203 ∧ a ≠ 204) ∨ ∃ a b, encL r = [a, b] ∧ a ≠ 203 ∧ a ≠ 204 ∧ a ≠ 105 ∧ a ≠ 117 := by
  obtain ⟨t, ht⟩ := Option.isSome_iff_exists.1 h
  have hm := List.all_eq_true.1 enc_all _ (tab_mem5 ht)
  dsimp only at hm
  match he : encL r with
  | [] => rw [he] at hm; cases hm
  | [a] =>
    rw [he] at hm
    simp [encOk] at hm
    exact .inl ⟨a, rfl, hm.1, hm.2⟩
  | [a, b] =>
    rw [he] at hm
    simp [encOk] at hm
    exact .inr ⟨a, b, rfl, hm.1.1.1, hm.1.1.2, hm.1.2, hm.2⟩
  | a :: b :: c :: l => rw [he] at hm; cases hm
theorem pre_ne {a b : UInt8} {x y : List UInt8} (h : a ≠ b) : (a :: x).isPrefixOf (b :: y) = false := by
  have : (a == b) = false := by simpa using h
  simp [List.isPrefixOf, this]
theorem pre_no {a b : UInt8} {x y : List UInt8} (h : x.isPrefixOf y = false) : (a :: x).isPrefixOf (b :: y) = false := by
  simp [List.isPrefixOf, h]
theorem gl_form {p : Ph} (h : isF p = true) : (if p.2.2 = 0 then [] else encL p.2.2 ++ glideL) = ([] : List UInt8) ∨ (if p.2.2 = 0 then [] else encL p.2.2 ++ glideL) = 105 :: glideL ∨ (if p.2.2 = 0 then [] else encL p.2.2 ++ glideL) = 117 :: glideL := by
  rcases (isF_tab h).2 with h | h | h
  · rw [h]; exact .inl rfl
  · rw [h, if_neg (by decide), enc_i]; exact .inr (.inl rfl)
  · rw [h, if_neg (by decide), enc_u]; exact .inr (.inr rfl)
theorem Tail.more {q : Ph} {R : List UInt8} (hq : isF q = true) (h : Tail R) : Tail (textP q ++ R) := by
  obtain ⟨h1, h2, h3, h4⟩ := h
  have hx : glideL.isPrefixOf ((if q.2.1 then longL else []) ++ ((if q.2.2 = 0 then [] else encL q.2.2 ++ glideL) ++ R)) = false := by
    split
    · exact pre_ne (by decide)
    · rcases gl_form hq with e | e | e <;> rw [e]
      · exact h2
      · exact pre_ne (by decide)
      · exact pre_ne (by decide)
  have e : textP q ++ R = encL q.1 ++ ((if q.2.1 then longL else []) ++ ((if q.2.2 = 0 then [] else encL q.2.2 ++ glideL) ++ R)) := by simp [textP]
  rw [e]
  rcases enc_head (isF_tab hq).1 with ⟨a, ea, a1, a2⟩ | ⟨a, b, ea, a1, a2, a3, a4⟩
  · rw [ea]
    exact ⟨pre_ne (Ne.symm a1), pre_ne (Ne.symm a2), pre_no hx, pre_no hx⟩
  · rw [ea]
    exact ⟨pre_ne (Ne.symm a1), pre_ne (Ne.symm a2), pre_ne (Ne.symm a3), pre_ne (Ne.symm a4)⟩
theorem Tail.texts {l : List Ph} (h : l.all isF = true) {R : List UInt8} (hR : Tail R) : Tail (texts l ++ R) := by
  induction l with
  | nil => exact hR
  | cons p l ih =>
    simp only [List.all_cons, Bool.and_eq_true] at h
    have e : Go.Proofs.Ytogofchpocoebaa.texts (p :: l) ++ R = textP p ++ (Go.Proofs.Ytogofchpocoebaa.texts l ++ R) := by simp [Go.Proofs.Ytogofchpocoebaa.texts]
    rw [e]
    exact (ih h.2).more h.1
/-- a phone's text is read as that phone -/
theorem next_text {p : Ph} {R : List UInt8} (hp : isF p = true) (hR : Tail R) : nextL (textP p ++ R) = (p, (textP p).length) := by
  obtain ⟨h1, h2⟩ := isF_tab hp
  have hh : headR (textP p ++ R) = p.1 := pre_head h1 ((textP_enc p).trans (List.prefix_append _ _))
  obtain ⟨t, ht⟩ := Option.isSome_iff_exists.1 h1
  rw [nextL_some (t := t) (by rw [hh]; exact ht), hh]
  obtain ⟨r, lg, g⟩ := p
  have hv : g ≠ 0 → t.vow = true := by
    intro h0
    unfold isF traits at hp
    rw [show tabF (r, lg, g).1 = some t from ht] at hp
    simp [h0] at hp
    exact hp.1
  dsimp only at ht hh h2 ⊢
  have e : textP (r, lg, g) ++ R = encL r ++ ((if lg then longL else []) ++ ((if g = 0 then [] else encL g ++ glideL) ++ R)) := by simp [textP]
  have el : (textP (r, lg, g)).length = (encL r).length + (if lg then 2 else 0) + (if g = 0 then 0 else (encL g).length + 2) := by
    unfold textP
    simp only [List.length_append]
    congr 1
    · congr 1; split <;> rfl
    · split <;> simp [glideL]
  rw [e, el, List.drop_left]
  clear e el hp hh h1 ht
  have dl : ∀ X : List UInt8, List.drop ((encL r).length + 2) (encL r ++ (longL ++ X)) = X := fun X => by rw [List.drop_append]; simp [longL]
  obtain ⟨t1, t2, t3, t4⟩ := hR
  have n1 : ∀ X : List UInt8, (longL ++ X).isPrefixOf (longL ++ X) = true := fun X => by simp
  have n2 : ∀ X : List UInt8, longL.isPrefixOf (longL ++ X) = true := fun X => by simp [longL, List.isPrefixOf]
  have g5 : ∀ X : List UInt8, (105 :: glideL).isPrefixOf ((105 :: glideL) ++ X) = true := fun X => by simp [glideL, List.isPrefixOf]
  have g7 : ∀ X : List UInt8, (117 :: glideL).isPrefixOf ((117 :: glideL) ++ X) = true := fun X => by simp [glideL, List.isPrefixOf]
  have g6 : ∀ X : List UInt8, (105 :: glideL).isPrefixOf ((117 :: glideL) ++ X) = false := fun X => pre_ne (by decide)
  have m5 : ∀ X : List UInt8, longL.isPrefixOf ((105 :: glideL) ++ X) = false := fun X => pre_ne (by decide)
  have m7 : ∀ X : List UInt8, longL.isPrefixOf ((117 :: glideL) ++ X) = false := fun X => pre_ne (by decide)
  rcases h2 with rfl | rfl | rfl
  · cases lg
    · simp only [Bool.false_eq_true, if_false, if_true, List.nil_append, t1, List.drop_left, t3, t4]
      cases t.vow <;> simp
    · simp only [if_true, List.nil_append, n2, dl, t3, t4]
      cases t.vow <;> simp
  · have hv := hv (by decide)
    rw [if_neg (show ¬ (105 : Int) = 0 by decide), if_neg (show ¬ (105 : Int) = 0 by decide), enc_i]
    cases lg
    · simp only [Bool.false_eq_true, if_false, List.nil_append, List.cons_append]
      simp only [← List.cons_append, m5, hv]
      simp
    · simp only [if_true, List.nil_append, List.cons_append, n2, dl]
      simp only [← List.cons_append, g5, hv]
      simp
  · have hv := hv (by decide)
    rw [if_neg (show ¬ (117 : Int) = 0 by decide), if_neg (show ¬ (117 : Int) = 0 by decide), enc_u]
    cases lg
    · simp only [Bool.false_eq_true, if_false, List.nil_append, List.cons_append]
      simp only [← List.cons_append, m7, hv]
      simp
    · simp only [if_true, List.nil_append, List.cons_append, n2, dl]
      simp only [← List.cons_append, g6, g7, hv]
      simp

/-- all phones of a text from a place on, where each begins; and where this ends -/
def evGo (l : List UInt8) : Nat → Nat → List (Ph × Nat) × Nat
  | 0, at_ => ([], at_)
  | f + 1, at_ => if at_ < l.length then if (nextL (l.drop at_)).2 = 0 then ([], at_) else
      (((nextL (l.drop at_)).1, at_) :: (evGo l f (at_ + (nextL (l.drop at_)).2)).1, (evGo l f (at_ + (nextL (l.drop at_)).2)).2) else ([], at_)
def evL (l : List UInt8) : List (Ph × Nat) × Nat := evGo l (l.length + 1) 0
theorem evGo_end (l : List UInt8) (f at_ : Nat) (h : ¬ at_ < l.length ∨ (nextL (l.drop at_)).2 = 0) : evGo l f at_ = ([], at_) := by
  cases f with
  | zero => rfl
  | succ f =>
    unfold evGo
    split
    · rename_i h1
      rcases h with h | h
      · exact absurd h1 h
      · rw [if_pos h]
    · rfl
theorem evGo_step {l : List UInt8} {f at_ : Nat} {N : Ph × Nat} (hN : nextL (l.drop at_) = N) (h : at_ < l.length) (hf : l.length - at_ < f) (hn : N.2 ≠ 0) :
    ∃ f', l.length - (at_ + N.2) < f' ∧ evGo l f at_ = ((N.1, at_) :: (evGo l f' (at_ + N.2)).1, (evGo l f' (at_ + N.2)).2) := by
  subst hN
  cases f with
  | zero => omega
  | succ f =>
    refine ⟨f, by omega, ?_⟩
    conv => lhs; unfold evGo
    rw [if_pos h, if_neg hn]
theorem next_fit {l : List UInt8} {at_ : Nat} (h : at_ ≤ l.length) : at_ + (nextL (l.drop at_)).2 ≤ l.length := by
  have := nextL_le (l.drop at_)
  rw [List.length_drop] at this
  omega
/-- reading, by all phones of the text -/
def rdAll (l : List UInt8) (ev : List (Ph × Nat) × Nat) (out : List Ph) : List Ph × Int × Int :=
  if 128 < out.length + ev.1.length then ([], 3, ((ev.1.getD (128 - out.length) ((0, false, 0), 0)).2 : Int)) else if ev.2 < l.length then ([], 80, (ev.2 : Int)) else (out ++ ev.1.map (·.1), 0, 0)
theorem rd_many (l : List UInt8) : ∀ (f at_ : Nat) (out : List Ph) (many : Int), 0 ≤ many → rdGo l f at_ out many = ([], 3, many) := by
  intro f
  induction f with
  | zero => intro at_ out many h; unfold rdGo rdFin; rw [if_pos h]
  | succ f ih =>
    intro at_ out many h
    unfold rdGo
    have hf : rdFin l at_ out many = ([], 3, many) := by unfold rdFin; rw [if_pos h]
    rw [if_neg (show ¬ (out.length = 128 ∧ many < 0) by omega), if_neg (show ¬ many < 0 by omega), ih _ _ _ h, hf]
    split <;> (try split) <;> rfl
theorem rd_ev (l : List UInt8) : ∀ (f at_ : Nat) (out : List Ph), out.length ≤ 128 → rdGo l f at_ out (-1) = rdAll l (evGo l f at_) out := by
  intro f
  induction f with
  | zero =>
    intro at_ out h
    unfold rdGo evGo rdFin rdAll
    rw [if_neg (by decide), if_neg (show ¬ 128 < out.length + ([] : List (Ph × Nat)).length by simp; omega)]
    simp
  | succ f ih =>
    intro at_ out h
    have hend : rdFin l at_ out (-1) = rdAll l ([], at_) out := by
      unfold rdFin rdAll
      rw [if_neg (by decide), if_neg (show ¬ 128 < out.length + ([] : List (Ph × Nat)).length by simp; omega)]
      simp
    unfold rdGo evGo
    split
    · split
      · exact hend
      · by_cases ho : out.length = 128
        · rw [if_pos ⟨ho, by decide⟩, rd_many l _ _ _ _ (by omega)]
          unfold rdAll
          rw [if_pos (by simp; omega), ho]
          simp
        · rw [if_neg (fun h => ho h.1), if_pos (by decide), ih _ _ (by simp; omega)]
          unfold rdAll
          simp only [List.length_append, List.length_cons, List.length_nil, List.map_cons]
          have e1 : out.length + 1 + (evGo l f (at_ + (nextL (List.drop at_ l)).2)).1.length = out.length + ((evGo l f (at_ + (nextL (List.drop at_ l)).2)).1.length + 1) := by omega
          have e2 : 128 - out.length = (128 - (out.length + 1)) + 1 := by omega
          rw [Nat.zero_add, e1, e2, List.getD_cons_succ]
          simp
    · exact hend
theorem read_ev (l : List UInt8) : readL l = rdAll l (evL l) [] := rd_ev l _ 0 [] (by simp)

/-- all phones of a text are read from their bytes -/
theorem ev_texts : ∀ (ps : List Ph) (pre : List UInt8) (f : Nat), ps.all isF = true → ps.length < f →
    (evGo (pre ++ texts ps) f pre.length).1.map (·.1) = ps ∧ (evGo (pre ++ texts ps) f pre.length).2 = (pre ++ texts ps).length := by
  intro ps
  induction ps with
  | nil =>
    intro pre f _ _
    rw [evGo_end _ _ _ (.inl (by simp [texts]))]
    simp [texts]
  | cons p ps ih =>
    intro pre f h hf
    simp only [List.all_cons, Bool.and_eq_true] at h
    have et : texts (p :: ps) = textP p ++ texts ps := by simp [texts]
    have hpos : 0 < (textP p).length := by
      have h1 := (isF_tab h.1).1
      have := (encL_len (tab_small h1).1 (tab_small h1).2).2
      unfold textP
      simp only [List.length_append]
      omega
    have hn : nextL ((pre ++ texts (p :: ps)).drop pre.length) = (p, (textP p).length) := by
      rw [List.drop_left, et]
      have := Tail.texts h.2 Tail.nil
      rw [List.append_nil] at this
      exact next_text h.1 this
    cases f with
    | zero => simp at hf
    | succ f =>
      have ha : pre ++ texts (p :: ps) = (pre ++ textP p) ++ texts ps := by rw [et, List.append_assoc]
      have hi := ih (pre ++ textP p) f h.2 (by simp at hf; omega)
      rw [← ha] at hi
      unfold evGo
      rw [if_pos (by rw [et]; simp; omega), hn]
      simp only
      rw [if_neg (by omega)]
      rw [List.length_append] at hi
      simp only [List.map_cons]
      exact ⟨by rw [hi.1], hi.2⟩
theorem textP_pos {p : Ph} (h : isF p = true) : 0 < (textP p).length := by
  have h1 := (isF_tab h).1
  have := (encL_len (tab_small h1).1 (tab_small h1).2).2
  unfold textP
  simp only [List.length_append]
  omega
theorem texts_ge : ∀ ps : List Ph, ps.all isF = true → ps.length ≤ (texts ps).length := by
  intro ps
  induction ps with
  | nil => intro _; simp
  | cons p ps ih =>
    intro h
    simp only [List.all_cons, Bool.and_eq_true] at h
    have h2 := textP_pos h.1
    have h3 := ih h.2
    unfold texts at h3 ⊢
    rw [List.flatMap_cons, List.length_append, List.length_cons]
    omega
theorem read_texts {ps : List Ph} (h : ps.all isF = true) (hl : ps.length ≤ 128) : readL (texts ps) = (ps, 0, 0) := by
  have := ev_texts ps [] ((texts ps).length + 1) h (by have := texts_ge ps h; omega)
  rw [List.nil_append] at this
  have h1 : ((evL (texts ps)).1.map (·.1)) = ps := this.1
  have h2 : (evL (texts ps)).2 = (texts ps).length := this.2
  rw [read_ev]
  unfold rdAll
  have h3 : (evL (texts ps)).1.length = ps.length := by have := congrArg List.length h1; simpa using this
  rw [if_neg (by simp; omega), if_neg (by omega), h1]
  rfl
/-- what stands from a place on is the text of the phones read from there, as far as they go -/
theorem ev_back (l : List UInt8) : ∀ (f at_ : Nat), at_ ≤ l.length → l.length - at_ < f → (evGo l f at_).1.all (fun x => isF x.1) = true ∧ at_ ≤ (evGo l f at_).2 ∧ (evGo l f at_).2 ≤ l.length ∧ (l.drop at_).take ((evGo l f at_).2 - at_) = texts ((evGo l f at_).1.map (·.1)) := by
  intro f
  induction f with
  | zero => intro at_ _ h; omega
  | succ f ih =>
    intro at_ ha hf
    by_cases h1 : at_ < l.length
    · by_cases h2 : (nextL (l.drop at_)).2 = 0
      · rw [evGo_end _ _ _ (.inr h2)]
        simp [texts]; omega
      · obtain ⟨k1, k2, k3⟩ := next_ok h2
        have h3 := next_fit ha
        obtain ⟨i1, i2, i3, i4⟩ := ih (at_ + (nextL (l.drop at_)).2) h3 (by omega)
        unfold evGo
        rw [if_pos h1, if_neg h2]
        generalize nextL (l.drop at_) = N at *
        obtain ⟨R, hR⟩ := k2
        simp only [List.all_cons, k1, Bool.true_and, List.map_cons]
        refine ⟨i1, by omega, i3, ?_⟩
        generalize evGo l f (at_ + N.2) = E at *
        have e1 : l.drop (at_ + N.2) = R := by rw [← List.drop_drop, ← hR, k3, List.drop_left]
        rw [e1] at i4
        have et : texts (N.1 :: List.map (fun x => x.1) E.1) = textP N.1 ++ texts (List.map (fun x => x.1) E.1) := by simp [texts]
        rw [et, ← hR, ← i4, List.take_append, List.take_of_length_le (by omega)]
        congr 2
        omega
    · rw [evGo_end _ _ _ (.inl h1)]
      simp [texts]; omega
theorem read_back {l : List UInt8} {ps : List Ph} {x : Int} (h : readL l = (ps, 0, x)) : ps.all isF = true ∧ ps.length ≤ 128 ∧ texts ps = l ∧ ps = (evL l).1.map (·.1) ∧ (evL l).2 = l.length := by
  rw [read_ev] at h
  have hb := ev_back l (l.length + 1) 0 (by omega) (by omega)
  unfold rdAll at h
  change _ ∧ _ ∧ (evL l).2 ≤ _ ∧ _ at hb
  split at h
  · injection h with _ h; injection h with h _; cases h
  · split at h
    · injection h with _ h; injection h with h _; cases h
    · injection h with h _
      rename_i a1 a2
      rw [List.nil_append] at h
      simp at a1
      have e2 : (evL l).2 = l.length := by omega
      obtain ⟨b1, _, _, b4⟩ := hb
      have b4 : (l.drop 0).take ((evL l).2 - 0) = texts ((evL l).1.map (·.1)) := b4
      rw [h, e2] at b4
      refine ⟨?_, by rw [← h, List.length_map]; omega, by rw [← b4]; simp, h.symm, e2⟩
      rw [← h, List.all_map]
      exact b1
end Go.Proofs.Ytogofchpocoebaa

namespace Go.Proofs.Ytogofchpocoebaa

/-- phones one behind another from a place on, up to an end -/
def Chain (l : List UInt8) : List (Ph × Nat) → Nat → Nat → Prop
  | [], a, e => a = e
  | x :: r, a, e => x.2 = a ∧ (nextL (l.drop a)).1 = x.1 ∧ (nextL (l.drop a)).2 ≠ 0 ∧ Chain l r (a + (nextL (l.drop a)).2) e
theorem ev_chain (l : List UInt8) : ∀ (f a : Nat), Chain l (evGo l f a).1 a (evGo l f a).2 := by
  intro f
  induction f with
  | zero => intro a; rfl
  | succ f ih =>
    intro a
    unfold evGo
    split
    · split
      · rfl
      · rename_i h
        exact ⟨rfl, rfl, h, ih _⟩
    · rfl
theorem Chain.le {l : List UInt8} : ∀ {r : List (Ph × Nat)} {a e : Nat}, Chain l r a e → a ≤ e := by
  intro r
  induction r with
  | nil => intro a e h; exact Nat.le_of_eq h
  | cons x r ih => intro a e h; have := ih h.2.2.2; omega
/-- where the phone of number k begins; behind the last one: the end -/
def posE (ev : List (Ph × Nat)) (e k : Nat) : Nat := match ev[k]? with | some x => x.2 | none => e
theorem posE_lt {ev : List (Ph × Nat)} {e k : Nat} (h : k < ev.length) : posE ev e k = ev[k].2 := by unfold posE; rw [List.getElem?_eq_getElem h]
theorem posE_ge {ev : List (Ph × Nat)} {e k : Nat} (h : ev.length ≤ k) : posE ev e k = e := by unfold posE; rw [List.getElem?_eq_none h]
theorem posE_cons (x : Ph × Nat) (ev : List (Ph × Nat)) (e k : Nat) : posE (x :: ev) e (k + 1) = posE ev e k := by unfold posE; rw [List.getElem?_cons_succ]
theorem Chain.first {l : List UInt8} {r : List (Ph × Nat)} {a e : Nat} (h : Chain l r a e) : posE r e 0 = a := by
  cases r with
  | nil => exact h.symm
  | cons x r => exact h.1
/-- each phone is the one that is read at its place, and ends where the next one begins -/
theorem Chain.at {l : List UInt8} : ∀ {r : List (Ph × Nat)} {a e : Nat}, Chain l r a e → ∀ {k : Nat} (h : k < r.length),
    (nextL (l.drop r[k].2)).1 = r[k].1 ∧ (nextL (l.drop r[k].2)).2 ≠ 0 ∧ r[k].2 + (nextL (l.drop r[k].2)).2 = posE r e (k + 1) := by
  intro r
  induction r with
  | nil => intro a e _ k h; simp at h
  | cons x r ih =>
    intro a e h k hk
    obtain ⟨h1, h2, h3, h4⟩ := h
    cases k with
    | zero =>
      rw [List.getElem_cons_zero, h1]
      exact ⟨h2, h3, by rw [posE_cons, h4.first]⟩
    | succ k =>
      rw [List.getElem_cons_succ, posE_cons]
      exact ih h4 (by simpa using hk)
theorem ev_at (l : List UInt8) {k : Nat} (h : k < (evL l).1.length) :
    (nextL (l.drop (evL l).1[k].2)).1 = (evL l).1[k].1 ∧ (nextL (l.drop (evL l).1[k].2)).2 ≠ 0 ∧ (evL l).1[k].2 + (nextL (l.drop (evL l).1[k].2)).2 = posE (evL l).1 (evL l).2 (k + 1) := (ev_chain l _ 0).at h
theorem ev_end_le (l : List UInt8) : (evL l).2 ≤ l.length := (ev_back l (l.length + 1) 0 (by omega) (by omega)).2.2.1
theorem Chain.pos_le {l : List UInt8} : ∀ {r : List (Ph × Nat)} {a e : Nat}, Chain l r a e → ∀ k, a ≤ posE r e k ∧ posE r e k ≤ e := by
  intro r
  induction r with
  | nil => intro a e h k; rw [posE_ge (by simp)]; exact ⟨Nat.le_of_eq h, Nat.le_refl _⟩
  | cons x r ih =>
    intro a e h k
    have hle := h.le
    cases k with
    | zero => rw [h.first]; exact ⟨Nat.le_refl _, hle⟩
    | succ k =>
      rw [posE_cons]
      have := ih h.2.2.2 k
      omega
theorem ev_pos_le (l : List UInt8) (k : Nat) : posE (evL l).1 (evL l).2 k ≤ l.length := Nat.le_trans ((ev_chain l _ 0).pos_le k).2 (ev_end_le l)
/-- what stands between a phone's place and the next one's is its text -/
theorem ev_text (l : List UInt8) {k : Nat} (h : k < (evL l).1.length) : isF (evL l).1[k].1 = true ∧ (l.drop (evL l).1[k].2).take (posE (evL l).1 (evL l).2 (k + 1) - (evL l).1[k].2) = textP (evL l).1[k].1 ∧ (evL l).1[k].2 < posE (evL l).1 (evL l).2 (k + 1) := by
  obtain ⟨h1, h2, h3⟩ := ev_at l h
  obtain ⟨k1, k2, k3⟩ := next_ok h2
  rw [h1] at k1 k2 k3
  refine ⟨k1, ?_, by omega⟩
  rw [← h3, Nat.add_sub_cancel_left, k3]
  exact (List.prefix_iff_eq_take.1 k2).symm

/-- what rows that were gone through so far, and a part of a row's six, leave as the best -/
def bestAt (l : List UInt8) (i k : Nat) : Ph × Nat := ((sixP ((rowsL.map (·.1)).getD i 0)).take k).foldl (tryP l) ((rowsL.take i).foldl (fun st x => (sixP x.1).foldl (tryP l) st) ((0, false, 0), 0))
theorem bestAt_zero (l : List UInt8) : bestAt l 0 0 = ((0, false, 0), 0) := rfl
theorem bestAt_end (l : List UInt8) : bestAt l 38 0 = nextL l := by
  rw [← best_next]
  unfold bestAt bestL
  rw [List.take_zero, List.foldl_nil, List.take_of_length_le (by rw [rowsL_len]; exact Nat.le_refl _)]
theorem bestAt_row (l : List UInt8) {i : Nat} (h : i < rowsL.length) : bestAt l i 6 = bestAt l (i + 1) 0 := by
  unfold bestAt
  rw [List.take_zero, List.foldl_nil, List.take_succ_eq_append_getElem h, List.foldl_append, List.foldl_cons, List.foldl_nil]
  have e : (rowsL.map (·.1)).getD i 0 = rowsL[i].1 := by
    rw [List.getD_eq_getElem?_getD, List.getElem?_map, List.getElem?_eq_getElem h]; rfl
  rw [e]
  rfl
def sixAt (r : Int) (k : Nat) : Ph := (sixP r).getD k (0, false, 0)
theorem bestAt_step (l : List UInt8) {i k : Nat} (h : i < rowsL.length) (hk : k < 6) : bestAt l i (k + 1) = tryP l (bestAt l i k) (sixAt rowsL[i].1 k) := by
  unfold bestAt sixAt
  have e : (rowsL.map (·.1)).getD i 0 = rowsL[i].1 := by
    rw [List.getD_eq_getElem?_getD, List.getElem?_map, List.getElem?_eq_getElem h]; rfl
  rw [e]
  generalize rowsL[i].1 = r
  have hl : k < (sixP r).length := by simpa [sixP] using hk
  rw [List.take_succ_eq_append_getElem hl, List.foldl_append, List.foldl_cons, List.foldl_nil, List.getD_eq_getElem?_getD, List.getElem?_eq_getElem hl]
  rfl
def sixG (k : Nat) : Int := if k % 3 = 0 then 0 else if k % 3 = 1 then 105 else 117
theorem sixAt_is (r : Int) {k : Nat} (hk : k < 6) : sixAt r k = (r, decide (3 ≤ k), sixG k) := by
  have : k = 0 ∨ k = 1 ∨ k = 2 ∨ k = 3 ∨ k = 4 ∨ k = 5 := by omega
  rcases this with rfl | rfl | rfl | rfl | rfl | rfl <;> rfl
end Go.Proofs.Ytogofchpocoebaa
