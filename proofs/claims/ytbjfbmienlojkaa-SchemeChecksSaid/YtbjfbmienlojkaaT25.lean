/- Rows of rows of ints, in memory of one's own: how they are kept, grown and written. -/
import Derived.Test.YtbjfbmienlojkaaT23
namespace Go.Proofs.Ytbjfbmienlojkaa
open Go.RowKit

structure Own2 (w : World) (L : Nat) (v : Value) (xs : List Value) (lss : List (List Int)) : Prop where
  outer : w.ownsRow L 24 1 v lss.length xs
  inner : ∀ (j : Nat) (x : Value) (l : List Int), xs[j]? = some x → lss[j]? = some l → w.ownsRow L 3 1 x l.length (l.map (Value.int .i64))
  apart : ∀ (i j : Nat) (x y : Value), i ≠ j → xs[i]? = some x → xs[j]? = some y → x.ownBlock = none ∨ x.ownBlock ≠ y.ownBlock

section
variable {w w' : World} {L : Nat} {v v' x' : Value} {xs : List Value} {lss : List (List Int)}
theorem Own2.len (h : Own2 w L v xs lss) : xs.length = lss.length := by have := h.outer.1; simpa using this
theorem Own2.empty (w : World) (L : Nat) : Own2 w L (.slice none 0 0) [] [] := ⟨World.ownsRow_nil _ _ _ _, by simp, by simp⟩
theorem Own2.get (h : Own2 w L v xs lss) {j : Nat} {x : Value} (hx : xs[j]? = some x) : ∃ l, lss[j]? = some l ∧ w.ownsRow L 3 1 x l.length (l.map (Value.int .i64)) := by
  have hj : j < xs.length := (List.getElem?_eq_some_iff.1 hx).1
  have hj' : j < lss.length := by rw [← h.len]; exact hj
  exact ⟨_, List.getElem?_eq_getElem hj', h.inner j x _ hx (List.getElem?_eq_getElem hj')⟩
/-- outer and inner rows lie in blocks of their own -/
theorem Own2.far (h : Own2 w L v xs lss) {j : Nat} {x : Value} (hx : xs[j]? = some x) : (x.ownBlock = none ∨ x.ownBlock ≠ v.ownBlock) ∧ (v.ownBlock = none ∨ v.ownBlock ≠ x.ownBlock) := by
  obtain ⟨l, _, ho⟩ := h.get hx
  exact ⟨own_ne ho h.outer (by decide), own_ne h.outer ho (by decide)⟩
theorem Own2.on (h : Own2 w L v xs lss) (hb : Only (fun _ => False) w w') : Own2 w' L v xs lss :=
  ⟨own_stay h.outer hb, fun j x l hx hl => own_stay (h.inner j x l hx hl) hb, h.apart⟩
theorem Own2.below (h : Own2 w L v xs lss) (hb : Below w.heap.size w w') : Own2 w' L v xs lss := h.on (Only.of_below hb _)
theorem Own2.alloc (h : Own2 w L v xs lss) (o : Obj) : Own2 (w.alloc o) L v xs lss := h.on ((Only.refl _ _).alloc _)
theorem Own2.drew (h : Own2 w L v xs lss) : Own2 w.drew L v xs lss := h.on (Only.refl _ _).drew

theorem Own2.push {x : Value} {l : List Int} (h : Own2 w L v xs lss) (ho : w'.ownsRow L 24 1 v' (lss.length + 1) (xs ++ [x])) (hb : Only (fun k => v.ownBlock = some k) w w')
    (hx : w'.ownsRow L 3 1 x l.length (l.map (Value.int .i64))) (hfresh : ∀ k, x.ownBlock = some k → w.heap.size ≤ k) : Own2 w' L v' (xs ++ [x]) (lss ++ [l]) := by
  have hl := h.len
  refine ⟨by simpa using ho, fun j y m hy hm => ?_, fun i j y z hij hy hz => ?_⟩
  · rcases Nat.lt_or_ge j xs.length with hj | hj
    · rw [List.getElem?_append_left hj] at hy
      rw [List.getElem?_append_left (by omega)] at hm
      exact own_keep (h.inner j y m hy hm) (h.far hy).1 hb
    · rw [List.getElem?_append_right hj] at hy
      rw [List.getElem?_append_right (by omega), ← hl] at hm
      cases hd : j - xs.length with
      | zero =>
        rw [hd] at hy hm
        simp at hy hm
        subst hy hm
        exact hx
      | succ d => rw [hd] at hy; simp at hy
  · have new : ∀ (i : Nat) (y : Value), (xs ++ [x])[i]? = some y → (i < xs.length ∧ xs[i]? = some y) ∨ (i = xs.length ∧ y = x) := by
      intro i y hy
      rcases Nat.lt_or_ge i xs.length with hi | hi
      · rw [List.getElem?_append_left hi] at hy
        exact .inl ⟨hi, hy⟩
      · rw [List.getElem?_append_right hi] at hy
        cases hd : i - xs.length with
        | zero =>
          rw [hd] at hy
          simp at hy
          exact .inr ⟨by omega, hy.symm⟩
        | succ d => rw [hd] at hy; simp at hy
    have old : ∀ (i : Nat) (y : Value), xs[i]? = some y → y.ownBlock = none ∨ y.ownBlock ≠ x.ownBlock := by
      intro i y hy
      obtain ⟨m, _, hm⟩ := h.get hy
      cases hyb : y.ownBlock with
      | none => exact .inl rfl
      | some g =>
        right
        intro hh
        have := (hm.lt g hyb).2
        have := hfresh g hh.symm
        omega
    rcases new i y hy with ⟨hi, hy'⟩ | ⟨hi, rfl⟩
    · rcases new j z hz with ⟨hj, hz'⟩ | ⟨hj, rfl⟩
      · exact h.apart i j y z hij hy' hz'
      · exact old i y hy'
    · rcases new j z hz with ⟨hj, hz'⟩ | ⟨hj, rfl⟩
      · rcases old j z hz' with h0 | h0
        · cases hyb : y.ownBlock with
          | none => exact .inl rfl
          | some g => right; rw [h0]; simp
        · exact .inr (Ne.symm h0)
      · omega

theorem Own2.put {G o p : Nat} {n c : Nat} {x : Value} {l' : List Int} (h : Own2 w L (.slice (some ⟨G, o, none⟩) n c) xs lss) (hx : xs[p]? = some x) (hb : Only (fun k => x.ownBlock = some k) w w')
    (hx' : w'.ownsRow L 3 1 x' l'.length (l'.map (Value.int .i64))) (hnew : ∀ k, x'.ownBlock = some k → x.ownBlock = some k ∨ w.heap.size ≤ k) :
    Own2 (w'.setCell ⟨G, p, none⟩ x') L (.slice (some ⟨G, o, none⟩) n c) (xs.set p x') (lss.set p l') := by
  have hl := h.len
  have hp : p < xs.length := (List.getElem?_eq_some_iff.1 hx).1
  have ho := own_keep h.outer (h.far hx).2 hb
  have hform : ∃ c', (Value.slice (some ⟨G, o, none⟩) n c) = .slice (some ⟨G, 0, none⟩) lss.length c' := by
    rcases h.outer.2 with ⟨h0, _⟩ | ⟨g, cap, cur, hv, _⟩
    · cases h0
    · injection hv with h1 h2 h3
      injection h1 with h1
      injection h1 with h1 h4
      subst h1 h2 h3 h4
      exact ⟨c, rfl⟩
  obtain ⟨c', hv⟩ := hform
  injection hv with h1 h2 h3
  injection h1 with h1
  injection h1 with h1 h4
  subst h4 h3
  have key : ∀ (i : Nat) (y : Value), (xs.set p x')[i]? = some y → (i = p ∧ y = x') ∨ (i ≠ p ∧ xs[i]? = some y) := by
    intro i y hy
    rw [List.getElem?_set] at hy
    split at hy
    · rename_i he
      left
      exact ⟨he.symm, by simpa using hy.symm⟩
    · rename_i he
      exact .inr ⟨fun hh => he hh.symm, hy⟩
  have oldx : ∀ (i : Nat) (y : Value), i ≠ p → xs[i]? = some y → y.ownBlock = none ∨ y.ownBlock ≠ x'.ownBlock := by
    intro i y hi hy
    obtain ⟨m, _, hm⟩ := h.get hy
    cases hyb : y.ownBlock with
    | none => exact .inl rfl
    | some g =>
      right
      intro hh
      rcases hnew g hh.symm with h0 | h0
      · rcases h.apart i p y x hi hy hx with h1 | h1
        · rw [hyb] at h1; cases h1
        · exact h1 (hyb.trans h0.symm)
      · have := (hm.lt g hyb).2
        omega
  have nG : ∀ (y : Value) (m : List Int), w'.ownsRow L 3 1 y m.length (m.map (Value.int .i64)) → y.ownBlock ≠ some G := by
    intro y m hy hh
    obtain ⟨c1, e1⟩ := own_at_blk hy hh
    obtain ⟨c2, e2⟩ := own_at_blk ho (g := G) rfl
    exact absurd (blk_type e1 e2) (by decide)
  refine ⟨?_, fun j y m hy hm => ?_, fun i j y z hij hy hz => ?_⟩
  · rw [List.length_set]
    subst h2
    exact own_set ho p x'
  · rcases key j y hy with ⟨rfl, rfl⟩ | ⟨hj, hy'⟩
    · rw [List.getElem?_set_self (by omega)] at hm
      cases hm
      exact own_far hx' (nG _ _ hx') _
    · rw [List.getElem?_set_ne (fun hh => hj hh.symm)] at hm
      have k1 := own_keep (h.inner j y m hy' hm) (h.apart j p y x hj hy' hx) hb
      exact own_far k1 (nG _ _ k1) _
  · rcases key i y hy with ⟨rfl, rfl⟩ | ⟨hi, hy'⟩
    · rcases key j z hz with ⟨rfl, rfl⟩ | ⟨hj, hz'⟩
      · exact absurd rfl hij
      · rcases oldx j z hj hz' with h0 | h0
        · cases hyb : y.ownBlock with
          | none => exact .inl rfl
          | some g => right; rw [h0]; simp
        · exact .inr (Ne.symm h0)
    · rcases key j z hz with ⟨rfl, rfl⟩ | ⟨hj, hz'⟩
      · exact oldx i y hi hy'
      · exact h.apart i j y z hij hy' hz'
end
end Go.Proofs.Ytbjfbmienlojkaa
