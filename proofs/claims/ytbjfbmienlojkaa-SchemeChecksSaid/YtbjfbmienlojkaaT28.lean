/- Classes: what Classes makes is what the reference makes (no program in sight). -/
import Derived.Test.YtbjfbmienlojkaaT27
namespace Go.Proofs.Ytbjfbmienlojkaa
open Go.RowKit

def canStep (s : (Nat → Int) × Int) (c : Int) : (Nat → Int) × Int := if c < 0 then s else (bump s.1 c.toNat s.2, nxt s.1 c.toNat s.2)
def canVal (s : (Nat → Int) × Int) (c : Int) : Int := if c < 0 then c else bump s.1 c.toNat s.2 c.toNat - 1
def canFold : (Nat → Int) × Int → List (Int × Int) → Nat → (Nat → Int) × Int
  | s, _, 0 => s
  | s, [], _ + 1 => s
  | s, p :: t, k + 1 => canFold (canStep s p.1) t k
theorem clsAt_cons (p : Int × Int) (t : List (Int × Int)) (k : Nat) : clsAt (p :: t) (k + 1) = clsAt t k := rfl
theorem clsAt_zero (p : Int × Int) (t : List (Int × Int)) : clsAt (p :: t) 0 = p.1 := rfl
theorem canFold_succ : ∀ (l : List (Int × Int)) (s : (Nat → Int) × Int) (k : Nat), k < l.length → canFold s l (k + 1) = canStep (canFold s l k) (clsAt l k) := by
  intro l
  induction l with
  | nil => intro s k h; simp at h
  | cons p t ih =>
    intro s k h
    cases k with
    | zero =>
      rw [clsAt_zero]
      cases t <;> rfl
    | succ k =>
      rw [clsAt_cons]
      exact ih (canStep s p.1) k (by simpa using h)
theorem canGo_at : ∀ (l : List (Int × Int)) (s : (Nat → Int) × Int) (k : Nat), k < l.length → clsAt (canGo s.1 s.2 l) k = canVal (canFold s l k) (clsAt l k) := by
  intro l
  induction l with
  | nil => intro s k h; simp at h
  | cons p t ih =>
    intro s k h
    obtain ⟨c, r⟩ := p
    cases k with
    | zero =>
      rw [clsAt_zero]
      unfold canGo canVal
      split <;> simp [clsAt_zero, canFold, *]
    | succ k =>
      have hk : k < t.length := by simpa using h
      have hh := ih (canStep s c) k hk
      rw [clsAt_cons]
      show _ = canVal (canFold (canStep s c) t k) (clsAt t k)
      rw [← hh]
      by_cases hc : c < 0
      · rw [canGo, if_pos hc, clsAt_cons]
        unfold canStep
        rw [if_pos hc]
      · rw [canGo, if_neg hc, clsAt_cons]
        unfold canStep
        rw [if_neg hc]

theorem firstFrom_lt (ls : List (Int × Int)) (i : Nat) : ∀ (f k : Nat), i ≤ k + f → (firstFrom ls i f k < i ↔ ∃ j, k ≤ j ∧ j < i ∧ alikeB ls j i = true) := by
  intro f
  induction f with
  | zero =>
    intro k h
    unfold firstFrom
    constructor
    · intro h; omega
    · rintro ⟨j, h1, h2, _⟩; omega
  | succ f ih =>
    intro k h
    unfold firstFrom
    by_cases hk : k < i
    · rw [if_pos hk]
      cases ha : alikeB ls k i with
      | true =>
        rw [if_pos rfl]
        exact ⟨fun _ => ⟨k, Nat.le_refl _, hk, ha⟩, fun _ => hk⟩
      | false =>
        rw [if_neg (by simp), ih (k + 1) (by omega)]
        constructor
        · rintro ⟨j, h1, h2, h3⟩; exact ⟨j, by omega, h2, h3⟩
        · rintro ⟨j, h1, h2, h3⟩
          refine ⟨j, ?_, h2, h3⟩
          rcases Nat.lt_or_ge k j with h4 | h4
          · omega
          · have : j = k := by omega
            subst this
            rw [ha] at h3; cases h3
    · rw [if_neg hk]
      constructor
      · intro h; omega
      · rintro ⟨j, h1, h2, _⟩; omega
theorem headB_iff (ls : List (Int × Int)) (i : Nat) : headB ls i = true ↔ 0 ≤ clsAt ls i ∧ ∀ j, j < i → clsAt ls j ≠ clsAt ls i := by
  have hf := firstFrom_lt ls i i 0 (by omega)
  unfold headB firstF
  simp only [Bool.and_eq_true, Bool.not_eq_true', decide_eq_false_iff_not]
  rw [hf]
  constructor
  · rintro ⟨h1, h2⟩
    refine ⟨by omega, fun j hj he => h2 ⟨j, by omega, hj, ?_⟩⟩
    unfold alikeB
    simp
    right
    exact ⟨by omega, he⟩
  · rintro ⟨h1, h2⟩
    refine ⟨by omega, ?_⟩
    rintro ⟨j, _, hj, ha⟩
    unfold alikeB at ha
    simp at ha
    rcases ha with h | h
    · omega
    · exact h2 j hj h.2

def heads_ (ls : List (Int × Int)) (k : Nat) : List Nat := (List.range k).filter (headB ls)
theorem heads_succ (ls : List (Int × Int)) (k : Nat) : heads_ ls (k + 1) = if headB ls k then heads_ ls k ++ [k] else heads_ ls k := by
  unfold heads_
  rw [List.range_succ, List.filter_append]
  cases h : headB ls k <;> simp [h]
theorem heads_mem {ls : List (Int × Int)} {k h : Nat} : h ∈ heads_ ls k ↔ h < k ∧ headB ls h = true := by
  unfold heads_; simp
structure CanInv (ls : List (Int × Int)) (k : Nat) (s : (Nat → Int) × Int) : Prop where
  i1 : ∀ (p h : Nat), (heads_ ls k)[p]? = some h → s.1 (clsAt ls h).toNat = (p : Int) + 1
  i2 : ∀ c : Nat, s.1 c ≠ 0 → ∃ p h : Nat, (heads_ ls k)[p]? = some h ∧ clsAt ls h = c
  i3 : s.2 = (heads_ ls k).length
  i4 : ∀ j, j < k → 0 ≤ clsAt ls j → ∃ h ∈ heads_ ls k, clsAt ls h = clsAt ls j
  i5 : clsPre (canonF ls) k = (heads_ ls k).map (fun h => grpPre ls h k)

theorem grp_skip (ls : List (Int × Int)) (h k : Nat) (_hh : headB ls h = true) (hk : h < k) (hc : clsAt ls h ≠ clsAt ls k) : grpPre ls h (k + 1) = grpPre ls h k := by
  rw [grpPre_succ ls h k (by omega), if_neg]
  unfold alikeB
  simp
  exact ⟨by omega, fun _ => hc⟩
theorem grp_take (ls : List (Int × Int)) (h k : Nat) (hh : headB ls h = true) (hk : h < k) (hc : clsAt ls h = clsAt ls k) : grpPre ls h (k + 1) = grpPre ls h k ++ [(k : Int)] := by
  rw [grpPre_succ ls h k (by omega), if_pos]
  have := ((headB_iff ls h).1 hh).1
  unfold alikeB
  simp
  right
  exact ⟨this, hc⟩

theorem canInv_zero (ls : List (Int × Int)) : CanInv ls 0 (fun _ => 0, 0) :=
  ⟨fun p h hp => by simp [heads_] at hp, fun c hc => absurd rfl hc, rfl, fun j hj => absurd hj (by omega), rfl⟩
theorem canInv_step {ls : List (Int × Int)} {k : Nat} {s : (Nat → Int) × Int} (h : CanInv ls k s) (hv : clsAt (canonF ls) k = canVal s (clsAt ls k)) :
    CanInv ls (k + 1) (canStep s (clsAt ls k)) ∧ clsAt (canonF ls) k ≤ (clsPre (canonF ls) k).length ∧ (-1 ≤ clsAt ls k → -1 ≤ clsAt (canonF ls) k) := by
  have hl5 : (clsPre (canonF ls) k).length = (heads_ ls k).length := by rw [h.i5, List.length_map]
  by_cases hneg : clsAt ls k < 0
  · have hh : headB ls k = false := by
      cases hb : headB ls k with
      | false => rfl
      | true => have := ((headB_iff ls k).1 hb).1; omega
    have hH : heads_ ls (k + 1) = heads_ ls k := by rw [heads_succ, hh]; rfl
    have hvv : clsAt (canonF ls) k = clsAt ls k := by rw [hv]; unfold canVal; rw [if_pos hneg]
    refine ⟨?_, by omega, by omega⟩
    unfold canStep
    rw [if_pos hneg]
    refine ⟨by rw [hH]; exact h.i1, by rw [hH]; exact h.i2, by rw [hH]; exact h.i3, fun j hj h0 => ?_, ?_⟩
    · rw [hH]
      refine h.i4 j ?_ h0
      rcases Nat.lt_or_ge j k with h1 | h1
      · exact h1
      · have : j = k := by omega
        subst this
        omega
    · rw [clsPre, clsStep, if_pos (by omega), h.i5, hH]
      apply List.map_congr_left
      intro a ha
      obtain ⟨h1, h2⟩ := heads_mem.1 ha
      have := ((headB_iff ls a).1 h2).1
      exact (grp_skip ls a k h2 h1 (by omega)).symm
  · obtain ⟨c, hc⟩ : ∃ c : Nat, clsAt ls k = c := ⟨(clsAt ls k).toNat, by omega⟩
    by_cases hz : s.1 c = 0
    · have hnew : ∀ j, j < k → clsAt ls j ≠ clsAt ls k := by
        intro j hj he
        obtain ⟨a, ha, hac⟩ := h.i4 j hj (by omega)
        obtain ⟨p, hp⟩ := List.getElem?_of_mem ha
        have := h.i1 p a hp
        rw [show (clsAt ls a).toNat = c by omega, hz] at this
        omega
      have hh : headB ls k = true := (headB_iff ls k).2 ⟨by omega, hnew⟩
      have hH : heads_ ls (k + 1) = heads_ ls k ++ [k] := by rw [heads_succ, hh]; rfl
      have hb : bump s.1 c s.2 = fun q => if q = c then s.2 + 1 else s.1 q := by unfold bump; rw [if_pos hz]
      have hn : nxt s.1 c s.2 = s.2 + 1 := by unfold nxt; rw [if_pos hz]
      have hvv : clsAt (canonF ls) k = s.2 := by rw [hv]; unfold canVal; rw [if_neg hneg, hc, Int.toNat_natCast, hb]; simp
      have hi3 := h.i3
      refine ⟨?_, by omega, by omega⟩
      unfold canStep
      rw [if_neg hneg, hc, Int.toNat_natCast, hb, hn]
      have hold : ∀ (p a : Nat), (heads_ ls k)[p]? = some a → (clsAt ls a).toNat ≠ c := by
        intro p a hp he
        have h1 := h.i1 p a hp
        rw [he, hz] at h1
        omega
      refine ⟨fun p a hp => ?_, fun q hq => ?_, by rw [hH]; simp; omega, fun j hj h0 => ?_, ?_⟩
      · rw [hH] at hp
        rcases Nat.lt_or_ge p (heads_ ls k).length with h1 | h1
        · rw [List.getElem?_append_left h1] at hp
          simp only
          rw [if_neg (hold p a hp)]
          exact h.i1 p a hp
        · rw [List.getElem?_append_right h1] at hp
          cases hd : p - (heads_ ls k).length with
          | zero =>
            rw [hd] at hp
            simp at hp
            subst hp
            simp only
            rw [if_pos (by omega)]
            omega
          | succ d => rw [hd] at hp; simp at hp
      · simp only at hq
        by_cases he : q = c
        · subst he
          exact ⟨(heads_ ls k).length, k, by rw [hH]; simp, by omega⟩
        · rw [if_neg he] at hq
          obtain ⟨p, a, hp, hca⟩ := h.i2 q hq
          exact ⟨p, a, by rw [hH, List.getElem?_append_left (List.getElem?_eq_some_iff.1 hp).1]; exact hp, hca⟩
      · rw [hH]
        rcases Nat.lt_or_ge j k with h1 | h1
        · obtain ⟨a, ha, hac⟩ := h.i4 j h1 h0
          exact ⟨a, List.mem_append_left _ ha, hac⟩
        · have : j = k := by omega
          subst this
          exact ⟨j, by simp, rfl⟩
      · rw [clsPre, clsStep, hvv, if_neg (by omega), if_pos (by omega), h.i5, hH, List.map_append]
        congr 1
        · apply List.map_congr_left
          intro a ha
          obtain ⟨h1, h2⟩ := heads_mem.1 ha
          exact (grp_skip ls a k h2 h1 (hnew a h1)).symm
        · have : alikeB ls k k = true := by unfold alikeB; simp
          simp [grpPre_succ ls k k (Nat.le_refl _), grpPre_start, this]
    · obtain ⟨p, a, hp, hca⟩ := h.i2 c hz
      have hs1 := h.i1 p a hp
      rw [show (clsAt ls a).toNat = c by omega] at hs1
      obtain ⟨hak, hah⟩ := heads_mem.1 (List.mem_of_getElem? hp)
      have hh : headB ls k = false := by
        cases hb : headB ls k with
        | false => rfl
        | true => exact absurd (by omega) (((headB_iff ls k).1 hb).2 a hak)
      have hH : heads_ ls (k + 1) = heads_ ls k := by rw [heads_succ, hh]; rfl
      have hb : bump s.1 c s.2 = s.1 := by unfold bump; rw [if_neg hz]
      have hn : nxt s.1 c s.2 = s.2 := by unfold nxt; rw [if_neg hz]
      have hvv : clsAt (canonF ls) k = p := by rw [hv]; unfold canVal; rw [if_neg hneg, hc, Int.toNat_natCast, hb]; omega
      have hpl : p < (heads_ ls k).length := (List.getElem?_eq_some_iff.1 hp).1
      refine ⟨?_, by omega, by omega⟩
      unfold canStep
      rw [if_neg hneg, hc, Int.toNat_natCast, hb, hn]
      refine ⟨by rw [hH]; exact h.i1, by rw [hH]; exact h.i2, by rw [hH]; exact h.i3, fun j hj h0 => ?_, ?_⟩
      · rw [hH]
        rcases Nat.lt_or_ge j k with h1 | h1
        · exact h.i4 j h1 h0
        · have : j = k := by omega
          subst this
          exact ⟨a, List.mem_of_getElem? hp, by omega⟩
      · rw [clsPre, clsStep, hvv, if_neg (by omega), if_neg (by omega), h.i5, hH, Int.toNat_natCast]
        apply List.ext_getElem?
        intro q
        rw [List.getElem?_set]
        by_cases he : p = q
        · subst he
          rw [if_pos rfl]
          simp only [List.getD_eq_getElem?_getD, List.getElem?_map, hp, List.length_map, hpl, if_true]
          simp
          exact (grp_take ls a k hah hak (by omega)).symm
        · rw [if_neg he, List.getElem?_map, List.getElem?_map]
          cases hq : (heads_ ls k)[q]? with
          | none => rfl
          | some b =>
            obtain ⟨h1, h2⟩ := heads_mem.1 (List.mem_of_getElem? hq)
            have hne : clsAt ls b ≠ clsAt ls k := by
              intro hbe
              have := h.i1 q b hq
              rw [show (clsAt ls b).toNat = c by omega, hs1] at this
              omega
            simp only [Option.map_some]
            rw [grp_skip ls b k h2 h1 hne]

theorem canInv_all (ls : List (Int × Int)) : ∀ k, k ≤ ls.length → CanInv ls k (canFold (fun _ => 0, 0) ls k) := by
  intro k
  induction k with
  | zero => intro _; cases ls <;> exact canInv_zero _
  | succ k ih =>
    intro hk
    rw [canFold_succ ls _ k (by omega)]
    exact (canInv_step (ih (by omega)) (canGo_at ls (fun _ => 0, 0) k (by omega))).1
theorem canon_fits (ls : List (Int × Int)) (hok : ∀ p ∈ ls, lineOk p = true) : ∀ k, k < ls.length → clsAt (canonF ls) k ≤ (clsPre (canonF ls) k).length ∧ -1 ≤ clsAt (canonF ls) k := by
  intro k hk
  obtain ⟨_, h1, h2⟩ := canInv_step (canInv_all ls k (by omega)) (canGo_at ls (fun _ => 0, 0) k hk)
  refine ⟨h1, h2 ?_⟩
  rw [clsAt_get hk]
  exact ((lineOk_iff _).1 (hok _ (List.getElem_mem hk))).1
theorem classes_same (ls : List (Int × Int)) : clsPre (canonF ls) ls.length = refPre ls ls.length := (canInv_all ls ls.length (Nat.le_refl _)).i5
end Go.Proofs.Ytbjfbmienlojkaa
