/- Join: the plain law: marks that point to earlier lines, their roots, and the least mark of what hangs together.
   Join's closure: the root of a line. -/
import Derived.Test.YtbjfbmienlojkaaT47
namespace Go.Proofs.Ytbjfbmienlojkaa
open Go.RowKit

/-- a mark is laid anew -/
def upd (f : Nat → Nat) (i x : Nat) : Nat → Nat := fun j => if j = i then x else f j
theorem upd_same (f : Nat → Nat) (i x : Nat) : upd f i x i = x := by simp [upd]
theorem upd_other (f : Nat → Nat) (i x : Nat) {j : Nat} (h : j ≠ i) : upd f i x j = f j := by simp [upd, h]
/-- the root of a line: the marks followed while they fall -/
def root (f : Nat → Nat) (i : Nat) : Nat := if f i < i then root f (f i) else i
termination_by i
theorem root_low {f : Nat → Nat} {i : Nat} (h : f i < i) : root f i = root f (f i) := by rw [root, if_pos h]
theorem root_top {f : Nat → Nat} {i : Nat} (h : ¬ f i < i) : root f i = i := by rw [root, if_neg h]
theorem root_le (f : Nat → Nat) (i : Nat) : root f i ≤ i := by
  induction i using Nat.strongRecOn with
  | _ i ih =>
    by_cases h : f i < i
    · rw [root_low h]
      exact Nat.le_trans (ih _ h) (Nat.le_of_lt h)
    · rw [root_top h]
      exact Nat.le_refl _
theorem root_end (f : Nat → Nat) (i : Nat) : ¬ f (root f i) < root f i := by
  induction i using Nat.strongRecOn with
  | _ i ih =>
    by_cases h : f i < i
    · rw [root_low h]
      exact ih _ h
    · rw [root_top h]
      exact h
theorem root_fix {f : Nat → Nat} (hf : ∀ i, f i ≤ i) (i : Nat) : f (root f i) = root f i := by
  have := root_end f i
  have := hf (root f i)
  omega
theorem root_root (f : Nat → Nat) (i : Nat) : root f (root f i) = root f i := root_top (root_end f i)
theorem root_keep {f h : Nat → Nat} {n : Nat} (hc : ∀ i, i < n → h (f i) = h i) {i : Nat} (hi : i < n) : h (root f i) = h i := by
  induction i using Nat.strongRecOn with
  | _ i ih =>
    by_cases hlt : f i < i
    · rw [root_low hlt, ih _ hlt (by omega), hc i hi]
    · rw [root_top hlt]
/-- two roots made one -/
theorem root_join {f : Nat → Nat} {M m : Nat} (hM : ¬ f M < M) (hm : ¬ f m < m) (hle : m ≤ M) (z : Nat) : root (upd f M m) z = if root f z = M then m else root f z := by
  by_cases he : m = M
  · subst he
    have hsame : ∀ z, root (upd f m m) z = root f z := by
      intro z
      induction z using Nat.strongRecOn with
      | _ z ih =>
        by_cases hz : z = m
        · subst hz
          rw [root_top hm, root_top (by rw [upd_same]; omega)]
        · by_cases hlt : f z < z
          · rw [root_low hlt, root_low (by rw [upd_other _ _ _ hz]; exact hlt), upd_other _ _ _ hz, ih _ hlt]
          · rw [root_top hlt, root_top (by rw [upd_other _ _ _ hz]; exact hlt)]
    rw [hsame]
    split
    · assumption
    · rfl
  · have hmr : root (upd f M m) m = m := root_top (by rw [upd_other _ _ _ he]; exact hm)
    induction z using Nat.strongRecOn with
    | _ z ih =>
      by_cases hz : z = M
      · subst hz
        rw [root_top hM, if_pos rfl, root_low (by rw [upd_same]; omega), upd_same, hmr]
      · by_cases hlt : f z < z
        · rw [root_low hlt, root_low (by rw [upd_other _ _ _ hz]; exact hlt), upd_other _ _ _ hz, ih _ hlt]
        · rw [root_top hlt, root_top (by rw [upd_other _ _ _ hz]; exact hlt), if_neg hz]
/-- a path made short -/
theorem root_short (f : Nat → Nat) (i z : Nat) : root (upd f i (root f i)) z = root f z := by
  induction z using Nat.strongRecOn with
  | _ z ih =>
    by_cases hz : z = i
    · subst hz
      by_cases hlt : root f z < z
      · rw [root_low (by rw [upd_same]; exact hlt), upd_same, ih _ hlt, root_root]
      · have hle := root_le f z
        rw [root_top (by rw [upd_same]; exact hlt)]
        omega
    · by_cases hlt : f z < z
      · rw [root_low hlt, root_low (by rw [upd_other _ _ _ hz]; exact hlt), upd_other _ _ _ hz, ih _ hlt]
      · rw [root_top hlt, root_top (by rw [upd_other _ _ _ hz]; exact hlt)]

/-- h is one on lines that are alike by l1 or by l2 -/
def Resp (n : Nat) (l1 l2 : List (Int × Int)) (h : Nat → Nat) : Prop := ∀ i k, i < n → k < n → (alikeB l1 i k = true ∨ alikeB l2 i k = true) → h i = h k
/-- g gives the least line that hangs together with a line -/
def Least (n : Nat) (l1 l2 : List (Int × Int)) (g : Nat → Nat) : Prop := (∀ i, i < n → g i ≤ i) ∧ Resp n l1 l2 g ∧ ∀ h, Resp n l1 l2 h → ∀ i, i < n → h (g i) = h i
theorem Least.one {n : Nat} {l1 l2 : List (Int × Int)} {g g' : Nat → Nat} (a : Least n l1 l2 g) (b : Least n l1 l2 g') {i : Nat} (hi : i < n) : g i = g' i := by
  have h1 := a.1 i hi
  have h2 := b.1 i hi
  have h3 := a.2.2 g' b.2.1 i hi
  have h4 := b.2.2 g a.2.1 i hi
  have h5 := a.1 (g' i) (by omega)
  have h6 := b.1 (g i) (by omega)
  omega

/-- what the joining of lines knows: the marks fall, are kept by what is one on alike lines, and lines joined so far have one root -/
structure JnInv (n : Nat) (l1 l2 : List (Int × Int)) (done : Nat → Nat → Prop) (f : Nat → Nat) : Prop where
  le : ∀ i, f i ≤ i
  keep : ∀ h, Resp n l1 l2 h → ∀ i, i < n → h (f i) = h i
  one : ∀ i k, done i k → root f i = root f k
theorem JnInv.init (n : Nat) (l1 l2 : List (Int × Int)) : JnInv n l1 l2 (fun _ _ => False) fun i => i := ⟨fun _ => Nat.le_refl _, fun _ _ _ _ => rfl, fun _ _ h => h.elim⟩
theorem JnInv.join {n : Nat} {l1 l2 : List (Int × Int)} {done : Nat → Nat → Prop} {f : Nat → Nat} (h : JnInv n l1 l2 done f) {i k : Nat} (hi : i < n) (hk : k < n) (ha : alikeB l1 i k = true ∨ alikeB l2 i k = true) :
    JnInv n l1 l2 (fun x y => done x y ∨ (x = i ∧ y = k)) (upd f (max (root f i) (root f k)) (min (root f i) (root f k))) := by
  have e1 := root_end f i
  have e2 := root_end f k
  have q1 := root_le f i
  have q2 := root_le f k
  have hM : ¬ f (max (root f i) (root f k)) < max (root f i) (root f k) := by
    rcases Nat.le_total (root f i) (root f k) with c | c
    · rw [Nat.max_eq_right c]; exact e2
    · rw [Nat.max_eq_left c]; exact e1
  have hm : ¬ f (min (root f i) (root f k)) < min (root f i) (root f k) := by
    rcases Nat.le_total (root f i) (root f k) with c | c
    · rw [Nat.min_eq_left c]; exact e1
    · rw [Nat.min_eq_right c]; exact e2
  have hle : min (root f i) (root f k) ≤ max (root f i) (root f k) := by omega
  refine ⟨fun j => ?_, fun g hg j hj => ?_, fun x y hxy => ?_⟩
  · by_cases e : j = max (root f i) (root f k)
    · subst e; rw [upd_same]; exact hle
    · rw [upd_other _ _ _ e]; exact h.le j
  · by_cases e : j = max (root f i) (root f k)
    · have k1 := root_keep (h.keep g hg) hi
      have k2 := root_keep (h.keep g hg) hk
      have k3 := hg i k hi hk ha
      subst e
      rw [upd_same]
      rcases Nat.le_total (root f i) (root f k) with c | c
      · rw [Nat.min_eq_left c, Nat.max_eq_right c]; omega
      · rw [Nat.min_eq_right c, Nat.max_eq_left c]; omega
    · rw [upd_other _ _ _ e]; exact h.keep g hg j hj
  · rw [root_join hM hm hle, root_join hM hm hle]
    rcases hxy with hxy | ⟨rfl, rfl⟩
    · rw [h.one x y hxy]
    · split <;> split <;> omega
theorem JnInv.weak {n : Nat} {l1 l2 : List (Int × Int)} {d d' : Nat → Nat → Prop} {f : Nat → Nat} (h : JnInv n l1 l2 d f) (hd : ∀ x y, d' x y → d x y) : JnInv n l1 l2 d' f := ⟨h.le, h.keep, fun x y hxy => h.one x y (hd x y hxy)⟩
/-- the lines joined: of the first scheme the first i, of the second the first k -/
def joined (l1 l2 : List (Int × Int)) (i k : Nat) (x y : Nat) : Prop := (x < i ∧ 0 ≤ clsAt l1 x ∧ y = firstF l1 x) ∨ (x < k ∧ 0 ≤ clsAt l2 x ∧ y = firstF l2 x)
theorem alike_first (ls : List (Int × Int)) (i : Nat) (h : 0 ≤ clsAt ls i) : alikeB ls i (firstF ls i) = true := (alikeB_iff _ _ _).2 (.inr ⟨h, (firstF_self ls i).symm⟩)
theorem JnInv.skip1 {n i k : Nat} {l1 l2 : List (Int × Int)} {f : Nat → Nat} (h : JnInv n l1 l2 (joined l1 l2 i k) f) (hc : clsAt l1 i < 0) : JnInv n l1 l2 (joined l1 l2 (i + 1) k) f :=
  h.weak fun x y hxy => by
    rcases hxy with ⟨a, b, c⟩ | hxy
    · rcases Nat.lt_or_ge x i with h1 | h1
      · exact .inl ⟨h1, b, c⟩
      · obtain rfl : x = i := by omega
        omega
    · exact .inr hxy
theorem JnInv.skip2 {n i k : Nat} {l1 l2 : List (Int × Int)} {f : Nat → Nat} (h : JnInv n l1 l2 (joined l1 l2 i k) f) (hc : clsAt l2 k < 0) : JnInv n l1 l2 (joined l1 l2 i (k + 1)) f :=
  h.weak fun x y hxy => by
    rcases hxy with hxy | ⟨a, b, c⟩
    · exact .inl hxy
    · rcases Nat.lt_or_ge x k with h1 | h1
      · exact .inr ⟨h1, b, c⟩
      · obtain rfl : x = k := by omega
        omega
theorem JnInv.step1 {n i k : Nat} {l1 l2 : List (Int × Int)} {f : Nat → Nat} (h : JnInv n l1 l2 (joined l1 l2 i k) f) (hi : i < n) (hc : 0 ≤ clsAt l1 i) :
    JnInv n l1 l2 (joined l1 l2 (i + 1) k) (upd f (max (root f i) (root f (firstF l1 i))) (min (root f i) (root f (firstF l1 i)))) :=
  (h.join hi (Nat.lt_of_le_of_lt (firstF_le l1 i) hi) (.inl (alike_first l1 i hc))).weak fun x y hxy => by
    rcases hxy with ⟨a, b, c⟩ | hxy
    · rcases Nat.lt_or_ge x i with h1 | h1
      · exact .inl (.inl ⟨h1, b, c⟩)
      · obtain rfl : x = i := by omega
        exact .inr ⟨rfl, c⟩
    · exact .inl (.inr hxy)
theorem JnInv.step2 {n i k : Nat} {l1 l2 : List (Int × Int)} {f : Nat → Nat} (h : JnInv n l1 l2 (joined l1 l2 i k) f) (hk : k < n) (hc : 0 ≤ clsAt l2 k) :
    JnInv n l1 l2 (joined l1 l2 i (k + 1)) (upd f (max (root f k) (root f (firstF l2 k))) (min (root f k) (root f (firstF l2 k)))) :=
  (h.join hk (Nat.lt_of_le_of_lt (firstF_le l2 k) hk) (.inr (alike_first l2 k hc))).weak fun x y hxy => by
    rcases hxy with hxy | ⟨a, b, c⟩
    · exact .inl (.inl hxy)
    · rcases Nat.lt_or_ge x k with h1 | h1
      · exact .inl (.inr ⟨h1, b, c⟩)
      · obtain rfl : x = k := by omega
        exact .inr ⟨rfl, c⟩
theorem first_one {ls : List (Int × Int)} {i k : Nat} (h : alikeB ls i k = true) (hne : i ≠ k) : 0 ≤ clsAt ls i ∧ 0 ≤ clsAt ls k ∧ firstF ls i = firstF ls k := by
  rcases (alikeB_iff ls i k).1 h with h1 | ⟨h0, hc⟩
  · exact absurd h1 hne
  · refine ⟨h0, by omega, ?_⟩
    rcases Nat.lt_or_ge k i with h1 | h1
    · exact (firstF_same ls h1 h0 hc).1
    · exact (firstF_same ls (i := k) (k := i) (by omega) (by omega) hc.symm).1.symm
/-- all lines joined: the roots are the least lines -/
theorem JnInv.least {n : Nat} {l1 l2 : List (Int × Int)} {f : Nat → Nat} (h : JnInv n l1 l2 (joined l1 l2 n n) f) : Least n l1 l2 (root f) := by
  refine ⟨fun i _ => root_le f i, fun i k hi hk ha => ?_, fun g hg i hi => root_keep (h.keep g hg) hi⟩
  by_cases hne : i = k
  · rw [hne]
  · rcases ha with ha | ha
    · obtain ⟨c1, c2, c3⟩ := first_one ha hne
      rw [h.one i _ (.inl ⟨hi, c1, rfl⟩), h.one k _ (.inl ⟨hk, c2, rfl⟩), c3]
    · obtain ⟨c1, c2, c3⟩ := first_one ha hne
      rw [h.one i _ (.inr ⟨hi, c1, rfl⟩), h.one k _ (.inr ⟨hk, c2, rfl⟩), c3]

/-- the last pass: the first t marks are roots -/
structure JnTop (f g : Nat → Nat) (t : Nat) : Prop where
  same : ∀ z, root g z = root f z
  laid : ∀ j, j < t → g j = root f j
  le : ∀ i, g i ≤ i
theorem JnTop.init {f : Nat → Nat} (h : ∀ i, f i ≤ i) : JnTop f f 0 := ⟨fun _ => rfl, fun _ hj => absurd hj (Nat.not_lt_zero _), h⟩
theorem JnTop.next {f g : Nat → Nat} {t : Nat} (h : JnTop f g t) : JnTop f (upd g t (root g t)) (t + 1) := by
  refine ⟨fun z => (root_short g t z).trans (h.same z), fun j hj => ?_, fun i => ?_⟩
  · by_cases e : j = t
    · subst e; rw [upd_same]; exact h.same j
    · rw [upd_other _ _ _ e]; exact h.laid j (by omega)
  · by_cases e : i = t
    · subst e; rw [upd_same]; exact root_le g i
    · rw [upd_other _ _ _ e]; exact h.le i

/-- one line joined with the first of its class -/
def jnStep (ls : List (Int × Int)) (i : Nat) (f : Nat → Nat) : Nat → Nat := if 0 ≤ clsAt ls i then upd f (max (root f i) (root f (firstF ls i))) (min (root f i) (root f (firstF ls i))) else f
/-- the first i lines of a scheme joined -/
def jnRun (ls : List (Int × Int)) (f : Nat → Nat) : Nat → Nat → Nat
  | 0 => f
  | i + 1 => jnStep ls i (jnRun ls f i)
theorem jnRun_one {n : Nat} (l1 l2 : List (Int × Int)) : ∀ i, i ≤ n → JnInv n l1 l2 (joined l1 l2 i 0) (jnRun l1 (fun i => i) i) := by
  intro i
  induction i with
  | zero => exact fun _ => (JnInv.init n l1 l2).weak fun x y hxy => by rcases hxy with ⟨a, _⟩ | ⟨a, _⟩ <;> omega
  | succ i ih =>
    intro hi
    have hf := ih (by omega)
    unfold jnRun jnStep
    by_cases hc : 0 ≤ clsAt l1 i
    · rw [if_pos hc]
      exact hf.step1 (by omega) hc
    · rw [if_neg hc]
      exact hf.skip1 (by omega)
theorem jnRun_two {n : Nat} (l1 l2 : List (Int × Int)) : ∀ k, k ≤ n → JnInv n l1 l2 (joined l1 l2 n k) (jnRun l2 (jnRun l1 (fun i => i) n) k) := by
  intro k
  induction k with
  | zero => exact fun _ => jnRun_one l1 l2 n (Nat.le_refl _)
  | succ k ih =>
    intro hk
    have hf := ih (by omega)
    unfold jnRun jnStep
    by_cases hc : 0 ≤ clsAt l2 k
    · rw [if_pos hc]
      exact hf.step2 (by omega) hc
    · rw [if_neg hc]
      exact hf.skip2 (by omega)
theorem jnRun_le {ls : List (Int × Int)} {f : Nat → Nat} (hf : ∀ j, f j ≤ j) (i : Nat) : ∀ j, jnRun ls f i j ≤ j := by
  induction i with
  | zero => exact hf
  | succ i ih =>
    intro j
    unfold jnRun jnStep
    split
    · have h1 := root_le (jnRun ls f i) i
      by_cases e : j = max (root (jnRun ls f i) i) (root (jnRun ls f i) (firstF ls i))
      · rw [e, upd_same]; omega
      · rw [upd_other _ _ _ e]; exact ih j
    · exact ih j
/-- all lines of both schemes joined -/
def jnAll (l1 l2 : List (Int × Int)) (n : Nat) : Nat → Nat := jnRun l2 (jnRun l1 (fun i => i) n) n
/-- Join's marks -/
def jnF (l1 l2 : List (Int × Int)) (n : Nat) : List Int := (List.range n).map fun j => (root (jnAll l1 l2 n) j : Int)
theorem jnF_len (l1 l2 : List (Int × Int)) (n : Nat) : (jnF l1 l2 n).length = n := by simp [jnF]
theorem jn_least (l1 l2 : List (Int × Int)) (n : Nat) : Least n l1 l2 (root (jnAll l1 l2 n)) := (jnRun_two l1 l2 n (Nat.le_refl _)).least
/-- marks as a list -/
def mks (n : Nat) (f : Nat → Nat) : List Int := (List.range n).map fun j => (f j : Int)
theorem mks_len (n : Nat) (f : Nat → Nat) : (mks n f).length = n := by simp [mks]
theorem mks_get {n : Nat} (f : Nat → Nat) {i : Nat} (h : i < n) : (mks n f)[i]? = some (f i : Int) := by
  unfold mks
  rw [List.getElem?_map, List.getElem?_range h]
  rfl
theorem mks_same {n : Nat} {f g : Nat → Nat} (h : ∀ j, j < n → f j = g j) : mks n f = mks n g := by
  unfold mks
  refine List.map_congr_left fun j hj => ?_
  rw [h j (List.mem_range.1 hj)]
theorem mks_upd (n : Nat) (f : Nat → Nat) (i x : Nat) : (mks n f).set i (x : Int) = mks n (upd f i x) := by
  apply List.ext_getElem?
  intro j
  rw [List.getElem?_set]
  by_cases hj : j < n
  · rw [mks_get _ hj, mks_get _ hj]
    by_cases e : i = j
    · subst e
      rw [if_pos rfl, if_pos (by rw [mks_len]; exact hj), upd_same]
    · rw [if_neg e, upd_other _ _ _ (fun he => e he.symm)]
  · have o1 : (mks n f)[j]? = none := by rw [List.getElem?_eq_none_iff, mks_len]; omega
    have o2 : (mks n (upd f i x))[j]? = none := by rw [List.getElem?_eq_none_iff, mks_len]; omega
    rw [o1, o2]
    split
    · rw [if_neg (by rw [mks_len]; omega)]
    · rfl
theorem jnF_of {n : Nat} {l1 l2 : List (Int × Int)} {g : Nat → Nat} (h : Least n l1 l2 g) : mks n g = jnF l1 l2 n := mks_same fun _ hj => h.one (jn_least l1 l2 n) hj

/-- what the reference's joining knows -/
structure RjInv (n : Nat) (l1 l2 : List (Int × Int)) (f : Nat → Nat) : Prop where
  le : ∀ i, f i ≤ i
  keep : ∀ h, Resp n l1 l2 h → ∀ i, i < n → h (f i) = h i
theorem RjInv.init (n : Nat) (l1 l2 : List (Int × Int)) : RjInv n l1 l2 fun i => i := ⟨fun _ => Nat.le_refl _, fun _ _ _ _ => rfl⟩
theorem RjInv.move {n : Nat} {l1 l2 : List (Int × Int)} {f : Nat → Nat} (h : RjInv n l1 l2 f) {i k : Nat} (hi : i < n) (hk : k < n) (ha : alikeB l1 i k = true ∨ alikeB l2 i k = true) (hl : f k < f i) : RjInv n l1 l2 (upd f i (f k)) := by
  refine ⟨fun j => ?_, fun g hg j hj => ?_⟩
  · by_cases e : j = i
    · subst e; rw [upd_same]; have := h.le j; omega
    · rw [upd_other _ _ _ e]; exact h.le j
  · by_cases e : j = i
    · subst e; rw [upd_same, h.keep g hg k hk]; exact (hg j k hi hk ha).symm
    · rw [upd_other _ _ _ e]; exact h.keep g hg j hj
theorem alike_symm {ls : List (Int × Int)} {i k : Nat} (h : alikeB ls i k = true) : alikeB ls k i = true := by
  rcases (alikeB_iff ls i k).1 h with h | ⟨a, b⟩
  · exact (alikeB_iff ls k i).2 (.inl h.symm)
  · exact (alikeB_iff ls k i).2 (.inr ⟨by omega, b.symm⟩)
/-- nothing moves: the marks are the least lines -/
theorem RjInv.least {n : Nat} {l1 l2 : List (Int × Int)} {f : Nat → Nat} (h : RjInv n l1 l2 f) (hs : ∀ i, i < n → ∀ k, k < n → (alikeB l1 i k = true ∨ alikeB l2 i k = true) → ¬ f k < f i) : Least n l1 l2 f := by
  refine ⟨fun i _ => h.le i, fun i k hi hk ha => ?_, h.keep⟩
  have h1 := hs i hi k hk ha
  have h2 := hs k hk i hi (ha.imp alike_symm alike_symm)
  omega
/-- the marks' sum -/
def sumM (n : Nat) (f : Nat → Nat) : Nat := ((List.range n).map f).sum
theorem sumM_succ (n : Nat) (f : Nat → Nat) : sumM (n + 1) f = sumM n f + f n := by simp [sumM, List.range_succ]
theorem sumM_upd {n : Nat} {f : Nat → Nat} {i x : Nat} : sumM n (upd f i x) + (if i < n then f i else 0) = sumM n f + if i < n then x else 0 := by
  induction n with
  | zero => rfl
  | succ n ih =>
    rw [sumM_succ, sumM_succ]
    by_cases e : i = n
    · subst e
      rw [upd_same]
      rw [if_neg (Nat.lt_irrefl _), if_neg (Nat.lt_irrefl _)] at ih
      rw [if_pos (Nat.lt_succ_self _), if_pos (Nat.lt_succ_self _)]
      omega
    · rw [upd_other _ _ _ (fun he => e he.symm)]
      by_cases h : i < n
      · rw [if_pos h, if_pos h] at ih
        rw [if_pos (by omega), if_pos (by omega)]
        omega
      · rw [if_neg h, if_neg h] at ih
        rw [if_neg (by omega), if_neg (by omega)]
        omega
theorem sumM_less {n : Nat} {f : Nat → Nat} {i x : Nat} (hi : i < n) (hx : x < f i) : sumM n (upd f i x) < sumM n f := by
  have h := sumM_upd (n := n) (f := f) (i := i) (x := x)
  rw [if_pos hi, if_pos hi] at h
  omega
end Go.Proofs.Ytbjfbmienlojkaa

namespace Go.Proofs.Ytbjfbmienlojkaa
open Go.RowKit

set_option maxHeartbeats 1000000 in
set_option maxRecDepth 100000 in
theorem top_any (b g n i : Nat) (f : Nat → Nat) (w : World) (hx : w.cell? ⟨b, 0, none⟩ = some (.slice (some ⟨g, 0, none⟩) n n)) (hc : ∀ j, j < n → w.cell? ⟨g, j, none⟩ = some (.int .i64 (f j))) (hf : ∀ j, f j ≤ j) (hi : i < n) :
    Calls Try.prog 73 #[.int .i64 i, .pointer (some ⟨b, 0, none⟩)] w fun e w' => e = .returned (.int .i64 (root f i)) ∧ w = w' := by
  have HC := Lib.hid (And.intro hc hf)
  clear hc hf
  go_enter Try.func73, Try.ntmps73
  go_wp2
  go_loopw [0] (fun iv wr => ∃ j : Nat, j < n ∧ iv = .int .i64 j ∧ Hid (root f j = root f i) ∧ wr = w) (fun iv _ => (intOf iv).toNat)
  case atStart => exact ⟨i, hi, rfl, Lib.hid rfl, rfl⟩
  case round =>
    obtain ⟨j, hj, rfl, HR, rfl⟩ := hrel
    have hcj := HC.out.1 j hj
    have hle := HC.out.2 j
    generalize hfj : f j = fj at hcj hle
    have HF := Lib.hid hfj
    clear hfj
    by_cases he : fj = j
    · subst he
      go_wp2
      go_ret
      exact ⟨ret_int (by rw [← HR.out, root_top (i := fj) (by rw [HF.out]; omega)]), rfl⟩
    · have hne : ((fj : Int) != (j : Int)) = true := by simp; omega
      go_wp2
      go_roundw
      case rel => exact ⟨fj, by omega, rfl, Lib.hid (by rw [← HR.out, root_low (i := j) (by rw [HF.out]; omega), HF.out]), trivial⟩
      case measure => simp [intOf]; omega
end Go.Proofs.Ytbjfbmienlojkaa
