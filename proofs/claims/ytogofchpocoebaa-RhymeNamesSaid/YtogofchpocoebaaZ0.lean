/- Numbers of classes: whoever numbers them in the order of their first ones, numbers them alike (no program in sight).
   Rows of ints as functions; labels in memory. -/
import Derived.Test.YtogofchpocoebaaMem
import Derived.Test.YtogofchpocoebaaGen
namespace Go.Proofs.Ytogofchpocoebaa

/-- a row of near ones leads from the one to the other -/
def Conn (N : Nat) (r : Nat → Nat → Bool) (i j : Nat) : Prop := ∀ S : Nat → Prop, S i → (∀ a b, a < N → b < N → S a → r a b = true → S b) → S j
section
variable {N : Nat} {r : Nat → Nat → Bool} {i j k : Nat}
theorem Conn.refl (N : Nat) (r : Nat → Nat → Bool) (i : Nat) : Conn N r i i := fun _ h _ => h
theorem Conn.step (h : Conn N r i j) (hj : j < N) (hk : k < N) (hr : r j k = true) : Conn N r i k := fun S h0 hs => hs j k hj hk (h S h0 hs) hr
theorem Conn.trans (h : Conn N r i j) (g : Conn N r j k) : Conn N r i k := fun S h0 hs => g S (h S h0 hs) hs
theorem Conn.symm (hr : ∀ a b, r a b = r b a) (h : Conn N r i j) : Conn N r j i :=
  h (fun x => Conn N r x i) (Conn.refl N r i) (fun a b ha hb hai hab => ((Conn.refl N r b).step hb ha (by rw [hr]; exact hab)).trans hai)
end

/-- f numbers the classes of R in the order of their first ones -/
structure Num (N : Nat) (R : Nat → Nat → Prop) (f : Nat → Nat) : Prop where
  iff : ∀ i j, i < N → j < N → (f i = f j ↔ R i j)
  mex : ∀ i, i < N → ∀ m, m < f i → ∃ j, j < i ∧ f j = m
theorem Num.one {N : Nat} {R : Nat → Nat → Prop} {f g : Nat → Nat} (hf : Num N R f) (hg : Num N R g) : ∀ i, i < N → f i = g i := by
  intro i
  induction i using Nat.strongRecOn with
  | _ i ih =>
    intro hi
    by_cases hex : ∃ j, j < i ∧ f j = f i
    · obtain ⟨j, hj, e⟩ := hex
      have h1 := (hf.iff j i (by omega) hi).1 e
      have h2 := (hg.iff j i (by omega) hi).2 h1
      rw [← e, ← h2]
      exact ih j hj (by omega)
    · have hno : ∀ j, j < i → g j ≠ g i := fun j hj e => hex ⟨j, hj, (hf.iff j i (by omega) hi).2 ((hg.iff j i (by omega) hi).1 e)⟩
      rcases Nat.lt_trichotomy (f i) (g i) with h | h | h
      · obtain ⟨j, hj, e⟩ := hg.mex i hi _ h
        exact absurd ⟨j, hj, by rw [ih j hj (by omega), e]⟩ hex
      · exact h
      · obtain ⟨j, hj, e⟩ := hf.mex i hi _ h
        exact absurd (by rw [← ih j hj (by omega), e]) (hno j hj)
theorem Num.of_iff {N : Nat} {R S : Nat → Nat → Prop} {f : Nat → Nat} (h : Num N R f) (hRS : ∀ i j, i < N → j < N → (R i j ↔ S i j)) : Num N S f :=
  ⟨fun i j hi hj => (h.iff i j hi hj).trans (hRS i j hi hj), h.mex⟩

/-- where labels no longer sink, they tell the linked ones apart -/
theorem fix_conn {N : Nat} {r : Nat → Nat → Bool} (hr : ∀ a b, r a b = r b a) {f : Nat → Nat} (h1 : ∀ i, i < N → Conn N r (f i) i) (h2 : ∀ i j, i < N → j < N → r i j = true → ¬ f j < f i) :
    ∀ i j, i < N → j < N → (f i = f j ↔ Conn N r i j) := by
  intro i j hi hj
  constructor
  · intro e
    have a := (h1 i hi).symm hr
    rw [e] at a
    exact a.trans (h1 j hj)
  · intro hc
    have := hc (fun x => x < N → f i = f x) (fun _ => rfl) (fun a b ha hb ih hab _ => by
      have e1 := ih ha
      have e2 := h2 a b ha hb hab
      have e3 := h2 b a hb ha (by rw [hr]; exact hab)
      omega)
    exact this hj

/-- the last place among the first k at which v stands -/
def ixOf (l : List Nat) (v : Nat) : Nat → Option Nat
  | 0 => none
  | k + 1 => if l[k]? = some v then some k else ixOf l v k
theorem ixOf_some {l : List Nat} {v : Nat} : ∀ {k i : Nat}, ixOf l v k = some i → i < k ∧ l[i]? = some v := by
  intro k
  induction k with
  | zero => intro i h; cases h
  | succ k ih =>
    intro i h
    unfold ixOf at h
    split at h
    · rename_i h'
      injection h with h
      subst h
      exact ⟨by omega, h'⟩
    · obtain ⟨a, b⟩ := ih h
      exact ⟨by omega, b⟩
theorem ixOf_none {l : List Nat} {v : Nat} : ∀ {k : Nat}, ixOf l v k = none → ∀ i, i < k → l[i]? ≠ some v := by
  intro k
  induction k with
  | zero => intro _ i hi; omega
  | succ k ih =>
    intro h i hi
    unfold ixOf at h
    split at h
    · cases h
    · rename_i h'
      rcases Nat.lt_or_ge i k with hik | hik
      · exact ih h i hik
      · have : i = k := by omega
        subst this
        exact h'
/-- labels turned into numbers: the labels met, the numbers -/
def numSt (f : Nat → Nat) : Nat → List Nat × List Nat
  | 0 => ([], [])
  | k + 1 => match ixOf (numSt f k).1 (f k) (numSt f k).1.length with
    | some n => ((numSt f k).1, (numSt f k).2 ++ [n])
    | none => ((numSt f k).1 ++ [f k], (numSt f k).2 ++ [(numSt f k).1.length])
def numF (f : Nat → Nat) (N : Nat) (i : Nat) : Nat := (numSt f N).2.getD i 0
structure NumOk (f : Nat → Nat) (k : Nat) (st : List Nat × List Nat) : Prop where
  len : st.2.length = k
  few : st.1.length ≤ k
  at_ : ∀ j, j < k → st.1[st.2.getD j 0]? = some (f j)
  one : ∀ a b v : Nat, st.1[a]? = some v → st.1[b]? = some v → a = b
  got : ∀ m, m < st.1.length → ∃ j, j < k ∧ st.2.getD j 0 = m
  mex : ∀ i, i < k → ∀ m, m < st.2.getD i 0 → ∃ j, j < i ∧ st.2.getD j 0 = m
theorem getD_snoc_lt {l : List Nat} {x j : Nat} (h : j < l.length) : (l ++ [x]).getD j 0 = l.getD j 0 := by
  rw [List.getD_eq_getElem?_getD, List.getD_eq_getElem?_getD, List.getElem?_append_left h]
theorem getD_snoc_eq {l : List Nat} {x j : Nat} (h : j = l.length) : (l ++ [x]).getD j 0 = x := by
  subst h
  rw [List.getD_eq_getElem?_getD, List.getElem?_append_right (Nat.le_refl _)]
  simp
theorem numSt_ok (f : Nat → Nat) : ∀ k, NumOk f k (numSt f k) := by
  intro k
  induction k with
  | zero => exact ⟨rfl, Nat.le_refl _, fun j hj => by omega, fun a b v h => by simp [numSt] at h, fun m hm => by simp [numSt] at hm, fun i hi => by omega⟩
  | succ k ih =>
    unfold numSt
    generalize numSt f k = st at ih ⊢
    obtain ⟨F, O⟩ := st
    obtain ⟨i1, i2, i3, i4, i5, i6⟩ := ih
    try dsimp only at i1 i2 i3 i4 i5 i6 ⊢
    cases hx : ixOf F (f k) F.length with
    | some n =>
      obtain ⟨hn, hv⟩ := ixOf_some hx
      have hnk : (O ++ [n]).getD k 0 = n := getD_snoc_eq i1.symm
      have hlt : ∀ j, j < k → (O ++ [n]).getD j 0 = O.getD j 0 := fun j hj => getD_snoc_lt (by omega)
      refine ⟨by simp [i1], by dsimp only; omega, fun j hj => ?_, i4, fun m hm => ?_, fun i hi m hm => ?_⟩
      · skip
        rcases Nat.lt_or_ge j k with h | h
        · rw [hlt j h]; exact i3 j h
        · have : j = k := by omega
          subst this
          rw [hnk]; exact hv
      · obtain ⟨j, hj, e⟩ := i5 m hm
        exact ⟨j, by omega, by dsimp only; rw [hlt j hj]; exact e⟩
      · try dsimp only at hm ⊢
        rcases Nat.lt_or_ge i k with h | h
        · rw [hlt i h] at hm
          obtain ⟨j, hj, e⟩ := i6 i h m hm
          exact ⟨j, hj, by rw [hlt j (by omega)]; exact e⟩
        · have : i = k := by omega
          subst this
          rw [hnk] at hm
          obtain ⟨j, hj, e⟩ := i5 m (by omega)
          exact ⟨j, hj, by rw [hlt j hj]; exact e⟩
    | none =>
      have hno := ixOf_none hx
      have hnk : (O ++ [F.length]).getD k 0 = F.length := getD_snoc_eq i1.symm
      have hlt : ∀ j, j < k → (O ++ [F.length]).getD j 0 = O.getD j 0 := fun j hj => getD_snoc_lt (by omega)
      have hin : ∀ a, a < F.length → F[a]? ≠ some (f k) := hno
      have hap : ∀ a v, (F ++ [f k])[a]? = some v → (a < F.length ∧ F[a]? = some v) ∨ (a = F.length ∧ v = f k) := by
        intro a v h
        rcases Nat.lt_or_ge a F.length with ha | ha
        · rw [List.getElem?_append_left ha] at h
          exact .inl ⟨ha, h⟩
        · rw [List.getElem?_append_right ha] at h
          rcases Nat.eq_zero_or_pos (a - F.length) with h0 | h0
          · rw [h0] at h
            simp at h
            exact .inr ⟨by omega, h.symm⟩
          · rw [List.getElem?_eq_none (by simp; omega)] at h
            cases h
      refine ⟨by simp [i1], by simp; omega, fun j hj => ?_, fun a b v ha hb => ?_, fun m hm => ?_, fun i hi m hm => ?_⟩
      · skip
        rcases Nat.lt_or_ge j k with h | h
        · rw [hlt j h]
          have := i3 j h
          rw [List.getElem?_append_left (List.getElem?_eq_some_iff.1 this).1]
          exact this
        · have : j = k := by omega
          subst this
          rw [hnk, List.getElem?_append_right (Nat.le_refl _)]
          simp
      · rcases hap a v ha with ⟨a1, a2⟩ | ⟨a1, a2⟩
        · rcases hap b v hb with ⟨b1, b2⟩ | ⟨b1, b2⟩
          · exact i4 a b v a2 b2
          · subst b2; exact absurd a2 (hin a a1)
        · rcases hap b v hb with ⟨b1, b2⟩ | ⟨b1, b2⟩
          · subst a2; exact absurd b2 (hin b b1)
          · omega
      · try dsimp only at hm ⊢
        rw [List.length_append] at hm
        rcases Nat.lt_or_ge m F.length with h | h
        · obtain ⟨j, hj, e⟩ := i5 m h
          exact ⟨j, by omega, by rw [hlt j hj]; exact e⟩
        · have : m = F.length := by simp at hm; omega
          subst this
          exact ⟨k, by omega, hnk⟩
      · try dsimp only at hm ⊢
        rcases Nat.lt_or_ge i k with h | h
        · rw [hlt i h] at hm
          obtain ⟨j, hj, e⟩ := i6 i h m hm
          exact ⟨j, hj, by rw [hlt j (by omega)]; exact e⟩
        · have : i = k := by omega
          subst this
          rw [hnk] at hm
          obtain ⟨j, hj, e⟩ := i5 m hm
          exact ⟨j, hj, by rw [hlt j hj]; exact e⟩
theorem numF_num (f : Nat → Nat) (N : Nat) : Num N (fun i j => f i = f j) (numF f N) := by
  have h := numSt_ok f N
  refine ⟨fun i j hi hj => ⟨fun e => ?_, fun e => ?_⟩, h.mex⟩
  · have a := h.at_ i hi
    have b := h.at_ j hj
    unfold numF at e
    rw [e, b] at a
    injection a with a
    exact a.symm
  · have a := h.at_ i hi
    have b := h.at_ j hj
    rw [← e] at b
    exact h.one _ _ _ a b

/-! the program's way: from one form to all that a row of near ones leads to -/
/-- labels while the numbers up to 'next' have been given away: below i all are labelled; what is near a labelled one has its label -/
structure WebOk (N : Nat) (r : Nat → Nat → Bool) (o : Nat → Option Nat) (i next : Nat) : Prop where
  all : ∀ j, j < i → (o j).isSome = true
  lt : ∀ j m, j < N → o j = some m → m < next
  link : ∀ a b m, a < N → b < N → o a = some m → r a b = true → o b = some m
  conn : ∀ a b m, a < N → b < N → o a = some m → o b = some m → Conn N r a b
  got : ∀ m, m < next → ∃ j, j < i ∧ o j = some m
  mex : ∀ a n m, a < N → o a = some n → m < n → ∃ j, j < a ∧ o j = some m
/-- while the class of i is gone through: those that wait; from k on, those behind place j are still to be looked at -/
structure BfsOk (N : Nat) (r : Nat → Nat → Bool) (o0 o : Nat → Option Nat) (i next : Nat) (wait : List Nat) (cur : Option (Nat × Nat)) : Prop where
  old : ∀ a m, o0 a = some m → o a = some m
  new : ∀ a m, a < N → o a = some m → o0 a = some m ∨ (o0 a = none ∧ m = next ∧ Conn N r i a)
  start : o i = some next
  wt : ∀ k, k ∈ wait → k < N ∧ o k = some next
  done : ∀ a b, a < N → b < N → o a = some next → r a b = true → a ∈ wait ∨ (∃ j, cur = some (a, j) ∧ j ≤ b) ∨ o b = some next
theorem WebOk.none_ge {N : Nat} {r : Nat → Nat → Bool} {o : Nat → Option Nat} {i next : Nat} (h : WebOk N r o i next) {a : Nat} (ha : o a = none) : i ≤ a := by
  rcases Nat.lt_or_ge a i with hl | hl
  · have := h.all a hl
    rw [ha] at this
    cases this
  · exact hl
section
variable {N : Nat} {r : Nat → Nat → Bool} {o0 o : Nat → Option Nat} {i next k j : Nat} {wait : List Nat}
theorem bfs_start (hw : WebOk N r o i next) (hi : i < N) (h : o i = none) : BfsOk N r o (fun a => if a = i then some next else o a) i next [i] none := by
  refine ⟨fun a m ha => ?_, fun a m _ ha => ?_, if_pos rfl, fun k hk => ?_, fun a b haN _ ha _ => ?_⟩
  · skip
    rw [if_neg (by rintro rfl; rw [h] at ha; cases ha)]
    exact ha
  · try dsimp only at ha
    split at ha
    · rename_i e
      subst e
      injection ha with ha
      exact .inr ⟨h, ha.symm, Conn.refl _ _ _⟩
    · exact .inl ha
  · have : k = i := by simpa using hk
    subst this
    exact ⟨hi, if_pos rfl⟩
  · try dsimp only at ha
    by_cases e : a = i
    · exact .inl (by simp [e])
    · rw [if_neg e] at ha
      have := hw.lt a _ haN ha
      omega
theorem bfs_pop (h : BfsOk N r o0 o i next (k :: wait) none) : BfsOk N r o0 o i next wait (some (k, 0)) := by
  refine ⟨h.old, h.new, h.start, fun x hx => h.wt x (List.mem_cons_of_mem _ hx), fun a b ha hb hao hab => ?_⟩
  rcases h.done a b ha hb hao hab with h1 | ⟨j, h1, _⟩ | h1
  · rcases List.mem_cons.1 h1 with rfl | h1
    · exact .inr (.inl ⟨0, rfl, Nat.zero_le _⟩)
    · exact .inl h1
  · cases h1
  · exact .inr (.inr h1)
theorem bfs_far (h : BfsOk N r o0 o i next wait (some (k, j))) (hj : r k j = false) : BfsOk N r o0 o i next wait (some (k, j + 1)) := by
  refine ⟨h.old, h.new, h.start, h.wt, fun a b ha hb hao hab => ?_⟩
  rcases h.done a b ha hb hao hab with h1 | ⟨j', h1, h2⟩ | h1
  · exact .inl h1
  · injection h1 with h1
    injection h1 with h1 h3
    subst h1 h3
    have : j ≠ b := by rintro rfl; rw [hj] at hab; cases hab
    exact .inr (.inl ⟨j + 1, rfl, by omega⟩)
  · exact .inr (.inr h1)
theorem bfs_skip (hr : ∀ a b, r a b = r b a) (hw : WebOk N r o0 i next) (h : BfsOk N r o0 o i next wait (some (k, j))) (hk : k < N) (hj : j < N) (hs : (o j).isSome = true) : BfsOk N r o0 o i next wait (some (k, j + 1)) := by
  refine ⟨h.old, h.new, h.start, h.wt, fun a b ha hb hao hab => ?_⟩
  rcases h.done a b ha hb hao hab with h1 | ⟨j', h1, h2⟩ | h1
  · exact .inl h1
  · injection h1 with h1
    injection h1 with h1 h3
    subst h1 h3
    by_cases e : j = b
    · subst e
      obtain ⟨m, hm⟩ := Option.isSome_iff_exists.1 hs
      rcases h.new j m hj hm with h4 | ⟨_, h4, _⟩
      · have h5 := h.old _ _ (hw.link j k m hj hk h4 (by rw [hr]; exact hab))
        rw [hao] at h5
        injection h5 with h5
        subst h5
        exact .inr (.inr hm)
      · subst h4
        exact .inr (.inr hm)
    · exact .inr (.inl ⟨j + 1, rfl, by omega⟩)
  · exact .inr (.inr h1)
theorem bfs_take (hw : WebOk N r o0 i next) (h : BfsOk N r o0 o i next wait (some (k, j))) (hk : k < N) (hko : o k = some next) (hj : j < N) (hn : o j = none) (hr : r k j = true) :
    BfsOk N r o0 (fun a => if a = j then some next else o a) i next (wait ++ [j]) (some (k, j + 1)) := by
  have hck : Conn N r i k := by
    rcases h.new k next hk hko with h1 | ⟨_, _, h1⟩
    · have := hw.lt _ _ hk h1; omega
    · exact h1
  have h0j : o0 j = none := by
    cases hh : o0 j with
    | none => rfl
    | some m => have := h.old _ _ hh; rw [hn] at this; cases this
  refine ⟨fun a m ha => ?_, fun a m haN ha => ?_, ?_, fun x hx => ?_, fun a b ha hb hao hab => ?_⟩
  · skip
    rw [if_neg (by rintro rfl; rw [h0j] at ha; cases ha)]
    exact h.old _ _ ha
  · try dsimp only at ha
    split at ha
    · rename_i e
      subst e
      injection ha with ha
      exact .inr ⟨h0j, ha.symm, hck.step hk haN hr⟩
    · exact h.new a m haN ha
  · skip
    split
    · rfl
    · exact h.start
  · skip
    rcases List.mem_append.1 hx with hx | hx
    · refine ⟨(h.wt x hx).1, ?_⟩
      split
      · rfl
      · exact (h.wt x hx).2
    · have : x = j := by simpa using hx
      subst this
      exact ⟨hj, if_pos rfl⟩
  · try dsimp only at hao ⊢
    by_cases e : a = j
    · subst e
      exact .inl (by simp)
    · rw [if_neg e] at hao
      rcases h.done a b ha hb hao hab with h1 | ⟨j', h1, h2⟩ | h1
      · exact .inl (List.mem_append_left _ h1)
      · injection h1 with h1
        injection h1 with h1 h3
        subst h1 h3
        by_cases e2 : j = b
        · exact .inr (.inr (if_pos e2.symm))
        · exact .inr (.inl ⟨j + 1, rfl, by omega⟩)
      · refine .inr (.inr ?_)
        split
        · rfl
        · exact h1
theorem bfs_row (h : BfsOk N r o0 o i next wait (some (k, N))) : BfsOk N r o0 o i next wait none := by
  refine ⟨h.old, h.new, h.start, h.wt, fun a b ha hb hao hab => ?_⟩
  rcases h.done a b ha hb hao hab with h1 | ⟨j', h1, h2⟩ | h1
  · exact .inl h1
  · injection h1 with h1
    injection h1 with h1 h3
    omega
  · exact .inr (.inr h1)
theorem bfs_end (hr : ∀ a b, r a b = r b a) (hw : WebOk N r o0 i next) (h : BfsOk N r o0 o i next [] none) : WebOk N r o (i + 1) (next + 1) := by
  refine ⟨fun j hj => ?_, fun j m hj hm => ?_, fun a b m ha hb hm hab => ?_, fun a b m ha hb hma hmb => ?_, fun m hm => ?_, fun a n m ha hn hm => ?_⟩
  · rcases Nat.lt_or_ge j i with hl | hl
    · obtain ⟨m, hm⟩ := Option.isSome_iff_exists.1 (hw.all j hl)
      rw [h.old _ _ hm]; rfl
    · have : j = i := by omega
      subst this
      rw [h.start]; rfl
  · rcases h.new j m hj hm with h1 | ⟨_, h1, _⟩
    · have := hw.lt _ _ hj h1; omega
    · omega
  · rcases h.new a m ha hm with h1 | ⟨_, h1, _⟩
    · exact h.old _ _ (hw.link a b m ha hb h1 hab)
    · subst h1
      rcases h.done a b ha hb hm hab with h2 | ⟨_, h2, _⟩ | h2
      · simp at h2
      · cases h2
      · exact h2
  · rcases h.new a m ha hma with h1 | ⟨_, h1, h2⟩
    · rcases h.new b m hb hmb with h3 | ⟨_, h3, _⟩
      · exact hw.conn a b m ha hb h1 h3
      · have := hw.lt _ _ ha h1; omega
    · rcases h.new b m hb hmb with h3 | ⟨_, h3, h4⟩
      · have := hw.lt _ _ hb h3; omega
      · exact (h2.symm hr).trans h4
  · rcases Nat.lt_or_ge m next with hl | hl
    · obtain ⟨j, hj, e⟩ := hw.got m hl
      exact ⟨j, by omega, h.old _ _ e⟩
    · have : m = next := by omega
      subst this
      exact ⟨i, by omega, h.start⟩
  · rcases h.new a n ha hn with h1 | ⟨h0, h1, _⟩
    · obtain ⟨j, hj, e⟩ := hw.mex a n m ha h1 hm
      exact ⟨j, hj, h.old _ _ e⟩
    · subst h1
      have := hw.none_ge h0
      obtain ⟨j, hj, e⟩ := hw.got m hm
      exact ⟨j, by omega, h.old _ _ e⟩
theorem web_skip (hw : WebOk N r o i next) (h : (o i).isSome = true) : WebOk N r o (i + 1) next :=
  ⟨fun j hj => by
    rcases Nat.lt_or_ge j i with hl | hl
    · exact hw.all j hl
    · have : j = i := by omega
      subst this
      exact h, hw.lt, hw.link, hw.conn, fun m hm => by obtain ⟨j, hj, e⟩ := hw.got m hm; exact ⟨j, by omega, e⟩, hw.mex⟩
theorem web_init (N : Nat) (r : Nat → Nat → Bool) : WebOk N r (fun _ => none) 0 0 :=
  ⟨fun _ h => absurd h (Nat.not_lt_zero _), fun _ _ _ h => (by cases h), fun _ _ _ _ _ h => (by cases h), fun _ _ _ _ _ h => (by cases h), fun _ h => absurd h (Nat.not_lt_zero _), fun _ _ _ _ h => (by cases h)⟩
theorem web_num (hw : WebOk N r o N next) : Num N (Conn N r) (fun i => (o i).getD 0) := by
  refine ⟨fun a b ha hb => ?_, fun a ha m hm => ?_⟩
  · obtain ⟨x, hx⟩ := Option.isSome_iff_exists.1 (hw.all a ha)
    obtain ⟨y, hy⟩ := Option.isSome_iff_exists.1 (hw.all b hb)
    skip
    rw [hx, hy]
    simp only [Option.getD_some]
    constructor
    · intro e
      subst e
      exact hw.conn a b x ha hb hx hy
    · intro hc
      have := hc (fun c => c < N → o c = some x) (fun _ => hx) (fun c d hcN hdN ih hcd _ => hw.link c d x hcN hdN (ih hcN) hcd) hb
      rw [hy] at this
      injection this with this
      exact this.symm
  · obtain ⟨x, hx⟩ := Option.isSome_iff_exists.1 (hw.all a ha)
    try dsimp only at hm ⊢
    rw [hx] at hm
    obtain ⟨j, hj, e⟩ := hw.mex a x m ha hx hm
    exact ⟨j, hj, by rw [e]; rfl⟩
end
/-- how many of the first k have no label -/
def unl (o : Nat → Option Nat) : Nat → Nat
  | 0 => 0
  | k + 1 => unl o k + (if (o k).isSome then 0 else 1)
theorem unl_set {o : Nat → Option Nat} {j v : Nat} (h : o j = none) : ∀ k, unl (fun a => if a = j then some v else o a) k + (if j < k then 1 else 0) = unl o k := by
  intro k
  induction k with
  | zero => rfl
  | succ k ih =>
    unfold unl
    by_cases e : k = j
    · subst e
      rw [if_neg (Nat.lt_irrefl _)] at ih
      rw [if_pos rfl, if_pos (Nat.lt_succ_self _), h]
      simp
      exact ih
    · rw [if_neg e, ← ih]
      have e2 : (if j < k + 1 then 1 else 0) = (if j < k then 1 else 0) := by
        by_cases hl : j < k
        · rw [if_pos hl, if_pos (Nat.lt_succ_of_lt hl)]
        · rw [if_neg hl, if_neg (by omega)]
      rw [e2]
      omega
end Go.Proofs.Ytogofchpocoebaa

namespace Go.Proofs.Ytogofchpocoebaa
open Go.RowKit

/-- a row of N ints -/
def fnl (f : Nat → Int) (N : Nat) : List Value := (List.range N).map fun a => Value.int .i64 (f a)
theorem fnl_len (f : Nat → Int) (N : Nat) : (fnl f N).length = N := by simp [fnl]
theorem fnl_at {f : Nat → Int} {N j : Nat} (h : j < N) : (fnl f N)[j]? = some (.int .i64 (f j)) := by
  unfold fnl
  rw [List.getElem?_map, List.getElem?_range h]
  rfl
theorem fnl_congr {f g : Nat → Int} {N : Nat} (h : ∀ a, a < N → f a = g a) : fnl f N = fnl g N := by
  unfold fnl
  exact List.map_congr_left fun a ha => by rw [h a (List.mem_range.1 ha)]
theorem fnl_set {f : Nat → Int} {N j : Nat} (v : Int) : (fnl f N).set j (.int .i64 v) = fnl (fun a => if a = j then v else f a) N := by
  apply List.ext_getElem?
  intro i
  rw [List.getElem?_set]
  by_cases hi : i < N
  · rw [fnl_at hi, fnl_at hi, fnl_len]
    by_cases e : j = i
    · subst e
      rw [if_pos rfl, if_pos hi, if_pos rfl]
    · rw [if_neg e, if_neg (Ne.symm e)]
  · rw [List.getElem?_eq_none (by rw [fnl_len]; omega), List.getElem?_eq_none (by rw [fnl_len]; omega), fnl_len]
    by_cases e : j = i
    · subst e
      rw [if_pos rfl, if_neg hi]
    · rw [if_neg e]
theorem fnl_zero (N : Nat) : fnl (fun _ => 0) N = List.replicate N (Value.int .i64 0) := by
  unfold fnl
  rw [List.map_const', List.length_range]
theorem fnl_snoc (f : Nat → Int) (N : Nat) : fnl f (N + 1) = fnl f N ++ [.int .i64 (f N)] := by
  unfold fnl
  rw [List.range_succ, List.map_append]
  rfl
theorem fnl_one (f : Nat → Int) (N : Nat) : ∀ u ∈ fnl f N, u.oneCell' = true := by
  intro u hu
  obtain ⟨x, _, rfl⟩ := List.mem_map.1 hu
  rfl
theorem Rd.fnl {w : World} {L B N : Nat} {A : Option Addr} {f : Nat → Int} (h : Rd w L B 1 A N (fnl f N)) {k : Nat} (hk : k < N) :
    ∃ b o, A = some ⟨b, o, none⟩ ∧ L ≤ b ∧ b < B ∧ w.cell? ⟨b, o + k, none⟩ = some (.int .i64 (f k)) := by
  obtain ⟨b, o, e, hl, hb, hc⟩ := h.2 (by omega)
  exact ⟨b, o, e, hl, hb, hc _ _ (fnl_at hk)⟩

def lab : Option Nat → Int
  | none => -1
  | some m => m
theorem lab_neg {o : Option Nat} : 0 ≤ lab o ↔ o.isSome = true := by
  cases o <;> simp [lab]
theorem lab_lt {o : Option Nat} {n : Nat} (h : ∀ m, o = some m → m < n) : -1 ≤ lab o ∧ lab o < n := by
  cases o with
  | none => simp [lab]; omega
  | some m => have := h m rfl; simp [lab]; omega
theorem lab_set (o : Nat → Option Nat) (j v : Nat) : (fun a => if a = j then (v : Int) else lab (o a)) = fun a => lab (if a = j then some v else o a) := by
  funext a
  split <;> rfl
/-- how many of the first k cells of a block are below 0 -/
def unlW (w : World) (g : Nat) : Nat → Nat
  | 0 => 0
  | k + 1 => unlW w g k + (match w.cell? ⟨g, k, none⟩ with | some (.int _ v) => if 0 ≤ v then 0 else 1 | _ => 0)
theorem unlW_is {w : World} {g : Nat} {o : Nat → Option Nat} : ∀ {N : Nat}, (∀ j, j < N → w.cell? ⟨g, j, none⟩ = some (.int .i64 (lab (o j)))) → unlW w g N = unl o N := by
  intro N
  induction N with
  | zero => intro _; rfl
  | succ N ih =>
    intro h
    unfold unlW unl
    rw [ih (fun j hj => h j (by omega)), h N (by omega)]
    simp only
    congr 1
    cases hh : o N with
    | none => simp [lab]
    | some m => simp [lab]
/-- the sum of the first k cells of a block -/
def sumW (w : World) (g : Nat) : Nat → Nat
  | 0 => 0
  | k + 1 => sumW w g k + (match w.cell? ⟨g, k, none⟩ with | some (.int _ v) => v.toNat | _ => 0)
def sumF (f : Nat → Nat) : Nat → Nat
  | 0 => 0
  | k + 1 => sumF f k + f k
theorem sumW_is {w : World} {g : Nat} {f : Nat → Nat} : ∀ {N : Nat}, (∀ j, j < N → w.cell? ⟨g, j, none⟩ = some (.int .i64 (f j : Int))) → sumW w g N = sumF f N := by
  intro N
  induction N with
  | zero => intro _; rfl
  | succ N ih =>
    intro h
    unfold sumW sumF
    rw [ih (fun j hj => h j (by omega)), h N (by omega)]
    simp
theorem sum_set {f : Nat → Nat} {j v : Nat} (h : v < f j) : ∀ N, sumF (fun a => if a = j then v else f a) N + (if j < N then f j - v else 0) = sumF f N := by
  intro N
  induction N with
  | zero => rfl
  | succ N ih =>
    unfold sumF
    by_cases e : N = j
    · subst e
      rw [if_neg (Nat.lt_irrefl _)] at ih
      rw [if_pos rfl, if_pos (Nat.lt_succ_self _)]
      omega
    · rw [if_neg e, ← ih]
      have e2 : (if j < N + 1 then f j - v else 0) = (if j < N then f j - v else 0) := by
        by_cases hl : j < N
        · rw [if_pos hl, if_pos (Nat.lt_succ_of_lt hl)]
        · rw [if_neg hl, if_neg (by omega)]
      rw [e2]
      omega
/-- the pairs that are near, in order: of a row's first ones; of the first rows -/
def prRow (q : Nat → Nat → Bool) (a : Nat) : Nat → List (Nat × Nat)
  | 0 => []
  | b + 1 => prRow q a b ++ (if a < b ∧ q a b = true then [(a, b)] else [])
def prAll (q : Nat → Nat → Bool) (N : Nat) : Nat → List (Nat × Nat)
  | 0 => []
  | a + 1 => prAll q N a ++ prRow q a N
theorem prRow_le (q : Nat → Nat → Bool) (a : Nat) : ∀ b, b ≤ a + 1 → prRow q a b = [] := by
  intro b
  induction b with
  | zero => intro _; rfl
  | succ b ih =>
    intro h
    unfold prRow
    rw [ih (by omega), if_neg (by omega)]
    rfl
theorem prRow_mono (q : Nat → Nat → Bool) (a : Nat) {b N : Nat} (h : b ≤ N) : prRow q a b <+: prRow q a N := by
  induction N with
  | zero => rw [show b = 0 by omega]; exact List.prefix_refl _
  | succ N ih =>
    rcases Nat.lt_or_ge b (N + 1) with hl | hl
    · exact (ih (by omega)).trans (List.prefix_append _ _)
    · rw [show b = N + 1 by omega]; exact List.prefix_refl _
theorem prAll_mono (q : Nat → Nat → Bool) (M : Nat) {a N : Nat} (h : a ≤ N) : prAll q M a <+: prAll q M N := by
  induction N with
  | zero => rw [show a = 0 by omega]; exact List.prefix_refl _
  | succ N ih =>
    rcases Nat.lt_or_ge a (N + 1) with hl | hl
    · exact (ih (by omega)).trans (List.prefix_append _ _)
    · rw [show a = N + 1 by omega]; exact List.prefix_refl _
theorem pr_at (q : Nat → Nat → Bool) {N a b : Nat} (ha : a < N) (hb : b ≤ N) : prAll q N a ++ prRow q a b <+: prAll q N N := by
  have h1 : prAll q N (a + 1) <+: prAll q N N := prAll_mono q N (by omega)
  obtain ⟨t, ht⟩ := prRow_mono q a hb
  refine List.IsPrefix.trans ⟨t, ?_⟩ h1
  rw [List.append_assoc, ht]
  rfl
end Go.Proofs.Ytogofchpocoebaa
