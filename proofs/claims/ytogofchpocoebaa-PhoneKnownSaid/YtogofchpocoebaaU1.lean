/- Syllables printed and read; read and printed (no program in sight). -/
import Derived.Test.YtogofchpocoebaaU0
namespace Go.Proofs.Ytogofchpocoebaa

/-- syllables of a row from place a up to place b -/
def Run (l : List Ph) : List Sy → Nat → Nat → Prop
  | [], a, b => a = b
  | s :: r, a, b => oneF l s a = 0 ∧ Run l r s.to_.toNat b
theorem run_may {l : List Ph} : ∀ {ss : List Sy} {a : Nat}, mayGo l ss a = 0 ↔ Run l ss a l.length := by
  intro ss
  induction ss with
  | nil =>
    intro a
    unfold mayGo Run
    split
    · simp [*]
    · simp [*]
  | cons s r ih =>
    intro a
    unfold mayGo Run
    by_cases h : oneF l s a = 0
    · rw [if_pos h, ih]; simp [h]
    · rw [if_neg h]; simp [h]
theorem Run.snoc {l : List Ph} {s : Sy} : ∀ {ss : List Sy} {a b : Nat}, Run l ss a b → oneF l s b = 0 → Run l (ss ++ [s]) a s.to_.toNat := by
  intro ss
  induction ss with
  | nil => intro a b h h2; cases h; exact ⟨h2, rfl⟩
  | cons x r ih => intro a b h h2; exact ⟨h.1, ih h.2 h2⟩
theorem getD_left {l m : List Ph} {k : Nat} (h : k < l.length) : (l ++ m).getD k ph0 = l.getD k ph0 := by
  rw [List.getD_eq_getElem?_getD, List.getD_eq_getElem?_getD, List.getElem?_append_left h]
theorem vbad_more {l m : List Ph} {nu : Nat} : ∀ {n k : Nat}, k + n ≤ l.length → vbad (l ++ m) nu k n = vbad l nu k n := by
  intro n
  induction n with
  | zero => intro k _; rfl
  | succ n ih =>
    intro k h
    unfold vbad
    rw [getD_left (by omega), ih (by omega)]
theorem heavy_more {l m : List Ph} {s : Sy} (h : s.nu.toNat < l.length) : heavyF (l ++ m) s = heavyF l s := by
  unfold heavyF
  rw [getD_left h]
theorem one_more {l : List Ph} (m : List Ph) {s : Sy} {f : Nat} (h : oneF l s f = 0) : oneF (l ++ m) s f = 0 := by
  obtain ⟨h1, h2, h3, h4, h5, h6, h7, h8⟩ := one_ok h
  refine one_zero h1 h2 h3 (by simp; omega) ?_ ?_ h7 h8
  · rw [vbad_more (by omega)]; exact h5
  · rw [heavy_more (by omega)]; exact h6
theorem Run.more {l : List Ph} (m : List Ph) : ∀ {ss : List Sy} {a b : Nat}, Run l ss a b → Run (l ++ m) ss a b := by
  intro ss
  induction ss with
  | nil => intro a b h; exact h
  | cons s r ih => intro a b h; exact ⟨one_more m h.1, ih h.2⟩
theorem vbad_at {l : List Ph} {nu : Nat} : ∀ {n k : Nat}, vbad l nu k n = false → ∀ i, k ≤ i → i < k + n → vowF (l.getD i ph0) = decide (i = nu) := by
  intro n
  induction n with
  | zero => intro k _ i h1 h2; omega
  | succ n ih =>
    intro k h i h1 h2
    unfold vbad at h
    rw [Bool.or_eq_false_iff] at h
    by_cases e : i = k
    · subst e
      have := h.1
      simpa using this
    · exact ih h.2 i (by omega) (by omega)
theorem Run.le {l : List Ph} : ∀ {ss : List Sy} {a b : Nat}, Run l ss a b → a ≤ b ∧ (ss ≠ [] → b ≤ l.length ∧ a < b) := by
  intro ss
  induction ss with
  | nil => intro a b h; cases h; exact ⟨Nat.le_refl _, fun h => absurd rfl h⟩
  | cons s r ih =>
    intro a b h
    obtain ⟨h1, h2, h3, h4, _⟩ := one_ok h.1
    have h5 := ih h.2
    have h6 : b ≤ l.length := by
      cases r with
      | nil => have := h.2; unfold Run at this; omega
      | cons x r => exact (h5.2 (by simp)).1
    exact ⟨by omega, fun _ => ⟨h6, by omega⟩⟩

theorem spGo_cons (l : List Ph) (i : Nat) (s : Sy) (r : List Sy) : spGo l i (s :: r) = signB i s ++ texts (cutL l s.fr.toNat s.to_.toNat) ++ spGo l (i + 1) r := rfl
theorem spGo_append (l : List Ph) : ∀ (a b : List Sy) (i : Nat), spGo l i (a ++ b) = spGo l i a ++ spGo l (i + a.length) b := by
  intro a
  induction a with
  | nil => intro b i; rfl
  | cons s a ih =>
    intro b i
    rw [List.cons_append, spGo_cons, spGo_cons, ih, List.length_cons, show i + 1 + a.length = i + (a.length + 1) by omega]
    simp
/-- the text of syllables stays when phones come behind them -/
theorem spGo_more {l : List Ph} (m : List Ph) : ∀ {ss : List Sy} {a b i : Nat}, Run l ss a b → spGo (l ++ m) i ss = spGo l i ss := by
  intro ss
  induction ss with
  | nil => intro a b i _; rfl
  | cons s r ih =>
    intro a b i h
    obtain ⟨h1, h2, h3, h4, _⟩ := one_ok h.1
    unfold spGo
    rw [ih h.2]
    have : cutL (l ++ m) s.fr.toNat s.to_.toNat = cutL l s.fr.toNat s.to_.toNat := by
      unfold cutL
      rw [List.drop_append, List.take_append_of_le_length (by rw [List.length_drop]; omega)]
    rw [this]

/-- runes that are signs -/
def isSg (r : Int) : Bool := r == 46 || r == 712 || r == 716
theorem tab_sg {r : Int} (h : (tabF r).isSome = true) : isSg r = false := by
  have h1 : tabF 46 = none := by decide +kernel
  have h2 : tabF 712 = none := by decide +kernel
  have h3 : tabF 716 = none := by decide +kernel
  unfold isSg
  by_cases e1 : r = 46
  · subst e1; rw [h1] at h; cases h
  by_cases e2 : r = 712
  · subst e2; rw [h2] at h; cases h
  by_cases e3 : r = 716
  · subst e3; rw [h3] at h; cases h
  simp [e1, e2, e3]
theorem sign_text {p : Ph} (h : isF p = true) (R : List UInt8) : signL (textP p ++ R) = (0, 0) := by
  have ht := (isF_tab h).1
  have hs := tab_small ht
  have hp : encL p.1 <+: textP p ++ R := (textP_enc p).trans (List.prefix_append _ _)
  obtain ⟨hd, hne⟩ := pre_dec _ p.1 hs.1 hs.2 hp
  have hg := tab_sg ht
  unfold isSg at hg
  simp only [Bool.or_eq_false_iff, beq_eq_false_iff_ne] at hg
  rcases sign_rune _ hne with ⟨h1, _⟩ | ⟨h1, _⟩ | ⟨h1, _⟩ | ⟨_, _, _, h1⟩
  · rw [hd] at h1; dsimp only at h1; omega
  · rw [hd] at h1; dsimp only at h1; omega
  · rw [hd] at h1; dsimp only at h1; omega
  · exact h1
theorem sign_b {i : Nat} {s : Sy} (h0 : 0 ≤ s.st) (h2 : s.st ≤ 2) (h : signB i s ≠ []) (R : List UInt8) : signL (signB i s ++ R) = (s.st, (signB i s).length) ∧ 0 < (signB i s).length ∧ ((signB i s).length = 1 → s.st = 0) ∧ (s.st = 0 → (signB i s).length = 1) := by
  unfold signB at h ⊢
  by_cases e2 : s.st = 2
  · rw [if_pos e2, e2]; exact ⟨rfl, by decide, by decide, by decide⟩
  · rw [if_neg e2] at h ⊢
    by_cases e1 : s.st = 1
    · rw [if_pos e1, e1]; exact ⟨rfl, by decide, by decide, by decide⟩
    · rw [if_neg e1] at h ⊢
      have e0 : s.st = 0 := by omega
      by_cases hi : 0 < i
      · rw [if_pos hi, e0]
        refine ⟨?_, by decide, by decide, by decide⟩
        cases R <;> rfl
      · rw [if_neg hi] at h; exact absurd rfl h
theorem tail_sign {i : Nat} {s : Sy} (R : List UInt8) (h : signB i s ≠ []) : Tail (signB i s ++ R) := by
  unfold signB at h ⊢
  split
  · exact ⟨rfl, rfl, rfl, rfl⟩
  · split
    · exact ⟨rfl, rfl, rfl, rfl⟩
    · split
      · exact ⟨rfl, rfl, rfl, rfl⟩
      · rename_i h1 h2 h3
        rw [if_neg h1, if_neg h2, if_neg h3] at h
        exact absurd rfl h
theorem tail_sp {l : List Ph} {ss : List Sy} {i : Nat} (h : 0 < i) : Tail (spGo l i ss) := by
  cases ss with
  | nil => exact Tail.nil
  | cons s r =>
    unfold spGo
    rw [List.append_assoc]
    refine tail_sign _ ?_
    unfold signB
    split
    · simp
    · split
      · simp
      · simp

section
variable {L : List UInt8}
theorem sr_end {f at_ : Nat} {ps : List Ph} {out : List Sy} {fr nu st : Int} {vs : Nat} {sg : Bool} (h : L.length ≤ at_) (hn : 0 ≤ nu) : srGo L (f + 1) at_ ps out fr nu st vs sg = (ps, out ++ [shutS ps fr nu st], 0, 0) := by
  unfold srGo
  rw [if_neg (by omega), if_neg (by omega)]
/-- the phones of a syllable are read -/
theorem sr_phones {N v0 : Nat} {out : List Sy} {fr st : Int} {T : List UInt8} (hT : Tail T) : ∀ (q : List Ph) (pre : List UInt8) (ps : List Ph) (sg : Bool) (f : Nat), L = pre ++ texts q ++ T → q.all isF = true → ps.length + q.length ≤ 128 → v0 < 64 →
    (∀ i, i < q.length → vowF (q.getD i ph0) = decide (ps.length + i = N)) → q.length < f →
    ∃ f', f' = f - q.length ∧ srGo L f pre.length ps out fr (if N < ps.length then (N : Int) else -1) st (if N < ps.length then v0 + 1 else v0) sg =
      srGo L f' (pre ++ texts q).length (ps ++ q) out fr (if N < ps.length + q.length then (N : Int) else -1) st (if N < ps.length + q.length then v0 + 1 else v0) (if q = [] then sg else false) := by
  intro q
  induction q with
  | nil =>
    intro pre ps sg f _ _ _ _ _ _
    exact ⟨f, by simp, by simp [texts]⟩
  | cons p q ih =>
    intro pre ps sg f hL hq hn hv hw hf
    obtain ⟨g, rfl⟩ : ∃ g, f = g + 1 := ⟨f - 1, by simp at hf; omega⟩
    simp only [List.all_cons, Bool.and_eq_true] at hq
    have et : texts (p :: q) = textP p ++ texts q := by simp [texts]
    have hd : L.drop pre.length = textP p ++ (texts q ++ T) := by rw [hL, et]; simp
    have hpos := textP_pos hq.1
    have hlt : pre.length < L.length := by
      rw [hL, et]; simp only [List.length_append]; omega
    have hs := sign_text hq.1 (texts q ++ T)
    have hx := next_text hq.1 (hT.texts hq.2)
    have hv0 := hw 0 (by simp)
    simp only [List.getD_cons_zero, Nat.add_zero] at hv0
    simp only [List.length_cons] at hn hf
    obtain ⟨f', e', h'⟩ := ih (pre ++ textP p) (ps ++ [p]) false g (by rw [hL, et]; simp) hq.2 (by simp; omega) hv (fun i hi => by
      have := hw (i + 1) (by simpa using hi)
      rw [List.getD_cons_succ] at this
      rw [this, List.length_append, List.length_singleton, show ps.length + 1 + i = ps.length + (i + 1) by omega]) (by omega)
    refine ⟨f', by rw [e', List.length_cons]; omega, ?_⟩
    have e1 : (pre ++ texts (p :: q)).length = ((pre ++ textP p) ++ texts q).length := by rw [et]; simp
    have e2 : ps ++ p :: q = (ps ++ [p]) ++ q := by simp
    rw [e1, e2, if_neg (show ¬ p :: q = [] by simp)]
    have e4 : (ps ++ [p]).length = ps.length + 1 := by simp
    rw [ite_self, e4] at h'
    rw [List.length_cons, show ps.length + (q.length + 1) = ps.length + 1 + q.length by omega, ← h']
    have e3 : (pre ++ textP p).length = pre.length + (textP p).length := List.length_append
    rw [e3]
    conv => lhs; unfold srGo
    rw [if_pos hlt, hd, hs, if_neg (by decide), hx]
    dsimp only
    rw [if_neg (by omega), if_neg (by omega), hv0]
    by_cases hN : ps.length = N
    · rw [decide_eq_true hN, if_pos rfl, if_neg (show ¬ N < ps.length by omega), if_neg (by decide), if_neg (show ¬ N < ps.length by omega), if_neg (by omega), if_pos (show N < ps.length + 1 by omega), if_pos (show N < ps.length + 1 by omega), hN]
    · rw [decide_eq_false hN, if_neg (by decide)]
      by_cases hN2 : N < ps.length
      · rw [if_pos hN2, if_pos hN2, if_pos (show N < ps.length + 1 by omega), if_pos (show N < ps.length + 1 by omega)]
      · rw [if_neg hN2, if_neg hN2, if_neg (show ¬ N < ps.length + 1 by omega), if_neg (show ¬ N < ps.length + 1 by omega)]
end

theorem shut_is {l : List Ph} {s : Sy} {t : Nat} (h : oneF l s s.fr.toNat = 0) (ht : s.to_ = t) : shutS (l.take t) s.fr s.nu s.st = s := by
  obtain ⟨h1, h2, h3, h4, h5, h6, h7, h8⟩ := one_ok h
  have hl : (l.take t).length = t := by rw [List.length_take]; omega
  unfold shutS
  rw [hl]
  have e : heavyF (l.take t) (s.fr, s.nu, (t : Int), s.st, false) = s.hv := by
    rw [h6, ← ht]
    have h9 := heavy_more (l := l.take t) (m := l.drop t) (s := s) (by rw [hl]; omega)
    rw [List.take_append_drop] at h9
    rw [h9]
    exact heavy_hv _ s.fr s.nu s.to_ s.st false s.hv
  rw [e, ← ht]
  rfl
theorem cut_all {l : List Ph} (h : l.all isF = true) (a b : Nat) : (cutL l a b).all isF = true := by
  rw [List.all_eq_true] at h ⊢
  intro x hx
  exact h x (List.mem_of_mem_drop (List.mem_of_mem_take hx))
theorem cut_getD {l : List Ph} {a b i : Nat} (hi : i < b - a) : (cutL l a b).getD i ph0 = l.getD (a + i) ph0 := by
  unfold cutL
  rw [List.getD_eq_getElem?_getD, List.getD_eq_getElem?_getD, List.getElem?_take, if_pos hi, List.getElem?_drop]
theorem take_cut {l : List Ph} {a b : Nat} (h : a ≤ b) : l.take a ++ cutL l a b = l.take b := by
  unfold cutL
  rw [show b = a + (b - a) by omega, List.take_add, show a + (b - a) - a = b - a by omega]
theorem spGo_ge {l : List Ph} (hall : l.all isF = true) : ∀ {ss : List Sy} {a b i : Nat}, Run l ss a b → (b - a) + ss.length ≤ (spGo l i ss).length + (if i = 0 then 1 else 0) := by
  intro ss
  induction ss with
  | nil => intro a b i h; cases h; simp
  | cons s r ih =>
    intro a b i h
    obtain ⟨h1, h2, h3, h4, _⟩ := one_ok h.1
    have hr := h.2.le
    have h5 := ih (i := i + 1) h.2
    rw [if_neg (by omega)] at h5
    have h6 := texts_ge _ (cut_all hall s.fr.toNat s.to_.toNat)
    rw [cut_len (by omega)] at h6
    unfold spGo
    simp only [List.length_append, List.length_cons]
    have h7 : 1 ≤ (signB i s).length + (if i = 0 then 1 else 0) := by
      unfold signB
      split
      · simp; omega
      · split
        · simp; omega
        · by_cases h0 : i = 0
          · rw [if_pos h0]; omega
          · rw [if_pos (by omega), if_neg h0]; simp
    omega

section
variable {L : List UInt8}
/-- the syllables behind an open one are read -/
theorem sr_rest {l : List Ph} (hall : l.all isF = true) (h128 : l.length ≤ 128) : ∀ (r : List Sy) (s0 : Sy) (out : List Sy) (pre : List UInt8) (f : Nat), L = pre ++ spGo l (out.length + 1) r → oneF l s0 s0.fr.toNat = 0 → Run l r s0.to_.toNat l.length →
    0 < pre.length → out.length + 1 + r.length ≤ 64 → (l.length - s0.to_.toNat) + r.length < f →
    srGo L f pre.length (l.take s0.to_.toNat) out s0.fr s0.nu s0.st (out.length + 1) false = (l, out ++ s0 :: r, 0, 0) := by
  intro r
  induction r with
  | nil =>
    intro s0 out pre f hL h0 hr _ _ hf
    obtain ⟨g, rfl⟩ : ∃ g, f = g + 1 := ⟨f - 1, by omega⟩
    obtain ⟨h1, h2, h3, h4, _⟩ := one_ok h0
    have hr : s0.to_.toNat = l.length := hr
    have hL : L = pre := by rw [hL]; simp [spGo]
    rw [sr_end (by rw [hL]; exact Nat.le_refl _) (by omega), shut_is h0 (by omega), hr, List.take_length]
  | cons s r ih =>
    intro s0 out pre f hL h0 hr hp h64 hf
    obtain ⟨g, rfl⟩ : ∃ g, f = g + 1 := ⟨f - 1, by simp at hf; omega⟩
    obtain ⟨h1, h2, h3, h4, _⟩ := one_ok h0
    obtain ⟨k1, k2, k3, k4, k5, k6, k7, k8⟩ := one_ok hr.1
    simp only [List.length_cons] at h64 hf
    have hne : signB (out.length + 1) s ≠ [] := by
      unfold signB
      split
      · simp
      · split
        · simp
        · rw [if_pos (by omega)]; simp
    have hL2 : L = pre ++ (signB (out.length + 1) s ++ (texts (cutL l s.fr.toNat s.to_.toNat) ++ spGo l (out.length + 1 + 1) r)) := by rw [hL, spGo_cons]; simp
    have hd : L.drop pre.length = signB (out.length + 1) s ++ (texts (cutL l s.fr.toNat s.to_.toNat) ++ spGo l (out.length + 1 + 1) r) := by rw [hL2, List.drop_left]
    obtain ⟨b1, b2, _, _⟩ := sign_b k7 k8 hne (texts (cutL l s.fr.toNat s.to_.toNat) ++ spGo l (out.length + 1 + 1) r)
    have hge := texts_ge _ (cut_all hall s.fr.toNat s.to_.toNat)
    rw [cut_len (by omega)] at hge
    have hlen : L.length = pre.length + ((signB (out.length + 1) s).length + ((texts (cutL l s.fr.toNat s.to_.toNat)).length + (spGo l (out.length + 1 + 1) r).length)) := by rw [hL2]; simp only [List.length_append]
    have hps : (l.take s0.to_.toNat).length = s0.to_.toNat := by rw [List.length_take]; omega
    have hfr : s.fr.toNat = s0.to_.toNat := by omega
    conv => lhs; unfold srGo
    rw [if_pos (by omega), hd, b1]
    dsimp only
    rw [if_pos b2, if_neg (by rintro (⟨h, _⟩ | h); omega; cases h), if_neg (by omega), if_neg (by omega), if_pos hp, shut_is h0 (by omega)]
    obtain ⟨f', e', hq⟩ := sr_phones (L := L) (N := s.nu.toNat) (v0 := out.length + 1) (out := out ++ [s0]) (fr := s.fr) (st := s.st) (T := spGo l (out.length + 1 + 1) r) (tail_sp (by omega)) (cutL l s.fr.toNat s.to_.toNat) (pre ++ signB (out.length + 1) s) (l.take s0.to_.toNat) true g
      (by rw [hL2]; simp) (cut_all hall _ _) (by rw [hps, cut_len (by omega)]; omega) (by omega)
      (fun i hi => by
        rw [cut_len (by omega)] at hi
        rw [cut_getD hi, vbad_at k5 _ (by omega) (by omega), hps, hfr])
      (by rw [cut_len (by omega)]; omega)
    rw [hps, cut_len (by omega), if_neg (show ¬ s.nu.toNat < s0.to_.toNat by omega), if_neg (show ¬ s.nu.toNat < s0.to_.toNat by omega), if_pos (show s.nu.toNat < s0.to_.toNat + (s.to_.toNat - s.fr.toNat) by omega), if_pos (show s.nu.toNat < s0.to_.toNat + (s.to_.toNat - s.fr.toNat) by omega), if_neg (by
      intro h
      have := congrArg List.length h
      rw [cut_len (by omega)] at this
      simp at this
      omega)] at hq
    rw [hps, show ((s0.to_.toNat : Nat) : Int) = s.fr by omega]
    have e1 : (pre ++ signB (out.length + 1) s).length = pre.length + (signB (out.length + 1) s).length := List.length_append
    rw [e1] at hq
    rw [hq, ← hfr, take_cut (by omega), show ((s.nu.toNat : Nat) : Int) = s.nu by omega]
    rw [cut_len (by omega)] at e'
    have := ih s (out ++ [s0]) (pre ++ signB (out.length + 1) s ++ texts (cutL l s.fr.toNat s.to_.toNat)) f' (by rw [hL2]; simp) (by rw [k1]; exact hr.1) hr.2 (by simp only [List.length_append]; omega) (by simp; omega) (by omega)
    have e2 : (out ++ [s0]).length = out.length + 1 := by simp
    rw [e2] at this
    rw [this]
    simp
end
/-- what is printed is read -/
theorem sr_sp {l : List Ph} {ss : List Sy} (h : mayF l ss = 0) : srL (spGo l 0 ss) = (l, ss, 0, 0) := by
  have hF := form_of h
  have hrun : Run l ss 0 l.length := by
    unfold mayF at h
    split at h
    · cases h
    · split at h
      · split at h
        · cases h
        · exact run_may.1 h
      · cases h
  cases ss with
  | nil => have := hF.pos; simp at this
  | cons s r =>
    have hge := spGo_ge hF.all (i := 0) hrun
    obtain ⟨k1, k2, k3, k4, k5, k6, k7, k8⟩ := one_ok hrun.1
    have h64 := hF.m64
    have h128 := hF.n128
    simp only [List.length_cons, if_pos] at hge h64
    have hL : spGo l 0 (s :: r) = signB 0 s ++ (texts (cutL l s.fr.toNat s.to_.toNat) ++ spGo l 1 r) := by
      rw [spGo_cons]; simp
    have hfr : s.fr.toNat = 0 := by omega
    generalize hLL : spGo l 0 (s :: r) = L at *
    have hge2 := texts_ge _ (cut_all hF.all s.fr.toNat s.to_.toNat)
    rw [cut_len (by omega)] at hge2
    have key : ∀ (g : Nat) (sg : Bool), l.length + r.length < g → srGo L g (signB 0 s).length [] [] 0 (-1) s.st 0 sg = (l, s :: r, 0, 0) := by
      intro g sg hg
      obtain ⟨f', e', hq⟩ := sr_phones (L := L) (N := s.nu.toNat) (v0 := 0) (out := []) (fr := 0) (st := s.st) (T := spGo l 1 r) (tail_sp (by omega)) (cutL l s.fr.toNat s.to_.toNat) (signB 0 s) [] sg g
        (by rw [hL]; simp) (cut_all hF.all _ _) (by rw [cut_len (by omega)]; simp; omega) (by omega)
        (fun i hi => by
          rw [cut_len (by omega)] at hi
          rw [cut_getD hi, vbad_at k5 _ (by omega) (by omega), hfr, List.length_nil])
        (by rw [cut_len (by omega)]; omega)
      rw [List.length_nil, cut_len (by omega), if_neg (by omega), if_neg (by omega), if_pos (show s.nu.toNat < 0 + (s.to_.toNat - s.fr.toNat) by omega), if_pos (show s.nu.toNat < 0 + (s.to_.toNat - s.fr.toNat) by omega), if_neg (by
        intro h
        have := congrArg List.length h
        rw [cut_len (by omega)] at this
        simp at this
        omega)] at hq
      rw [hq]
      rw [cut_len (by omega)] at e'
      have := sr_rest (L := L) hF.all h128 r s [] (signB 0 s ++ texts (cutL l s.fr.toNat s.to_.toNat)) f' (by rw [hL]; simp) (by rw [k1]; exact hrun.1) hrun.2 (by simp only [List.length_append]; omega) (by simp; omega) (by omega)
      rw [← take_cut (show s.fr.toNat ≤ s.to_.toNat by omega), hfr, List.take_zero, show s.fr = 0 by omega, show s.nu = ((s.nu.toNat : Nat) : Int) by omega] at this
      rw [hfr]
      exact this
    have hlen : L.length = (signB 0 s).length + ((texts (cutL l s.fr.toNat s.to_.toNat)).length + (spGo l 1 r).length) := by rw [hL]; simp only [List.length_append]
    unfold srL
    by_cases h0 : signB 0 s = []
    · have hst : s.st = 0 := by
        unfold signB at h0
        by_cases e2 : s.st = 2
        · rw [if_pos e2] at h0; cases h0
        · by_cases e1 : s.st = 1
          · rw [if_neg e2, if_pos e1] at h0; cases h0
          · omega
      have := key (L.length + 1) false (by omega)
      rw [h0, hst] at this
      exact this
    · obtain ⟨b1, b2, b3, b4⟩ := sign_b (i := 0) k7 k8 h0 (texts (cutL l s.fr.toNat s.to_.toNat) ++ spGo l 1 r)
      have hw : (signB 0 s).length ≠ 1 := by
        intro hw
        have hst := b3 hw
        apply h0
        unfold signB
        rw [hst]
        rfl
      conv => lhs; unfold srGo
      rw [if_pos (by omega), List.drop_zero, hL, b1, ← hL]
      dsimp only
      rw [if_pos b2, if_neg (by rintro (⟨_, h⟩ | h); exact hw h; cases h), if_neg (by omega), if_neg (by omega), if_neg (by omega)]
      have hge3 := spGo_ge hF.all (i := 1) hrun.2
      rw [if_neg (by decide)] at hge3
      have := key L.length true (by omega)
      rw [Nat.zero_add]
      exact this

/-- what has been read up to a place -/
structure SrIn (L : List UInt8) (at_ : Nat) (ps : List Ph) (out : List Sy) (fr nu st : Int) (vs : Nat) : Prop where
  le : at_ ≤ L.length
  all : ps.all isF = true
  n : ps.length ≤ 128
  fr0 : 0 ≤ fr
  run : Run ps out 0 fr.toNat
  frle : fr.toNat ≤ ps.length
  nuo : (nu = -1 ∧ ∀ i, fr.toNat ≤ i → i < ps.length → vowF (ps.getD i ph0) = false) ∨ ∃ N : Nat, nu = N ∧ fr.toNat ≤ N ∧ N < ps.length ∧ ∀ i, fr.toNat ≤ i → i < ps.length → vowF (ps.getD i ph0) = decide (i = N)
  st0 : 0 ≤ st
  st2 : st ≤ 2
  vso : out.length + (if nu < 0 then 0 else 1) = vs
  v64 : vs ≤ 64
  txt : L.take at_ = spGo ps 0 out ++ signB out.length (0, 0, 0, st, false) ++ texts (ps.drop fr.toNat)
  zero : at_ = 0 → out = [] ∧ ps = []
theorem SrIn.close {L : List UInt8} {at_ : Nat} {ps : List Ph} {out : List Sy} {fr nu st : Int} {vs : Nat} (h : SrIn L at_ ps out fr nu st vs) (hn : ¬ nu < 0) :
    Run ps (out ++ [shutS ps fr nu st]) 0 ps.length ∧ spGo ps 0 (out ++ [shutS ps fr nu st]) = L.take at_ ∧ out.length + 1 = vs := by
  rcases h.nuo with ⟨h1, _⟩ | ⟨N, h1, h2, h3, h4⟩
  · omega
  · have hf := h.fr0
    have ho : oneF ps (shutS ps fr nu st) fr.toNat = 0 := by
      have q1 : (shutS ps fr nu st).fr = fr := rfl
      have q2 : (shutS ps fr nu st).nu = nu := rfl
      have q3 : (shutS ps fr nu st).to_ = (ps.length : Int) := rfl
      have q4 : (shutS ps fr nu st).st = st := rfl
      refine one_zero (by rw [q1]; omega) (by rw [q1, q2]; omega) (by rw [q2, q3]; omega) (by rw [q3]; omega) ?_ rfl (by rw [q4]; exact h.st0) (by rw [q4]; exact h.st2)
      rw [q2, q3, Int.toNat_natCast, h1, Int.toNat_natCast]
      exact vbad_false (fun i a b => h4 i a (by have := h.frle; omega))
    refine ⟨h.run.snoc ho, ?_, by have := h.vso; rw [if_neg hn] at this; exact this⟩
    rw [spGo_append, h.txt, Nat.zero_add]
    have e : spGo ps out.length [shutS ps fr nu st] = signB out.length (0, 0, 0, st, false) ++ texts (ps.drop fr.toNat) := by
      unfold spGo spGo
      rw [List.append_nil]
      congr 1
      congr 1
      show cutL ps fr.toNat ((ps.length : Int)).toNat = _
      unfold cutL
      rw [Int.toNat_natCast, List.take_of_length_le (by rw [List.length_drop]; exact Nat.le_refl _)]
    rw [e, List.append_assoc]
theorem sign_bytes {l : List UInt8} (h : 0 < (signL l).2) : l.take (signL l).2 = (if (signL l).1 = 2 then [203, 136] else if (signL l).1 = 1 then [203, 140] else [46]) ∧ ((signL l).2 = 1 ∨ (signL l).1 = 2 ∨ (signL l).1 = 1) ∧ (signL l).2 ≤ l.length := by
  refine ⟨?_, ?_, (sign_le l).1⟩
  · match l with
    | [] => simp [signL] at h
    | [a] =>
      rw [sign_one] at h ⊢
      split at h
      · rename_i e; rw [if_pos e, e]; rfl
      · simp at h
    | a :: b :: r =>
      rw [sign_two] at h ⊢
      split at h
      · rename_i e; rw [if_pos e, e]; rfl
      · rename_i e
        rw [if_neg e]
        split at h
        · rename_i e2; rw [if_pos e2, e2.1, e2.2]; rfl
        · rename_i e2
          rw [if_neg e2]
          split at h
          · rename_i e3; rw [if_pos e3, e3.1, e3.2]; rfl
          · simp at h
  · match l with
    | [] => simp [signL] at h
    | [a] =>
      rw [sign_one] at h ⊢
      split at h
      · rename_i e; rw [if_pos e]; exact .inl rfl
      · simp at h
    | a :: b :: r =>
      rw [sign_two] at h ⊢
      split
      · exact .inl rfl
      · split
        · exact .inr (.inl rfl)
        · split
          · exact .inr (.inr rfl)
          · rename_i e1 e2 e3; rw [if_neg e1, if_neg e2, if_neg e3] at h; simp at h
theorem getD_last' (ps : List Ph) (p : Ph) : (ps ++ [p]).getD ps.length ph0 = p := by
  rw [List.getD_eq_getElem?_getD, List.getElem?_append_right (Nat.le_refl _), Nat.sub_self]
  rfl
/-- what is read is printed, and may be -/
theorem sr_back {L : List UInt8} {m : List Ph} {w : List Sy} {x : Int} : ∀ (f at_ : Nat) (ps : List Ph) (out : List Sy) (fr nu st : Int) (vs : Nat) (sg : Bool), SrIn L at_ ps out fr nu st vs →
    srGo L f at_ ps out fr nu st vs sg = (m, w, 0, x) → mayF m w = 0 ∧ spGo m 0 w = L ∧ x = 0 := by
  intro f
  induction f with
  | zero =>
    intro at_ ps out fr nu st vs sg _ h
    unfold srGo at h
    simp at h
  | succ f ih =>
    intro at_ ps out fr nu st vs sg hI h
    unfold srGo at h
    by_cases hlt : at_ < L.length
    · rw [if_pos hlt] at h
      by_cases hs : 0 < (signL (L.drop at_)).2
      · rw [if_pos hs] at h
        split at h
        · simp at h
        · rename_i c1
          split at h
          · simp at h
          · rename_i c2
            split at h
            · simp at h
            · rename_i c3
              obtain ⟨b1, b2, b3⟩ := sign_bytes hs
              rw [List.length_drop] at b3
              have hst := sign_st (L.drop at_)
              refine ih _ _ _ _ _ _ _ _ ?_ h
              by_cases h0 : at_ = 0
              · obtain ⟨z1, z2⟩ := hI.zero h0
                subst z1 z2
                rw [if_neg (by omega)]
                have hv := hI.vso
                have hvs : vs = 0 := by
                  rcases hI.nuo with ⟨h1, _⟩ | ⟨N, h1, h2, h3, _⟩
                  · rw [h1] at hv; simpa using hv.symm
                  · simp at h3
                refine ⟨by omega, rfl, by simp, by simp, rfl, by simp, .inl ⟨rfl, fun i h1 h2 => by simp at h2⟩, hst.1, hst.2, by rw [hvs]; rfl, by omega, ?_, by omega⟩
                subst h0
                rw [List.drop_zero] at b1 b2 c1 ⊢
                rw [Nat.zero_add, b1]
                have c1' : (signL L).2 ≠ 1 := fun h => c1 (.inl ⟨rfl, h⟩)
                rcases b2 with b2 | b2 | b2
                · exact absurd b2 c1'
                · rw [b2]; rfl
                · rw [b2]; rfl
              · rw [if_pos (by omega)]
                have hnu : ¬ nu < 0 := fun h => c2 ⟨by omega, h⟩
                obtain ⟨k1, k2, k3⟩ := hI.close hnu
                refine ⟨by omega, hI.all, hI.n, by omega, by rw [Int.toNat_natCast]; exact k1, by omega, .inl ⟨rfl, fun i h1 h2 => by omega⟩, hst.1, hst.2, by simp; omega, hI.v64, ?_, by omega⟩
                rw [List.take_add, k2, b1, Int.toNat_natCast, List.drop_length]
                have : signB (out ++ [shutS ps fr nu st]).length (0, 0, 0, (signL (L.drop at_)).1, false) = (if (signL (L.drop at_)).1 = 2 then [203, 136] else if (signL (L.drop at_)).1 = 1 then [203, 140] else [46]) := by
                  unfold signB
                  rw [if_pos (show 0 < (out ++ [shutS ps fr nu st]).length by simp)]
                  rfl
                rw [this]
                simp [texts]
      · rw [if_neg hs] at h
        split at h
        · simp at h
        · rename_i c1
          split at h
          · simp at h
          · rename_i c2
            obtain ⟨q1, ⟨T, hT⟩, q3⟩ := next_ok c1
            have hfit := next_fit (l := L) (at_ := at_) (by omega)
            have htake : (L.drop at_).take (nextL (L.drop at_)).2 = textP (nextL (L.drop at_)).1 := by
              have h9 := congrArg (List.take (textP (nextL (L.drop at_)).1).length) hT
              rw [List.take_left] at h9
              rw [q3]
              exact h9.symm
            have hpos := textP_pos q1
            have hall : (ps ++ [(nextL (L.drop at_)).1]).all isF = true := by rw [List.all_append, hI.all]; simp [q1]
            have htxt : ∀ st : Int, L.take at_ = spGo ps 0 out ++ signB out.length (0, 0, 0, st, false) ++ texts (ps.drop fr.toNat) → L.take (at_ + (nextL (L.drop at_)).2) = spGo (ps ++ [(nextL (L.drop at_)).1]) 0 out ++ signB out.length (0, 0, 0, st, false) ++ texts ((ps ++ [(nextL (L.drop at_)).1]).drop fr.toNat) := by
              intro st ht
              rw [List.take_add, htake, ht, spGo_more _ hI.run, List.drop_append_of_le_length hI.frle, texts_snoc]
              simp
            have hn := hI.n
            generalize hp : (nextL (L.drop at_)).1 = p at *
            generalize hw : (nextL (L.drop at_)).2 = n at *
            split at h
            · rename_i hv
              split at h
              · simp at h
              · rename_i c3
                split at h
                · simp at h
                · rename_i c4
                  refine ih _ _ _ _ _ _ _ _ ?_ h
                  have hvs := hI.vso
                  rw [if_pos (by omega)] at hvs
                  have hv64 := hI.v64
                  refine ⟨by omega, hall, by simp; omega, hI.fr0, hI.run.more _, by have := hI.frle; simp; omega, .inr ⟨ps.length, rfl, hI.frle, by simp, ?_⟩, hI.st0, hI.st2, by rw [if_neg (by omega)]; omega, by omega, htxt _ hI.txt, by omega⟩
                  intro i h1 h2
                  rcases hI.nuo with ⟨_, h5⟩ | ⟨N, h5, _⟩
                  · by_cases e : i = ps.length
                    · subst e; rw [getD_last', hv]; simp
                    · rw [getD_left (by simp at h2; omega), h5 i h1 (by simp at h2; omega), decide_eq_false e]
                  · omega
            · rename_i hv
              refine ih _ _ _ _ _ _ _ _ ?_ h
              refine ⟨by omega, hall, by simp; omega, hI.fr0, hI.run.more _, by have := hI.frle; simp; omega, ?_, hI.st0, hI.st2, hI.vso, hI.v64, htxt _ hI.txt, by omega⟩
              have hv : vowF p = false := by simpa using hv
              rcases hI.nuo with ⟨h4, h5⟩ | ⟨N, h4, h6, h7, h5⟩
              · refine .inl ⟨h4, fun i h1 h2 => ?_⟩
                by_cases e : i = ps.length
                · subst e; rw [getD_last', hv]
                · rw [getD_left (by simp at h2; omega), h5 i h1 (by simp at h2; omega)]
              · refine .inr ⟨N, h4, h6, by simp; omega, fun i h1 h2 => ?_⟩
                by_cases e : i = ps.length
                · subst e; rw [getD_last', hv, decide_eq_false (by omega)]
                · rw [getD_left (by simp at h2; omega), h5 i h1 (by simp at h2; omega)]
    · rw [if_neg hlt] at h
      split at h
      · simp at h
      · rename_i hnu
        obtain ⟨k1, k2, k3⟩ := hI.close hnu
        injection h with e1 e2
        injection e2 with e2 e3
        injection e3 with e3 e4
        subst e1 e2
        have h64 := hI.v64
        refine ⟨?_, by rw [k2, List.take_of_length_le (by omega)], e4.symm⟩
        unfold mayF
        rw [if_neg (by have := hI.n; simp; omega), if_pos hI.all, if_neg (by simp)]
        exact run_may.2 k1
theorem sr_ok {L : List UInt8} {m : List Ph} {w : List Sy} {x : Int} (h : srL L = (m, w, 0, x)) : mayF m w = 0 ∧ spGo m 0 w = L ∧ x = 0 :=
  sr_back (L.length + 1) 0 [] [] 0 (-1) 0 0 false ⟨Nat.zero_le _, rfl, by simp, by simp, (show Run [] [] 0 (Int.toNat 0) from rfl), by simp, .inl ⟨rfl, fun i h1 h2 => by simp at h2⟩, by omega, by omega, rfl, by omega, rfl, fun _ => ⟨rfl, rfl⟩⟩ h

/-- the runes of a text from a place on that are signs -/
def sgGo (L : List UInt8) : Nat → Nat → Nat
  | 0, _ => 0
  | f + 1, a => if a < L.length then (if isSg ((Utf8.decode (bts (L.drop a)) 0).1 : Int) then 1 else 0) + sgGo L f (a + (Utf8.decode (bts (L.drop a)) 0).2) else 0
def encR (rs : List Int) : List UInt8 := rs.flatMap encL
theorem sg_runes {L : List UInt8} : ∀ (rs : List Int) (pre : List UInt8) (f : Nat), L = pre ++ encR rs → (∀ r ∈ rs, 0 ≤ r ∧ r < 2048) → rs.length < f → sgGo L f pre.length = rs.countP isSg := by
  intro rs
  induction rs with
  | nil =>
    intro pre f hL _ hf
    obtain ⟨g, rfl⟩ : ∃ g, f = g + 1 := ⟨f - 1, by simp at hf; omega⟩
    unfold sgGo
    rw [if_neg (by rw [hL]; simp [encR])]
    rfl
  | cons r rs ih =>
    intro pre f hL hr hf
    obtain ⟨g, rfl⟩ : ∃ g, f = g + 1 := ⟨f - 1, by simp at hf; omega⟩
    have h0 := hr r (by simp)
    have hd : L.drop pre.length = encL r ++ encR rs := by rw [hL, List.drop_left]; simp [encR]
    have hl := encL_len h0.1 h0.2
    obtain ⟨d1, _⟩ := pre_dec (encL r ++ encR rs) r h0.1 h0.2 (List.prefix_append _ _)
    have hL2 : L = (pre ++ encL r) ++ encR rs := by rw [hL]; simp [encR]
    have hlt : pre.length < L.length := by rw [hL2]; simp only [List.length_append]; omega
    have h1 := ih (pre ++ encL r) g hL2 (fun x hx => hr x (by simp [hx])) (by simp at hf; omega)
    unfold sgGo
    rw [if_pos hlt, hd, d1]
    dsimp only
    rw [← List.length_append, h1, show ((r.toNat : Nat) : Int) = r by omega, List.countP_cons]
    cases isSg r <;> simp <;> omega
def runP (p : Ph) : List Int := p.1 :: ((if p.2.1 then [720] else []) ++ (if p.2.2 = 0 then [] else [p.2.2, 815]))
theorem run_text (p : Ph) : encR (runP p) = textP p := by
  have e1 : encL 720 = longL := by decide +kernel
  have e2 : encL 815 = glideL := by decide +kernel
  unfold encR runP textP
  rw [List.flatMap_cons, List.flatMap_append, List.append_assoc]
  congr 1
  congr 1
  · split
    · simp [e1]
    · rfl
  · split
    · rfl
    · simp [e2]
theorem run_ok {p : Ph} (h : isF p = true) : (∀ r ∈ runP p, 0 ≤ r ∧ r < 2048) ∧ (runP p).countP isSg = 0 := by
  obtain ⟨h1, h2⟩ := isF_tab h
  have h3 := tab_small h1
  have h4 := tab_sg h1
  have h5 : isSg p.2.2 = false := by rcases h2 with e | e | e <;> rw [e] <;> rfl
  have h6 : 0 ≤ p.2.2 ∧ p.2.2 < 2048 := by omega
  unfold runP
  constructor
  · intro r hr
    rcases List.mem_cons.1 hr with rfl | hr
    · exact h3
    · rcases List.mem_append.1 hr with hr | hr
      · split at hr
        · simp at hr; omega
        · simp at hr
      · split at hr
        · simp at hr
        · simp at hr; rcases hr with rfl | rfl
          · exact h6
          · omega
  · rw [List.countP_cons, h4, List.countP_append]
    have a1 : (if p.2.1 = true then [(720 : Int)] else []).countP isSg = 0 := by split <;> rfl
    have a2 : (if p.2.2 = 0 then [] else [p.2.2, 815]).countP isSg = 0 := by
      split
      · rfl
      · rw [List.countP_cons, h5]; rfl
    rw [a1, a2]
    rfl
def runB (i : Nat) (s : Sy) : List Int := if s.st = 2 then [712] else if s.st = 1 then [716] else if 0 < i then [46] else []
theorem runB_text (i : Nat) (s : Sy) : encR (runB i s) = signB i s := by
  unfold runB signB encR
  split
  · simp; decide +kernel
  · split
    · simp; decide +kernel
    · split
      · simp; decide +kernel
      · rfl
def spR (l : List Ph) : Nat → List Sy → List Int
  | _, [] => []
  | i, s :: r => runB i s ++ (cutL l s.fr.toNat s.to_.toNat).flatMap runP ++ spR l (i + 1) r
theorem encR_append (a b : List Int) : encR (a ++ b) = encR a ++ encR b := by simp [encR]
theorem runs_text (q : List Ph) : encR (q.flatMap runP) = texts q := by
  induction q with
  | nil => rfl
  | cons p q ih => rw [List.flatMap_cons, encR_append, run_text, ih]; simp [texts]
theorem spR_text (l : List Ph) : ∀ (ss : List Sy) (i : Nat), encR (spR l i ss) = spGo l i ss := by
  intro ss
  induction ss with
  | nil => intro i; rfl
  | cons s r ih => intro i; unfold spR spGo; rw [encR_append, encR_append, runB_text, runs_text, ih]
theorem runs_ok {q : List Ph} (h : q.all isF = true) : (∀ r ∈ q.flatMap runP, 0 ≤ r ∧ r < 2048) ∧ (q.flatMap runP).countP isSg = 0 := by
  induction q with
  | nil => exact ⟨fun r hr => by simp at hr, rfl⟩
  | cons p q ih =>
    simp only [List.all_cons, Bool.and_eq_true] at h
    obtain ⟨a1, a2⟩ := run_ok h.1
    obtain ⟨b1, b2⟩ := ih h.2
    rw [List.flatMap_cons]
    refine ⟨fun r hr => ?_, by rw [List.countP_append, a2, b2]⟩
    rcases List.mem_append.1 hr with hr | hr
    · exact a1 r hr
    · exact b1 r hr
theorem spR_ok {l : List Ph} (hall : l.all isF = true) : ∀ (ss : List Sy) (i : Nat), stOk ss → (∀ r ∈ spR l i ss, 0 ≤ r ∧ r < 2048) ∧ (spR l i ss).countP isSg + (if i = 0 ∧ ss ≠ [] ∧ (ss.getD 0 sy0).st = 0 then 1 else 0) = ss.length := by
  intro ss
  induction ss with
  | nil => intro i _; exact ⟨fun r hr => by simp [spR] at hr, by simp [spR]⟩
  | cons s r ih =>
    intro i hs
    have h0 := hs s (by simp)
    obtain ⟨b1, b2⟩ := ih (i + 1) (fun x hx => hs x (by simp [hx]))
    obtain ⟨a1, a2⟩ := runs_ok (cut_all hall s.fr.toNat s.to_.toNat)
    rw [if_neg (by omega)] at b2
    unfold spR
    constructor
    · intro x hx
      rcases List.mem_append.1 hx with hx | hx
      · rcases List.mem_append.1 hx with hx | hx
        · unfold runB at hx
          split at hx
          · simp at hx; omega
          · split at hx
            · simp at hx; omega
            · split at hx
              · simp at hx; omega
              · simp at hx
        · exact a1 x hx
      · exact b1 x hx
    · rw [List.countP_append, List.countP_append, a2, List.length_cons, List.getD_cons_zero]
      have : (runB i s).countP isSg + (if i = 0 ∧ s :: r ≠ [] ∧ s.st = 0 then 1 else 0) = 1 := by
        unfold runB
        by_cases e2 : s.st = 2
        · rw [if_pos e2, if_neg (by omega)]; rfl
        · by_cases e1 : s.st = 1
          · rw [if_neg e2, if_pos e1, if_neg (by omega)]; rfl
          · rw [if_neg e2, if_neg e1]
            by_cases hi : 0 < i
            · rw [if_pos hi, if_neg (by omega)]; rfl
            · rw [if_neg hi, if_pos ⟨by omega, by simp, by omega⟩]; rfl
      omega
/-- the signs of a text with syllables -/
theorem sg_count {l : List Ph} {ss : List Sy} (h : mayF l ss = 0) : sgGo (spGo l 0 ss) ((spGo l 0 ss).length + 1) 0 + (if (ss.getD 0 sy0).st = 0 then 1 else 0) = ss.length := by
  have hF := form_of h
  obtain ⟨a1, a2⟩ := spR_ok hF.all ss 0 hF.ok
  have hle : ∀ rs : List Int, (∀ r ∈ rs, 0 ≤ r ∧ r < 2048) → rs.length ≤ (encR rs).length := by
    intro rs
    induction rs with
    | nil => intro _; simp
    | cons r rs ih =>
      intro h
      have h1 := ih (fun x hx => h x (by simp [hx]))
      have h2 := encL_len (h r (by simp)).1 (h r (by simp)).2
      have : encR (r :: rs) = encL r ++ encR rs := by simp [encR]
      rw [this, List.length_append, List.length_cons]
      omega
  have h3 := hle _ a1
  rw [spR_text] at h3
  have := sg_runes (L := spGo l 0 ss) (spR l 0 ss) [] ((spGo l 0 ss).length + 1) (by rw [spR_text]; rfl) a1 (by omega)
  rw [List.length_nil] at this
  rw [this, ← a2]
  congr 1
  have hne : ss ≠ [] := List.length_pos_iff.1 hF.pos
  by_cases e : (ss.getD 0 sy0).st = 0
  · rw [if_pos e, if_pos ⟨rfl, hne, e⟩]
  · rw [if_neg e, if_neg (by rintro ⟨_, _, h⟩; exact e h)]
end Go.Proofs.Ytogofchpocoebaa
