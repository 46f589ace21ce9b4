/- Ranges over functions in plain walks: an iterator's contract by the number of its rounds; the caller's law; a function that leaves with marks among its deferred calls. -/
import Derived.RangeFuncNested
import Derived.Test.YtogofchpocoebaaMem
namespace Go.Proofs.Ytogofchpocoebaa
open Go.RowKit

section
variable {P : Program}

def Abide (B : Nat) (J : Nat → World → Prop) : Prop := ∀ k A A', J k A → Below B A A' → J k A'

/-- An iterator's contract: N rounds; X: what it says of a round's arguments; T: the blocks of what it hands over, which the round may write; C: the blocks ahead of it that it reads. -/
def Gives (P : Program) (gf : FuncId) (lb : Array Value) (N : Nat) (X : Nat → Nat → Array Value → World → Prop) (T : Array Value → Nat → Prop) (C : Nat → Prop) (W : World) : Prop :=
  ∀ (l : Nat) (J Jx : Nat → World → Prop), Abide W.heap.size J → Abide W.heap.size Jx →
    (∀ k args W1, k < N → J k W1 → W.heap.size ≤ W1.heap.size → X W.heap.size k args W1 → YieldAt Fence.wide 0 P l args W1 fun e W' =>
      (e = .returned (.bool true) ∧ J (k + 1) W' ∧ Only (fun b => (b < W.heap.size ∧ ¬ C b) ∨ T args b) W1 W') ∨ (e = .returned (.bool false) ∧ Jx (k + 1) W' ∧ Only (fun b => (b < W.heap.size ∧ ¬ C b) ∨ T args b) W1 W')) →
    J 0 W →
    Calls P gf (#[.func (.yield l) #[] #[]] ++ lb) W fun e W' => (∃ v, e = .returned v) ∧ (J N W' ∨ ∃ k, 0 < k ∧ k ≤ N ∧ Jx k W')

/-- How a round may be left. -/
def roundQ (B : Nat) (T : Array Value → Nat → Prop) (C : Nat → Prop) (I : Nat → World → Prop) (Ix : Code → Nat → World → Prop) (k : Nat) (args : Array Value) (W : World) : Exit → Act → World → Prop
  | .normal, _, W' => Only (fun b => (b < B ∧ ¬ C b) ∨ T args b) W W' ∧ I (k + 1) W'
  | .ret, _, W' => Only (fun b => (b < B ∧ ¬ C b) ∨ T args b) W W' ∧ Ix .ret (k + 1) W'
  | .exit id, _, W' => Only (fun b => (b < B ∧ ¬ C b) ∨ T args b) W W' ∧ Ix (.exit id) (k + 1) W'
  | .goto t, _, W' => Only (fun b => (b < B ∧ ¬ C b) ∨ T args b) W W' ∧ Ix (.goto t) (k + 1) W'
  | .panic _, _, _ => False
  | .outgrown, _, _ => False

theorem only_putObj (W : World) (l : Nat) (o : Obj) : Only (fun b => b = l) W (W.putObj l o) :=
  ⟨rfl, rfl, rfl, by simp, fun _ _ hk => World.putObj_heap_other hk⟩
theorem below_putObj {B : Nat} (W : World) {l : Nat} (o : Obj) (h : B ≤ l) : Below B W (W.putObj l o) :=
  ⟨rfl, rfl, rfl, by simp, fun _ hk => World.putObj_heap_other (by omega)⟩

theorem wp_range {g : Operand} {ps : Array Tmp} {assign body : Code} {Q : Exit → Act → World → Prop} {a : Act} {w : World} {gf : FuncId} {lb : Array Value} {N : Nat} {X : Nat → Nat → Array Value → World → Prop} {T : Array Value → Nat → Prop} {C : Nat → Prop}
    (hg : a.eval g = .func (.func gf) #[] lb) (eg : ∀ args w, (callFunc gf args).run P w = .ok (.enter gf args) w)
    (hseq : ∀ W, Below w.heap.size w W → W.heap.size = w.heap.size + 2 → Gives P gf lb N X T C W) (hC : ∀ b, C b → b < w.heap.size)
    (hX : ∀ k args W, X (w.heap.size + 2) k args W → args.size = ps.size ∧ ∀ b, T args b → w.heap.size + 2 ≤ b)
    (I : Nat → World → Prop) (Ix : Code → Nat → World → Prop) (hI : Abide w.heap.size I) (hIx : ∀ c, Abide w.heap.size (Ix c)) (h0 : I 0 w)
    (Ax : Nat → Array Value → Act → World → Prop)
    (hAx : ∀ k args a' A A', Ax k args a' A → Only (fun b => b = w.heap.size + 1) A A' → A'.heap.size = A.heap.size → w.heap.size + 2 ≤ A.heap.size → Ax k args a' A')
    (hassign : ∀ l k args W, k < N → I k W → X (w.heap.size + 2) k args W → w.heap.size + 2 ≤ W.heap.size →
      assign.wpIn (Fence.wide.inRound l) 0 P (Exit.then (fun a₁ W₁ => Only (fun b => b < w.heap.size ∧ ¬ C b) W W₁ ∧ Ax k args a₁ W₁) (fun _ _ _ => False)) { tmps := (ps.zip args).foldl (fun t (p, v) => t.setIfInBounds p v) a.tmps, defers := [] } W)
    (hbody : ∀ l k args a₁ W, k < N → Ax k args a₁ W → w.heap.size + 2 ≤ W.heap.size → body.wpIn (Fence.wide.inRound l) 0 P (roundQ w.heap.size T C I Ix k args W) a₁ W)
    (hdone : ∀ W, I N W → W.heap[w.heap.size]? = some (.deferred (some [])) → Q .normal { a with defers := { target := .collected w.heap.size, args := #[] } :: a.defers } W)
    (hstop : ∀ c k W, 0 < k → k ≤ N → Ix c k W → W.heap[w.heap.size]? = some (.deferred (some [])) → c.wp P Q { a with defers := { target := .collected w.heap.size, args := #[] } :: a.defers } W) :
    (Code.rangeFunc g ps assign body).wp P Q a w := by
  refine (wpIn_wide (n := 0)).1 (wpIn_rangeFunc ?_)
  intro fn hfn
  obtain ⟨rec, hrec⟩ : ∃ rec : LoopState → Option Code → Loop, rec = fun st pe => { state := st, pending := pe, fn, tmps := a.tmps, params := ps, assign, body, defers := w.heap.size } := ⟨_, rfl⟩
  obtain ⟨W1, hW1⟩ : ∃ W1, (w.alloc (.deferred (some []))).alloc (.loop (rec .ready none)) = W1 := ⟨_, rfl⟩
  have hL1 : W1.heap[w.heap.size + 1]? = some (.loop (rec .ready none)) := by
    rw [← hW1]; have := World.alloc_heap_new (w.alloc (.deferred (some []))) (.loop (rec .ready none)); rwa [World.size_alloc] at this
  have hK1 : W1.heap[w.heap.size]? = some (.deferred (some [])) := by
    rw [← hW1]; exact (Below.heap_alloc _ _ _ (by simp)).trans (World.alloc_heap_new w _)
  have hb1 : Below w.heap.size w W1 := by
    rw [← hW1]; exact ((Below.refl _ w).alloc (Nat.le_refl _) _).alloc (by simp) _
  have hz1 : W1.heap.size = w.heap.size + 2 := by rw [← hW1]; simp
  have hI1 : I 0 W1 := hI _ _ _ h0 hb1
  refine ⟨w.heap.size + 1, [{ target := .collected w.heap.size, args := #[] }], W1, { target := .fn (.func gf) lb, args := #[.func (.yield (w.heap.size + 1)) #[] #[]] }, W1, gf,
    #[.func (.yield (w.heap.size + 1)) #[] #[]] ++ lb, W1, ?_, ?_, ?_, ?_, ?_, ?_⟩
  · rw [← hW1, hrec]; exact run_enterLoop_outer _ _ _ _ _
  · simp only [resolve, hg]
    simp [go_sem]
  · intro _ _; trivial
  · simp [invoke, go_sem, eg]
  · intro h; cases h
  · refine callsIn_wide.2 ((hseq W1 hb1 hz1 (w.heap.size + 1)
      (fun k W => I k W ∧ W.heap[w.heap.size + 1]? = some (.loop (rec .ready none)) ∧ W.heap[w.heap.size]? = some (.deferred (some [])))
      (fun k W => ∃ c, Ix c k W ∧ W.heap[w.heap.size + 1]? = some (.loop (rec .done (some c))) ∧ W.heap[w.heap.size]? = some (.deferred (some [])))
      (fun k A A' h hb => ⟨hI _ _ _ h.1 (hb.mono (by omega)), (hb.block _ (by omega)).trans h.2.1, (hb.block _ (by omega)).trans h.2.2⟩)
      (fun k A A' h hb => by
        obtain ⟨c, hc, hl, hk⟩ := h
        exact ⟨c, hIx _ _ _ _ hc (hb.mono (by omega)), (hb.block _ (by omega)).trans hl, (hb.block _ (by omega)).trans hk⟩)
      ?_ ⟨hI1, hL1, hK1⟩).mono ?_)
    · rintro k args W hkN ⟨hi, hl, hk⟩ hsz hx
      rw [hz1] at hsz hx
      obtain ⟨hps, hTB⟩ := hX k args W hx
      have hlt : w.heap.size + 1 < W.heap.size := (Array.getElem?_eq_some_iff.1 hl).1
      have hy := run_yield (P := P) (args := args) hl (by rw [hrec]; exact hps)
      rw [hrec] at hy
      refine ⟨fn, _, assign, body, hy, roundIn_of_wpIn hfn (wpIn_mono (hassign _ k args W hkN hi hx hsz) ?_)⟩
      clear hy
      intro e a₁ Wa hpost
      cases e <;> try exact hpost
      obtain ⟨hoa, hax⟩ := hpost
      have hla := (hoa.block _ (by omega) (by omega)).trans hl
      have hka := (hoa.block _ (by omega) (by omega)).trans hk
      have hsa := Nat.le_trans hsz hoa.size
      refine ⟨_, run_beginRound hla (by rw [hrec]), ?_⟩
      have ho2 := only_putObj Wa (w.heap.size + 1) (.loop { rec .ready none with state := .busy })
      have hl2 : (Wa.putObj (w.heap.size + 1) (.loop { rec .ready none with state := .busy })).heap[w.heap.size + 1]? = some (.loop { rec .ready none with state := .busy }) := World.putObj_heap_same (by omega)
      have hk2 : (Wa.putObj (w.heap.size + 1) (.loop { rec .ready none with state := .busy })).heap[w.heap.size]? = some (.deferred (some [])) := (World.putObj_heap_other (by omega)).trans hka
      have hs2 : (Wa.putObj (w.heap.size + 1) (.loop { rec .ready none with state := .busy })).heap.size = Wa.heap.size := World.putObj_size
      have hax2 := hAx k args a₁ _ _ hax ho2 hs2 hsa
      refine wpIn_mono (hbody _ k args a₁ _ hkN hax2 (by rw [World.putObj_size]; exact hsa)) ?_
      have fin : ∀ (jump : Option Code) (W3 : World), Only (fun b => (b < w.heap.size ∧ ¬ C b) ∨ T args b) (Wa.putObj (w.heap.size + 1) (.loop { rec .ready none with state := .busy })) W3 →
          (Instr.endRound (w.heap.size + 1) jump).run P W3 = .ok (.bool jump.isNone) (W3.putObj (w.heap.size + 1) (.loop (rec (if jump.isNone then .ready else .done) jump))) ∧
          (W3.putObj (w.heap.size + 1) (.loop (rec (if jump.isNone then .ready else .done) jump))).heap[w.heap.size + 1]? = some (.loop (rec (if jump.isNone then .ready else .done) jump)) ∧
          (W3.putObj (w.heap.size + 1) (.loop (rec (if jump.isNone then .ready else .done) jump))).heap[w.heap.size]? = some (.deferred (some [])) ∧
          Only (fun b => (b < w.heap.size + 2 ∧ ¬ C b) ∨ T args b) W (W3.putObj (w.heap.size + 1) (.loop (rec (if jump.isNone then .ready else .done) jump))) := fun jump W3 h3 => by
        have hn1 : ¬ ((w.heap.size + 1 < w.heap.size ∧ ¬ C (w.heap.size + 1)) ∨ T args (w.heap.size + 1)) := fun h => by
          rcases h with h | h
          · omega
          · have := hTB _ h; omega
        have hn0 : ¬ ((w.heap.size < w.heap.size ∧ ¬ C w.heap.size) ∨ T args w.heap.size) := fun h => by
          rcases h with h | h
          · omega
          · have := hTB _ h; omega
        have hl3 := (h3.block _ (by omega) hn1).trans hl2
        have hk3 := (h3.block _ (by omega) hn0).trans hk2
        have := run_endRound (P := P) jump hl3
        rw [hrec] at this ⊢
        refine ⟨this, World.putObj_heap_same (Array.getElem?_eq_some_iff.1 hl3).1, (World.putObj_heap_other (by omega)).trans hk3, ?_⟩
        have hCl : ¬ C (w.heap.size + 1) := fun h => by have := hC _ h; omega
        have q1 : Only (fun b => (b < w.heap.size + 2 ∧ ¬ C b) ∨ T args b) W Wa := hoa.weak (fun k _ hk => .inl ⟨by omega, hk.2⟩)
        have q2 : Only (fun b => (b < w.heap.size + 2 ∧ ¬ C b) ∨ T args b) Wa _ := ho2.weak (fun k _ hk => .inl ⟨by omega, by rw [hk]; exact hCl⟩)
        have q3 : Only (fun b => (b < w.heap.size + 2 ∧ ¬ C b) ∨ T args b) _ W3 := h3.weak (fun k _ hk => hk.elim (fun h => .inl ⟨by omega, h.2⟩) .inr)
        have q4 : Only (fun b => (b < w.heap.size + 2 ∧ ¬ C b) ∨ T args b) W3 _ := (only_putObj W3 (w.heap.size + 1) (.loop (rec (if jump.isNone then .ready else .done) jump))).weak (fun k _ hk => .inl ⟨by omega, by rw [hk]; exact hCl⟩)
        rw [hrec] at q2 q3 q4
        exact (q1.trans q2).trans (q3.trans q4)
      rintro e a3 W3 hp
      cases e with
      | normal =>
        obtain ⟨h3, hi3⟩ := hp
        obtain ⟨hr, hl4, hk4, ho4⟩ := fin none W3 h3
        exact ⟨_, _, hr, .inl ⟨rfl, ⟨hI _ _ _ hi3 (below_putObj _ _ (by omega)), hl4, hk4⟩, by rw [hz1]; exact ho4⟩⟩
      | ret =>
        obtain ⟨h3, hi3⟩ := hp
        obtain ⟨hr, hl4, hk4, ho4⟩ := fin (some .ret) W3 h3
        exact ⟨_, _, hr, .inr ⟨rfl, ⟨.ret, hIx _ _ _ _ hi3 (below_putObj _ _ (by omega)), hl4, hk4⟩, by rw [hz1]; exact ho4⟩⟩
      | exit id =>
        obtain ⟨h3, hi3⟩ := hp
        obtain ⟨hr, hl4, hk4, ho4⟩ := fin (some (.exit id)) W3 h3
        exact ⟨_, _, hr, .inr ⟨rfl, ⟨.exit id, hIx _ _ _ _ hi3 (below_putObj _ _ (by omega)), hl4, hk4⟩, by rw [hz1]; exact ho4⟩⟩
      | goto t =>
        obtain ⟨h3, hi3⟩ := hp
        obtain ⟨hr, hl4, hk4, ho4⟩ := fin (some (.goto t)) W3 h3
        exact ⟨_, _, hr, .inr ⟨rfl, ⟨.goto t, hIx _ _ _ _ hi3 (below_putObj _ _ (by omega)), hl4, hk4⟩, by rw [hz1]; exact ho4⟩⟩
      | panic ch => exact hp.elim
      | outgrown => exact hp.elim
    · rintro e W2 ⟨⟨v, rfl⟩, (⟨hi, hl, hk⟩ | ⟨k, hk0, hkN, c, hi, hl, hk⟩)⟩
      · exact ⟨none, _, by have := run_endLoop (P := P) hl (by rw [hrec]; simp); rw [hrec] at this; exact this, hdone _ (hI _ _ _ hi (below_putObj _ _ (by omega))) ((World.putObj_heap_other (by omega)).trans hk)⟩
      · exact ⟨some c, _, by have := run_endLoop (P := P) hl (by rw [hrec]; simp); rw [hrec] at this; exact this, wpIn_wide.2 (hstop c k _ hk0 hkN (hIx _ _ _ _ hi (below_putObj _ _ (by omega))) ((World.putObj_heap_other (by omega)).trans hk))⟩

/-- a range over a function that hands over nothing -/
theorem wp_range_none {g : Operand} {ps : Array Tmp} {assign body : Code} {Q : Exit → Act → World → Prop} {a : Act} {w : World} {gf : FuncId} {lb : Array Value}
    (hg : a.eval g = .func (.func gf) #[] lb) (eg : ∀ args w, (callFunc gf args).run P w = .ok (.enter gf args) w)
    (hseq : ∀ W, Below w.heap.size w W → W.heap.size = w.heap.size + 2 → Gives P gf lb 0 (fun _ _ _ _ => False) (fun _ _ => False) (fun _ => False) W)
    (hdone : ∀ W, Below w.heap.size w W → W.heap[w.heap.size]? = some (.deferred (some [])) → Q .normal { a with defers := { target := .collected w.heap.size, args := #[] } :: a.defers } W) :
    (Code.rangeFunc g ps assign body).wp P Q a w :=
  wp_range (N := 0) hg eg hseq (fun _ h => h.elim) (fun _ _ _ h => h.elim) (fun _ W => Below w.heap.size w W) (fun _ _ _ => False) (fun _ _ _ h hb => h.trans hb) (fun _ _ _ _ h _ => h) (Below.refl _ _) (fun _ _ _ _ => False)
    (fun _ _ _ _ _ h _ _ _ => h.elim) (fun _ _ _ _ h => absurd h (Nat.not_lt_zero _)) (fun _ _ _ _ _ h => absurd h (Nat.not_lt_zero _)) hdone (fun _ _ _ _ _ h => h.elim)

/-- the marks among an activation's deferred calls: blocks from B on, each open and named once -/
def Marks (B : Nat) : List Deferred → World → Prop
  | [], _ => True
  | d :: ds, w => ∃ r, d.target = .collected r ∧ B ≤ r ∧ w.heap[r]? = some (.deferred (some [])) ∧ (∀ d' ∈ ds, d'.target ≠ .collected r) ∧ Marks B ds w
theorem Marks.keep {B : Nat} : ∀ {ds : List Deferred} {w w' : World}, Marks B ds w → (∀ r, B ≤ r → w.heap[r]? = some (.deferred (some [])) → (∃ d ∈ ds, d.target = .collected r) → w'.heap[r]? = some (.deferred (some []))) → Marks B ds w' := by
  intro ds
  induction ds with
  | nil => intro w w' _ _; trivial
  | cons d ds ih =>
    rintro w w' ⟨r, h1, h2, h3, h4, h5⟩ hk
    exact ⟨r, h1, h2, hk r h2 h3 ⟨d, by simp, h1⟩, h4, ih h5 fun r' hb hd ⟨d', hd', ht⟩ => hk r' hb hd ⟨d', by simp [hd'], ht⟩⟩
theorem Marks.only {B : Nat} {ds : List Deferred} {w w' : World} {S : Nat → Prop} (h : Marks B ds w) (ho : Only S w w') (hS : ∀ r, w.heap[r]? = some (.deferred (some [])) → ¬ S r) : Marks B ds w' :=
  h.keep fun r _ hr _ => (ho.block r (Array.getElem?_eq_some_iff.1 hr).1 (hS r hr)).trans hr
theorem Marks.below {B : Nat} {ds : List Deferred} {w w' : World} (h : Marks B ds w) (hb : Below w.heap.size w w') : Marks B ds w' :=
  h.keep fun r _ hr _ => (hb.block r (Array.getElem?_eq_some_iff.1 hr).1).trans hr
theorem Marks.lt {B : Nat} : ∀ {ds : List Deferred} {w : World}, Marks B ds w → ∀ d ∈ ds, ∃ r, d.target = .collected r ∧ r < w.heap.size := by
  intro ds
  induction ds with
  | nil => intro w _ d hd; simp at hd
  | cons d ds ih =>
    rintro w ⟨r, h1, h2, h3, h4, h5⟩ d' hd'
    rcases List.mem_cons.1 hd' with rfl | hd'
    · exact ⟨r, h1, (Array.getElem?_eq_some_iff.1 h3).1⟩
    · exact ih h5 d' hd'
/-- one mark more, of a block that was not there -/
theorem Marks.more {B : Nat} {ds : List Deferred} {w w' : World} (h : Marks B ds w) (hb : Below w.heap.size w w') (hB : B ≤ w.heap.size) (hk : w'.heap[w.heap.size]? = some (.deferred (some []))) : Marks B ({ target := .collected w.heap.size, args := #[] } :: ds) w' :=
  ⟨_, rfl, hB, hk, fun d hd e => by
    obtain ⟨r, h1, h2⟩ := h.lt d hd
    rw [h1] at e
    injection e with e
    omega, h.below hb⟩

theorem Marks.setCell {B : Nat} {ds : List Deferred} {w : World} (h : Marks B ds w) {g : Nat} {t : TypeId} {cs : Array Value} (hg : Blk w g t cs) (i : Nat) (v : Value) : Marks B ds (w.setCell ⟨g, i, none⟩ v) :=
  h.only (S := fun b => b = g) (Only.setCell (S := fun b => b = g) (p := ⟨g, i, none⟩) (Only.refl _ w) (.inl rfl) v) fun r hr e => by
    subst e
    unfold Blk at hg
    rw [hg] at hr
    cases hr

theorem leaves_marks {fn : Func} {tmps : Array Value} {R : Ending → World → Prop} {B : Nat} : ∀ {ds : List Deferred} {w : World}, Marks B ds w →
    (∀ w', Below B w w' → ∃ v, (results fn tmps).run P w' = .ok v w' ∧ R (.returned v) w') → LeavesInM Fence.wide 0 P fn tmps R ds .returning w := by
  intro ds
  induction ds with
  | nil => intro w _ h; exact h w (Below.refl _ _)
  | cons d ds ih =>
    rintro w ⟨r, h1, h2, h3, h4, h5⟩ h
    refine ⟨by simp, .inl ⟨r, _, h1, run_takeDeferred h3, ih ?_ ?_⟩⟩
    · refine h5.keep fun r' hb hd ⟨d', hd', ht⟩ => (World.putObj_heap_other ?_).trans hd
      intro e
      subst e
      exact h4 d' hd' ht
    · exact fun w' hb => h w' ((below_putObj _ _ h2).trans hb)

/-- a function that holds a range over a function, by a plain walk of its body -/
theorem calls_of_wp_marks {f : FuncId} {fn : Func} {c : Code} {args : Array Value} {w : World} {R : Ending → World → Prop}
    (hf : P.funcs[f]? = some fn) (hb : fn.body = some c)
    (h : c.wp P (bodyPostM Fence.wide 0 P fn R) { tmps := args ++ Array.replicate (fn.ntmps - args.size) undef, defers := [] } w) : Calls P f args w R :=
  callsIn_wide.1 (callsIn_of_wp_marks (F := Fence.wide) (n := 0) hf hb trivial (wpIn_wide.2 h))
theorem bodyPostM_ret {fn : Func} {R : Ending → World → Prop} {a : Act} {w : World} {B : Nat} (hm : Marks B a.defers w) (h : ∀ w', Below B w w' → ∃ v, (results fn a.tmps).run P w' = .ok v w' ∧ R (.returned v) w') : bodyPostM Fence.wide 0 P fn R .ret a w :=
  leaves_marks hm h
theorem bodyPostM_end {fn : Func} {R : Ending → World → Prop} {a : Act} {w : World} {B : Nat} (hm : Marks B a.defers w) (h : ∀ w', Below B w w' → ∃ v, (results fn a.tmps).run P w' = .ok v w' ∧ R (.returned v) w') : bodyPostM Fence.wide 0 P fn R .normal a w :=
  leaves_marks hm h
end
end Go.Proofs.Ytogofchpocoebaa
