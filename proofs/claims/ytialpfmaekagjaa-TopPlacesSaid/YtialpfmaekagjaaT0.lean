/- An iterator that hands over a list of arguments and is never stopped: its contract, and the range over it. -/
import Derived.Test.YtialpfmaekagjaaMem
import Derived.Test.YtialpfmaekagjaaGen
import Derived.RangeFuncBound
import Derived.RangeFuncCalls
namespace Go.Proofs.Ytialpfmaekagjaa
open Go.RowKit

section
variable {P : Program}

def AbideS {β : Type} (B : Nat) (J : List β → (Nat → Prop) → World → Prop) : Prop := ∀ r S A A', J r S A → Only (fun b => B ≤ b ∧ ¬ S b) A A' → J r S A'
/-- An iterator's contract: it hands over the arguments L, one behind another, and returns; J: what the caller knows where a rest is still to come, S: the blocks that its rounds have made and may turn; C: the blocks ahead of it that it reads. -/
def GivesT (P : Program) (gf : FuncId) (lb : Array Value) (L : List (Array Value)) (C : Nat → Prop) (W : World) : Prop :=
  ∀ (l : Nat) (J : List (Array Value) → (Nat → Prop) → World → Prop), AbideS W.heap.size J →
    (∀ x rest S W1, (∀ b, S b → W.heap.size ≤ b ∧ b < W1.heap.size) → W.heap.size ≤ W1.heap.size → J (x :: rest) S W1 → YieldAt Fence.wide 0 P l x W1 fun e W' =>
      e = .returned (.bool true) ∧ ∃ S', J rest S' W' ∧ (∀ b, S' b → S b ∨ (W1.heap.size ≤ b ∧ b < W'.heap.size)) ∧ Only (fun b => (b < W.heap.size ∧ ¬ C b) ∨ S b) W1 W') →
    J L (fun _ => False) W →
    Calls P gf (#[.func (.yield l) #[] #[]] ++ lb) W fun e W' => (∃ v, e = .returned v) ∧ ∃ S, (∀ b, S b → W.heap.size ≤ b ∧ b < W'.heap.size) ∧ J [] S W'
def roundQT (B : Nat) (C S : Nat → Prop) (I : (Nat → Prop) → World → Prop) (W : World) : Exit → Act → World → Prop
  | .normal, _, W' => Only (fun b => (b < B ∧ ¬ C b) ∨ S b) W W' ∧ ∃ S', I S' W' ∧ (∀ b, S' b → S b ∨ (W.heap.size ≤ b ∧ b < W'.heap.size))
  | .ret, _, _ => False
  | .exit _, _, _ => False
  | .goto _, _, _ => False
  | .panic _, _, _ => False
  | .outgrown, _, _ => False

theorem wp_rangeT {g : Operand} {ps : Array Tmp} {assign body : Code} {Q : Exit → Act → World → Prop} {a : Act} {w : World} {gf : FuncId} {lb : Array Value} {L : List (Array Value)} {C : Nat → Prop}
    (hg : a.eval g = .func (.func gf) #[] lb) (eg : ∀ args w, (callFunc gf args).run P w = .ok (.enter gf args) w)
    (hseq : ∀ W, Below w.heap.size w W → W.heap.size = w.heap.size + 2 → GivesT P gf lb L C W) (hC : ∀ b, C b → b < w.heap.size)
    (hX : ∀ a ∈ L, a.size = ps.size)
    (I : List (Array Value) → (Nat → Prop) → World → Prop) (hI : AbideS w.heap.size I) (h0 : I L (fun _ => False) w)
    (Ax : Array Value → List (Array Value) → (Nat → Prop) → Act → World → Prop)
    (hAx : ∀ x rest S a' A A', Ax x rest S a' A → (∀ b, S b → w.heap.size + 2 ≤ b) → Only (fun b => b = w.heap.size + 1) A A' → A'.heap.size = A.heap.size → w.heap.size + 2 ≤ A.heap.size → Ax x rest S a' A')
    (hassign : ∀ l x rest S W, (x :: rest) <:+ L → I (x :: rest) S W → (∀ b, S b → w.heap.size + 2 ≤ b ∧ b < W.heap.size) → w.heap.size + 2 ≤ W.heap.size →
      assign.wpIn (Fence.wide.inRound l) 0 P (Exit.then (fun a₁ W₁ => Only (fun b => b < w.heap.size ∧ ¬ C b) W W₁ ∧ Ax x rest S a₁ W₁) (fun _ _ _ => False)) { tmps := (ps.zip x).foldl (fun t (p, v) => t.setIfInBounds p v) a.tmps, defers := [] } W)
    (hbody : ∀ l x rest S a₁ W, (x :: rest) <:+ L → Ax x rest S a₁ W → (∀ b, S b → w.heap.size + 2 ≤ b ∧ b < W.heap.size) → w.heap.size + 2 ≤ W.heap.size → body.wpIn (Fence.wide.inRound l) 0 P (roundQT w.heap.size C S (I rest) W) a₁ W)
    (hdone : ∀ S W, (∀ b, S b → w.heap.size + 2 ≤ b ∧ b < W.heap.size) → w.heap.size + 2 ≤ W.heap.size → I [] S W → W.heap[w.heap.size]? = some (.deferred (some [])) → Q .normal { a with defers := { target := .collected w.heap.size, args := #[] } :: a.defers } W) :
    (Code.rangeFunc g ps assign body).wp P Q a w := by
  refine (wpIn_wide (n := 0)).1 (wpIn_rangeFunc ?_)
  intro fn hfn
  obtain ⟨rec, hrec⟩ : ∃ rec : LoopState → Option Code → Loop, rec = fun st pe => { state := st, pending := pe, fn, tmps := a.tmps, params := ps, assign, body, defers := w.heap.size } := ⟨_, rfl⟩
  obtain ⟨W1, hW1⟩ : ∃ W1, (w.alloc (.deferred (some []))).alloc (.loop (rec .ready none)) = W1 := ⟨_, rfl⟩
  have hL1 : W1.heap[w.heap.size + 1]? = some (.loop (rec .ready none)) := by
    rw [← hW1]; have := World.alloc_heap_new (w.alloc (.deferred (some []))) (.loop (rec .ready none)); rwa [World.size_alloc] at this
  have hK1 : W1.heap[w.heap.size]? = some (.deferred (some [])) := by
    rw [← hW1]; exact (Below.heap_alloc _ _ _ (by simp)).trans (World.alloc_heap_new w _)
  have hb1 : Below w.heap.size w W1 := by
    rw [← hW1]; exact ((Below.refl _ w).alloc (Nat.le_refl _) _).alloc (by simp) _
  have hz1 : W1.heap.size = w.heap.size + 2 := by rw [← hW1]; simp
  have hI1 : I L (fun _ => False) W1 := hI _ _ _ _ h0 (Only.of_below hb1 _)
  refine ⟨w.heap.size + 1, [{ target := .collected w.heap.size, args := #[] }], W1, { target := .fn (.func gf) lb, args := #[.func (.yield (w.heap.size + 1)) #[] #[]] }, W1, gf,
    #[.func (.yield (w.heap.size + 1)) #[] #[]] ++ lb, W1, ?_, ?_, ?_, ?_, ?_, ?_⟩
  · rw [← hW1, hrec]; exact run_enterLoop_outer _ _ _ _ _
  · simp only [resolve, hg]
    simp [go_sem]
  · intro _ _; trivial
  · simp [invoke, go_sem, eg]
  · intro h; cases h
  · refine callsIn_wide.2 ((hseq W1 hb1 hz1 (w.heap.size + 1)
      (fun r S W => r <:+ L ∧ I r S W ∧ W.heap[w.heap.size + 1]? = some (.loop (rec .ready none)) ∧ W.heap[w.heap.size]? = some (.deferred (some [])))
      (fun r S A A' ⟨hs, hi, hl, hk⟩ hb => ⟨hs, hI _ _ _ _ hi (hb.weak (fun b _ hk => ⟨by omega, hk.2⟩)), (hb.block _ (Array.getElem?_eq_some_iff.1 hl).1 (by omega)).trans hl, (hb.block _ (Array.getElem?_eq_some_iff.1 hk).1 (by omega)).trans hk⟩)
      ?_ ⟨List.suffix_refl L, hI1, hL1, hK1⟩).mono ?_)
    · rintro x rest S W hS hsz ⟨hkN, hi, hl, hk⟩
      rw [hz1] at hS hsz
      have hps := hX x (hkN.subset (List.mem_cons_self ..))
      have hlt : w.heap.size + 1 < W.heap.size := (Array.getElem?_eq_some_iff.1 hl).1
      have hy := run_yield (P := P) (args := x) hl (by rw [hrec]; exact hps)
      rw [hrec] at hy
      refine ⟨fn, _, assign, body, hy, roundIn_of_wpIn hfn (wpIn_mono (hassign _ x rest S W hkN hi hS hsz) ?_)⟩
      clear hy
      intro e a₁ Wa hpost
      cases e <;> try exact hpost
      obtain ⟨hoa, hax⟩ := hpost
      have hla := (hoa.block _ (by omega) (by omega)).trans hl
      have hka := (hoa.block _ (by omega) (by omega)).trans hk
      have hsa := Nat.le_trans hsz hoa.size
      refine ⟨_, run_beginRound hla (by rw [hrec]), ?_⟩
      have ho2 := only_putObj Wa (w.heap.size + 1) (.loop { rec .ready none with state := .busy })
      have hl2 : (Wa.putObj (w.heap.size + 1) (.loop { rec .ready none with state := .busy })).heap[w.heap.size + 1]? = some (.loop { rec .ready none with state := .busy }) := World.putObj_heap_same (by omega)
      have hk2 : (Wa.putObj (w.heap.size + 1) (.loop { rec .ready none with state := .busy })).heap[w.heap.size]? = some (.deferred (some [])) := (World.putObj_heap_other (by omega)).trans hka
      have hs2 : (Wa.putObj (w.heap.size + 1) (.loop { rec .ready none with state := .busy })).heap.size = Wa.heap.size := World.putObj_size
      have hax2 := hAx x rest S a₁ _ _ hax (fun b hb => (hS b hb).1) ho2 hs2 hsa
      have hso := hoa.size
      refine wpIn_mono (hbody _ x rest S a₁ _ hkN hax2 (fun b hb => ⟨(hS b hb).1, by have := (hS b hb).2; rw [World.putObj_size]; omega⟩) (by rw [World.putObj_size]; exact hsa)) ?_
      have fin : ∀ (jump : Option Code) (W3 : World), Only (fun b => (b < w.heap.size ∧ ¬ C b) ∨ S b) (Wa.putObj (w.heap.size + 1) (.loop { rec .ready none with state := .busy })) W3 →
          (Instr.endRound (w.heap.size + 1) jump).run P W3 = .ok (.bool jump.isNone) (W3.putObj (w.heap.size + 1) (.loop (rec (if jump.isNone then .ready else .done) jump))) ∧
          (W3.putObj (w.heap.size + 1) (.loop (rec (if jump.isNone then .ready else .done) jump))).heap[w.heap.size + 1]? = some (.loop (rec (if jump.isNone then .ready else .done) jump)) ∧
          (W3.putObj (w.heap.size + 1) (.loop (rec (if jump.isNone then .ready else .done) jump))).heap[w.heap.size]? = some (.deferred (some [])) ∧
          Only (fun b => (b < w.heap.size + 2 ∧ ¬ C b) ∨ S b) W (W3.putObj (w.heap.size + 1) (.loop (rec (if jump.isNone then .ready else .done) jump))) := fun jump W3 h3 => by
        have hn1 : ¬ ((w.heap.size + 1 < w.heap.size ∧ ¬ C (w.heap.size + 1)) ∨ S (w.heap.size + 1)) := fun h => by
          rcases h with h | h
          · omega
          · have := hS _ h; omega
        have hn0 : ¬ ((w.heap.size < w.heap.size ∧ ¬ C w.heap.size) ∨ S w.heap.size) := fun h => by
          rcases h with h | h
          · omega
          · have := hS _ h; omega
        have hl3 := (h3.block _ (by omega) hn1).trans hl2
        have hk3 := (h3.block _ (by omega) hn0).trans hk2
        have := run_endRound (P := P) jump hl3
        rw [hrec] at this ⊢
        refine ⟨this, World.putObj_heap_same (Array.getElem?_eq_some_iff.1 hl3).1, (World.putObj_heap_other (by omega)).trans hk3, ?_⟩
        have hCl : ¬ C (w.heap.size + 1) := fun h => by have := hC _ h; omega
        have q1 : Only (fun b => (b < w.heap.size + 2 ∧ ¬ C b) ∨ S b) W Wa := hoa.weak (fun k _ hk => .inl ⟨by omega, hk.2⟩)
        have q2 : Only (fun b => (b < w.heap.size + 2 ∧ ¬ C b) ∨ S b) Wa _ := ho2.weak (fun k _ hk => .inl ⟨by omega, by rw [hk]; exact hCl⟩)
        have q3 : Only (fun b => (b < w.heap.size + 2 ∧ ¬ C b) ∨ S b) _ W3 := h3.weak (fun k _ hk => hk.elim (fun h => .inl ⟨by omega, h.2⟩) .inr)
        have q4 : Only (fun b => (b < w.heap.size + 2 ∧ ¬ C b) ∨ S b) W3 _ := (only_putObj W3 (w.heap.size + 1) (.loop (rec (if jump.isNone then .ready else .done) jump))).weak (fun k _ hk => .inl ⟨by omega, by rw [hk]; exact hCl⟩)
        rw [hrec] at q2 q3 q4
        exact (q1.trans q2).trans (q3.trans q4)
      rintro e a3 W3 hp
      cases e with
      | normal =>
        obtain ⟨h3, S', hi3, hS'⟩ := hp
        obtain ⟨hr, hl4, hk4, ho4⟩ := fin none W3 h3
        have hsz3 := h3.size
        rw [World.putObj_size] at hS' hsz3
        have hnS : ¬ S' (w.heap.size + 1) := fun h => by
          rcases hS' _ h with h | h
          · have := (hS _ h).1; omega
          · omega
        refine ⟨_, _, hr, ⟨rfl, S', ⟨List.IsSuffix.trans (List.suffix_cons _ _) hkN, hI _ _ _ _ hi3 ((only_putObj W3 _ _).weak (fun b _ e => by subst e; exact ⟨by omega, hnS⟩)), hl4, hk4⟩, ?_, by rw [hz1]; exact ho4⟩⟩
        intro b hb
        rw [World.putObj_size]
        rcases hS' _ hb with h | h
        · exact .inl h
        · exact .inr ⟨by omega, h.2⟩
      | ret => exact hp.elim
      | exit id => exact hp.elim
      | goto t => exact hp.elim
      | panic ch => exact hp.elim
      | outgrown => exact hp.elim
    · rintro e W2 ⟨⟨v, rfl⟩, S, hS, _, hi, hl, hk⟩
      rw [hz1] at hS
      have hlt : w.heap.size + 1 < W2.heap.size := (Array.getElem?_eq_some_iff.1 hl).1
      exact ⟨none, _, by have := run_endLoop (P := P) hl (by rw [hrec]; simp); rw [hrec] at this; exact this, hdone S _ (fun b hb => by rw [World.putObj_size]; exact hS b hb) (by rw [World.putObj_size]; exact hlt) (hI _ _ _ _ hi ((only_putObj W2 _ _).weak (fun b _ e => by subst e; exact ⟨by omega, fun h => by have := (hS _ h).1; omega⟩))) ((World.putObj_heap_other (by omega)).trans hk)⟩

theorem leaves_marks2 {fn : Func} {tmps : Array Value} {R : Ending → World → Prop} {B : Nat} {S : Nat → Prop} : ∀ {ds : List Deferred} {w : World}, Marks B ds w → (∀ d ∈ ds, ∀ r, d.target = .collected r → S r) →
    (∀ w', Only S w w' → ∃ v, (results fn tmps).run P w' = .ok v w' ∧ R (.returned v) w') → LeavesInM Fence.wide 0 P fn tmps R ds .returning w := by
  intro ds
  induction ds with
  | nil => intro w _ _ h; exact h w (Only.refl _ _)
  | cons d ds ih =>
    rintro w ⟨r, h1, h2, h3, h4, h5⟩ hS h
    refine ⟨by simp, .inl ⟨r, _, h1, run_takeDeferred h3, ih ?_ (fun d hd r hr => hS d (List.mem_cons_of_mem _ hd) r hr) ?_⟩⟩
    · refine h5.keep fun r' hb hd ⟨d', hd', ht⟩ => (World.putObj_heap_other ?_).trans hd
      intro e
      subst e
      exact h4 d' hd' ht
    · exact fun w' hb => h w' (((only_putObj _ _ _).weak (fun k _ e => by subst e; exact hS d (List.mem_cons_self ..) _ h1)).trans hb)
/-- a function that leaves behind one range: only the range's mark turns -/
theorem leaves_one {fn : Func} {tmps : Array Value} {R : Ending → World → Prop} {D : Nat} {w : World} (h : w.heap[D]? = some (.deferred (some [])))
    (hK : ∀ w', Only (fun b => b = D) w w' → ∃ v, (results fn tmps).run P w' = .ok v w' ∧ R (.returned v) w') : LeavesInM Fence.wide 0 P fn tmps R [{ target := .collected D, args := #[] }] .returning w :=
  leaves_marks2 (B := D) (S := fun b => b = D) ⟨D, rfl, Nat.le_refl _, h, fun d hd => by simp at hd, trivial⟩ (fun d hd r hr => by
    rw [List.mem_singleton] at hd
    subst hd
    injection hr with hr
    exact hr.symm) hK

/-- the same, where the loop's variable is boxed: one box a round -/
theorem wp_rangeE {α : Type} {g : Operand} {ps : Array Tmp} {assign body : Code} {Q : Exit → Act → World → Prop} {a : Act} {w : World} {gf : FuncId} {lb : Array Value} (L : List α) (enc : α → Array Value) {C : Nat → Prop} (bt : TypeId) (bc : α → Array Value) (F : Nat → α → Act)
    (hg : a.eval g = .func (.func gf) #[] lb) (eg : ∀ args w, (callFunc gf args).run P w = .ok (.enter gf args) w)
    (hseq : ∀ W, Below w.heap.size w W → W.heap.size = w.heap.size + 2 → GivesT P gf lb (L.map enc) C W) (hC : ∀ b, C b → b < w.heap.size)
    (hX : ∀ p, (enc p).size = ps.size)
    (I : List α → (Nat → Prop) → World → Prop) (hI : AbideS w.heap.size I) (h0 : I L (fun _ => False) w)
    (hassign : ∀ l p W, assign.wpIn (Fence.wide.inRound l) 0 P (Exit.then (fun a₁ W₁ => W₁ = W.alloc (.cells (bc p) bt) ∧ a₁ = F W.heap.size p) (fun _ _ _ => False)) { tmps := (ps.zip (enc p)).foldl (fun t (p, v) => t.setIfInBounds p v) a.tmps, defers := [] } W)
    (hbody : ∀ l p rest S pb W, (p :: rest) <:+ L → I (p :: rest) S W → Blk W pb bt (bc p) → (∀ b, S b → w.heap.size + 2 ≤ b ∧ b < pb) → w.heap.size + 2 ≤ pb → body.wpIn (Fence.wide.inRound l) 0 P (roundQT w.heap.size C S (I rest) W) (F pb p) W)
    (hdone : ∀ S W, (∀ b, S b → w.heap.size + 2 ≤ b ∧ b < W.heap.size) → w.heap.size + 2 ≤ W.heap.size → I [] S W → W.heap[w.heap.size]? = some (.deferred (some [])) → Q .normal { a with defers := { target := .collected w.heap.size, args := #[] } :: a.defers } W) :
    (Code.rangeFunc g ps assign body).wp P Q a w := by
  refine wp_rangeT hg eg hseq hC (fun x hx => by obtain ⟨p, _, rfl⟩ := List.mem_map.1 hx; exact hX p)
    (fun r S W => ∃ l : List α, r = l.map enc ∧ l <:+ L ∧ I l S W) (fun r S A A' ⟨l, h1, h2, h3⟩ ho => ⟨l, h1, h2, hI _ _ _ _ h3 ho⟩) ⟨L, rfl, List.suffix_refl _, h0⟩
    (fun x r S a' W => ∃ (pb : Nat) (p : α) (l : List α), r = l.map enc ∧ (p :: l) <:+ L ∧ I (p :: l) S W ∧ Blk W pb bt (bc p) ∧ (∀ b, S b → w.heap.size + 2 ≤ b ∧ b < pb) ∧ w.heap.size + 2 ≤ pb ∧ a' = F pb p) ?_ ?_ ?_ ?_
  · rintro x r S a' A A' ⟨pb, p, l, h1, h2, h3, h4, h5, h6, h7⟩ hS ho _ hB2
    exact ⟨pb, p, l, h1, h2, hI _ _ _ _ h3 (ho.weak (fun b _ e => by subst e; exact ⟨by omega, fun h => by have := hS _ h; omega⟩)), h4.only ho (by omega), h5, h6, h7⟩
  · rintro l x r S W _ ⟨l', he, hsu, hi⟩ hS hsz
    cases l' with
    | nil => cases he
    | cons p l'' =>
    injection he with hx hr
    subst hx hr
    refine wpIn_mono (hassign l p W) ?_
    intro e a₁ W₁ h
    cases e <;> try exact h
    obtain ⟨rfl, rfl⟩ := h
    exact ⟨(Only.refl _ _).alloc _, W.heap.size, p, l'', rfl, hsu, hI _ _ _ _ hi ((Only.refl _ _).alloc _), Blk.new _ _ _, hS, hsz, rfl⟩
  · rintro l x r S a₁ W _ ⟨pb, p, l', rfl, hsu, hi, hP, hpb, h6, rfl⟩ hS hsz
    refine wpIn_mono (hbody l p l' S pb W hsu hi hP hpb h6) ?_
    intro e a₁ W₁ h
    cases e <;> try exact h
    obtain ⟨h1, S', h2, h3⟩ := h
    exact ⟨h1, S', ⟨l', rfl, (List.suffix_cons _ _).trans hsu, h2⟩, h3⟩
  · rintro S W hS hsz ⟨l, he, _, hi⟩ hmk
    cases l with
    | nil => exact hdone S W hS hsz hi hmk
    | cons p l => cases he
end
end Go.Proofs.Ytialpfmaekagjaa
