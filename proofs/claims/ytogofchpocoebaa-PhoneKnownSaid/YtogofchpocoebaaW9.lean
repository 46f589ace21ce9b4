/- syllable.Read. -/
import Derived.Test.YtogofchpocoebaaW8
import Derived.Test.YtogofchpocoebaaS6
import Derived.Deep.DeepMust
namespace Go.Proofs.Ytogofchpocoebaa
open Go.RowKit Go.Maps
attribute [local go_sem] Oper.semAt_some

theorem leavesMarks {P : Program} {fn : Func} {tmps : Array Value} {R : Ending → World → Prop} {B : Nat} {S : Nat → Prop} : ∀ {ds : List Deferred} {w : World}, Marks B ds w → (∀ d ∈ ds, ∀ r, d.target = .collected r → S r) →
    (∀ w', Only S w w' → ∃ v, (results fn tmps).run P w' = .ok v w' ∧ R (.returned v) w') → LeavesInM Fence.wide 0 P fn tmps R ds .returning w := by
  intro ds
  induction ds with
  | nil => intro w _ _ h; exact h w (Only.refl _ _)
  | cons d ds ih =>
    rintro w ⟨r, h1, h2, h3, h4, h5⟩ hS h
    refine ⟨by simp, .inl ⟨r, _, h1, run_takeDeferred h3, ih ?_ (fun d hd r hr => hS d (List.mem_cons_of_mem _ hd) r hr) ?_⟩⟩
    · refine h5.keep fun r' hb hd ⟨d', hd', ht⟩ => (World.putObj_heap_other ?_).trans hd
      intro e
      subst e
      exact h4 d' hd' ht
    · exact fun w' hb => h w' (((only_putObj _ _ _).weak (fun k _ e => by subst e; exact hS d (List.mem_cons_self ..) _ h1)).trans hb)
theorem Marks.has {B : Nat} : ∀ {ds : List Deferred} {w : World}, Marks B ds w → ∀ d ∈ ds, ∃ r, d.target = .collected r ∧ B ≤ r ∧ w.heap[r]? = some (.deferred (some [])) := by
  intro ds
  induction ds with
  | nil => intro w _ d hd; simp at hd
  | cons d ds ih =>
    rintro w ⟨r, h1, h2, h3, h4, h5⟩ d' hd'
    rcases List.mem_cons.1 hd' with rfl | hd'
    · exact ⟨r, h1, h2, h3⟩
    · exact ih h5 d' hd'
/-- a block of cells is no mark -/
theorem Marks.free {B : Nat} {ds : List Deferred} {w : World} (h : Marks B ds w) {g : Nat} {t : TypeId} {cs : Array Value} (hb : Blk w g t cs) : ∀ d ∈ ds, d.target ≠ .collected g := by
  intro d hd e
  obtain ⟨r, h1, _, h3⟩ := h.has d hd
  rw [h1] at e
  injection e with e
  subst e
  unfold Blk at hb
  rw [hb] at h3
  cases h3

/-- memory while Read runs -/
structure RdM (w0 : World) (v0 v1 : Value) (ps : List Ph) (out : List Sy) (vs : Int) (op : Sy) (ds : List Deferred) (W : World) : Prop where
  rr : RrSt w0 (w0.heap.size + 1) v0 v1 ps out vs op W
  rb : Blk W w0.heap.size 68 #[.int .i64 0, .int .i64 0]
  px : Blk W (w0.heap.size + 1 + 1) 212 #[.pointer (some ⟨w0.heap.size + 1, 0, none⟩)]
  mar : Marks w0.heap.size ds W
section
variable {w0 : World} {v0 v1 v0' v1' : Value} {ps ps' : List Ph} {out out' : List Sy} {vs vs' : Int} {op op' : Sy} {ds : List Deferred} {W W' : World}
theorem RdM.on (h : RdM w0 v0 v1 ps out vs op ds W) (hb : Below W.heap.size W W') : RdM w0 v0 v1 ps out vs op ds W' :=
  ⟨h.rr.on hb, h.rb.below hb h.rb.lt, h.px.below hb h.px.lt, h.mar.below hb⟩
/-- the reader has turned -/
theorem RdM.turn {S : Nat → Prop} (h : RdM w0 v0 v1 ps out vs op ds W) (hr : RrSt w0 (w0.heap.size + 1) v0' v1' ps' out' vs' op' W') (ho : Only S W W') (hS : ∀ b, S b → b = w0.heap.size + 1 ∨ v0.ownBlock = some b ∨ v1.ownBlock = some b) : RdM w0 v0' v1' ps' out' vs' op' ds W' := by
  have key : ∀ {g t cs}, Blk W g t cs → t ≠ 214 → t ≠ 43 → t ≠ 37 → ¬ S g := by
    intro g t cs hg h1 h2 h3 hs
    rcases hS _ hs with e | e | e
    · rw [e] at hg; exact h1 (blk_type hg h.rr.blk)
    · obtain ⟨c2, hb⟩ := blk_of_own h.rr.ownP e; exact h2 (blk_type hg hb)
    · obtain ⟨c2, hb⟩ := blk_of_own h.rr.ownS e; exact h3 (blk_type hg hb)
  refine ⟨hr, h.rb.only ho (key h.rb (by decide) (by decide) (by decide)), h.px.only ho (key h.px (by decide) (by decide) (by decide)), h.mar.only ho fun r hr hs => ?_⟩
  have dead : ∀ {t cs}, ¬ Blk W r t cs := by intro t cs hb; unfold Blk at hb; rw [hb] at hr; cases hr
  rcases hS _ hs with e | e | e
  · rw [e] at dead; exact dead h.rr.blk
  · obtain ⟨c2, hb⟩ := blk_of_own h.rr.ownP e; exact dead hb
  · obtain ⟨c2, hb⟩ := blk_of_own h.rr.ownS e; exact dead hb
/-- a block of another kind stays as it is -/
theorem RdM.keep {S : Nat → Prop} {g : Nat} {t : TypeId} {cs : Array Value} (h : RdM w0 v0 v1 ps out vs op ds W) (hg : Blk W g t cs) (h1 : t ≠ 214) (h2 : t ≠ 43) (h3 : t ≠ 37) (ho : Only S W W') (hS : ∀ b, S b → b = w0.heap.size + 1 ∨ v0.ownBlock = some b ∨ v1.ownBlock = some b) : Blk W' g t cs := by
  refine hg.only ho fun hs => ?_
  rcases hS _ hs with e | e | e
  · rw [e] at hg; exact h1 (blk_type hg h.rr.blk)
  · obtain ⟨c2, hb⟩ := blk_of_own h.rr.ownP e; exact h2 (blk_type hg hb)
  · obtain ⟨c2, hb⟩ := blk_of_own h.rr.ownS e; exact h3 (blk_type hg hb)
/-- blocks of others turn -/
theorem RdM.stay {S : Nat → Prop} (h : RdM w0 v0 v1 ps out vs op ds W) (ho : Only S W W') (hS : ∀ b, S b → w0.heap.size + 3 ≤ b) (h0 : ∀ g, v0.ownBlock = some g → ¬ S g) (h1 : ∀ g, v1.ownBlock = some g → ¬ S g) (hd : ∀ d ∈ ds, ∀ r, d.target = .collected r → ¬ S r) : RdM w0 v0 v1 ps out vs op ds W' := by
  have n1 : ¬ S (w0.heap.size + 1) := fun hs => by have := hS _ hs; omega
  have n0 : ¬ S w0.heap.size := fun hs => by have := hS _ hs; omega
  have n2 : ¬ S (w0.heap.size + 1 + 1) := fun hs => by have := hS _ hs; omega
  refine ⟨⟨h.rr.blk.only ho n1, own_only h.rr.ownP ho (fun k _ _ hk hs => h0 k hk hs), own_only h.rr.ownS ho (fun k _ _ hk hs => h1 k hk hs), h.rr.below.trans (ho.below h.rr.below.size fun k hk hs => by have := hS _ hs; omega), h.rr.lo⟩, h.rb.only ho n0, h.px.only ho n2, ?_⟩
  refine h.mar.keep fun r _ hr hdd => (ho.block r (Array.getElem?_eq_some_iff.1 hr).1 fun hs => ?_).trans hr
  obtain ⟨d, hm, he⟩ := hdd
  exact hd d hm r he hs
theorem RdM.mark (h : RdM w0 v0 v1 ps out vs op ds W) {r : Nat} (hr : w0.heap.size ≤ r) (hk : W.heap[r]? = some (.deferred (some []))) (hd : ∀ d ∈ ds, d.target ≠ .collected r) : RdM w0 v0 v1 ps out vs op ({ target := .collected r, args := #[] } :: ds) W :=
  ⟨h.rr, h.rb, h.px, ⟨r, rfl, hr, hk, hd, h.mar⟩⟩
end
/-- the end of Read: what it answers -/
theorem rd_end {w0 : World} {v0 v1 : Value} {n0 n1 : Nat} {x0 x1 : List Value} {e a : Int} {ds : List Deferred} {W : World} {tmps : Array Value} {R : Ending → World → Prop} (hm : Marks w0.heap.size ds W) (hb : Below w0.heap.size w0 W) (hr : Blk W w0.heap.size 68 #[.int .i64 e, .int .i64 a])
    (h0 : W.ownsRow w0.heap.size 43 3 v0 n0 x0) (h1 : W.ownsRow w0.heap.size 37 5 v1 n1 x1) (t2 : tmps[2]? = some v0) (t3 : tmps[3]? = some v1) (t4 : tmps[4]? = some (.pointer (some ⟨w0.heap.size, 0, none⟩)))
    (hR : ∀ w', w'.ownsRow w0.heap.size 43 3 v0 n0 x0 → w'.ownsRow w0.heap.size 37 5 v1 n1 x1 → Below w0.heap.size w0 w' → R (.returned (.tuple #[v0, v1, .agg #[.int .i64 e, .int .i64 a]])) w') :
    bodyPostM Fence.wide 0 Try.prog Try.f86 R .ret { tmps := tmps, defers := ds } W := by
  refine leavesMarks (B := w0.heap.size) (S := fun b => ∃ d ∈ ds, d.target = .collected b) hm (fun d hd r hr => ⟨d, hd, hr⟩) ?_
  intro w' ho
  have nb : ∀ {g t cs}, Blk W g t cs → ¬ ∃ d ∈ ds, d.target = .collected g := fun hg ⟨d, hd, he⟩ => hm.free hg d hd he
  have hr' := hr.only ho (nb hr)
  have c0 : w'.cell? ⟨w0.heap.size, 0, none⟩ = some (.int .i64 e) := hr'.cell 0
  have c1 : w'.cell? ⟨w0.heap.size, 1, none⟩ = some (.int .i64 a) := hr'.cell 1
  refine ⟨.tuple #[v0, v1, .agg #[.int .i64 e, .int .i64 a]], by simp [results, Try.results86, go_sem, t2, t3, t4, c0, c1], hR w' (own_only h0 ho fun k _ _ hk hs => ?_) (own_only h1 ho fun k _ _ hk hs => ?_) (hb.trans (ho.below hb.size fun b hb' hs => ?_))⟩
  · obtain ⟨c2, hg⟩ := blk_of_own h0 hk; exact nb hg hs
  · obtain ⟨c2, hg⟩ := blk_of_own h1 hk; exact nb hg hs
  · obtain ⟨d, hd, he⟩ := hs
    obtain ⟨r, h1, h2, _⟩ := hm.has d hd
    rw [h1] at he
    injection he with he
    omega
theorem ev_first {l : List UInt8} (h : 0 < (evL l).1.length) : (evL l).1[0] = ((nextL l).1, 0) ∧ (nextL l).2 ≠ 0 := by
  obtain ⟨h1, h2, _⟩ := ev_at l h
  have h3 : (evL l).1[0].2 = 0 := by
    have := (ev_chain l (l.length + 1) 0).first
    unfold posE at this
    have e : (evGo l (l.length + 1) 0).1[0]? = some (evL l).1[0] := List.getElem?_eq_getElem h
    rw [e] at this
    exact this
  rw [h3, List.drop_zero] at h1 h2
  exact ⟨Prod.ext h1.symm h3, h2⟩
theorem ev_none {l : List UInt8} (h : (evL l).1.length = 0) (hl : 0 < l.length) : (nextL l).2 = 0 := by
  apply Classical.byContradiction
  intro hn
  obtain ⟨f', _, e⟩ := evGo_step (l := l) (f := l.length + 1) (at_ := 0) (N := nextL l) (by rw [List.drop_zero]) hl (by omega) hn
  have e2 : evL l = evGo l (l.length + 1) 0 := rfl
  rw [e2, e] at h
  simp at h
theorem ev_args {l : List UInt8} {B : Nat} {args : Array Value} {W : World} (h : EvX l B 0 args W) : args = #[.agg #[.int .i64 0, .int .i64 ((nextL l).2 : Nat)], .agg #[.int .i32 (nextL l).1.1, .bool (nextL l).1.2.1, .int .i32 (nextL l).1.2.2]] := by
  obtain ⟨hk, rfl⟩ := h
  obtain ⟨e1, _⟩ := ev_first hk
  rw [e1]
  simp
theorem bts_data (l : List UInt8) : (bts l).data.toList = l := by simp [bts]

/-- what Read answers -/
def SrPost (l : List UInt8) (w : World) (e : Ending) (w' : World) : Prop := ∃ v0 v1, e = .returned (.tuple #[v0, v1, .agg #[.int .i64 (srL l).2.2.1, .int .i64 (srL l).2.2.2]]) ∧
    w'.ownsRow w.heap.size 43 3 v0 (srL l).1.length (phs (srL l).1) ∧ w'.ownsRow w.heap.size 37 5 v1 (srL l).2.1.length (sys (srL l).2.1) ∧ Below w.heap.size w w'
theorem rd_bad {w0 : World} {v0 v1 : Value} {ps : List Ph} {out : List Sy} {vs : Int} {op : Sy} {ds : List Deferred} {W : World} {tmps : Array Value} {l : List UInt8} {e a : Int} (h : RdM w0 v0 v1 ps out vs op ds W) (hs : srL l = ([], [], e, a))
    (t2 : tmps[2]? = some (.slice none 0 0)) (t3 : tmps[3]? = some (.slice none 0 0)) (t4 : tmps[4]? = some (.pointer (some ⟨w0.heap.size, 0, none⟩))) :
    bodyPostM Fence.wide 0 Try.prog Try.f86 (SrPost l w0) .ret { tmps := tmps, defers := ds } ((W.setCell ⟨w0.heap.size, 0, none⟩ (.int .i64 e)).setCell ⟨w0.heap.size, 1, none⟩ (.int .i64 a)) := by
  have hb := (h.rr.below.setCell (p := ⟨w0.heap.size, 0, none⟩) (Nat.le_refl _) (.int .i64 e)).setCell (p := ⟨w0.heap.size, 1, none⟩) (Nat.le_refl _) (.int .i64 a)
  have h1 := h.rb.set_ 0 (.int .i64 e)
  have hm := (h.mar.setCell h.rb 0 (.int .i64 e)).setCell h1 1 (.int .i64 a)
  have h2 := h1.set_ 1 (.int .i64 a)
  refine rd_end (v0 := .slice none 0 0) (v1 := .slice none 0 0) (n0 := 0) (n1 := 0) (x0 := []) (x1 := []) (e := e) (a := a) hm hb (by simpa using h2) (World.ownsRow_nil _ _ _ _) (World.ownsRow_nil _ _ _ _) t2 t3 t4 ?_
  intro w' k0 k1 hb'
  exact ⟨_, _, by rw [hs], by rw [hs]; exact k0, by rw [hs]; exact k1, hb'⟩
theorem rd_good {w0 : World} {v0 v1 : Value} {ps : List Ph} {out : List Sy} {vs : Int} {op : Sy} {ds : List Deferred} {W : World} {tmps : Array Value} {l : List UInt8} (h : RdM w0 v0 v1 ps out vs op ds W) (hs : srL l = (ps, out, 0, 0))
    (t2 : tmps[2]? = some v0) (t3 : tmps[3]? = some v1) (t4 : tmps[4]? = some (.pointer (some ⟨w0.heap.size, 0, none⟩))) :
    bodyPostM Fence.wide 0 Try.prog Try.f86 (SrPost l w0) .ret { tmps := tmps, defers := ds } ((W.setCell ⟨w0.heap.size, 0, none⟩ (.int .i64 0)).setCell ⟨w0.heap.size, 1, none⟩ (.int .i64 0)).drew := by
  have hb := (h.rr.below.setCell (p := ⟨w0.heap.size, 0, none⟩) (Nat.le_refl _) (.int .i64 0)).setCell (p := ⟨w0.heap.size, 1, none⟩) (Nat.le_refl _) (.int .i64 0)
  have h1 := h.rb.set_ 0 (.int .i64 0)
  have hm := (h.mar.setCell h.rb 0 (.int .i64 0)).setCell h1 1 (.int .i64 0)
  have h2 := h1.set_ 1 (.int .i64 0)
  have n0 : v0.ownBlock ≠ some w0.heap.size := fun e => by
    obtain ⟨c2, hg⟩ := blk_of_own h.rr.ownP e
    have := blk_type h.rb hg
    cases this
  have n1 : v1.ownBlock ≠ some w0.heap.size := fun e => by
    obtain ⟨c2, hg⟩ := blk_of_own h.rr.ownS e
    have := blk_type h.rb hg
    cases this
  have k0 := own_far (own_far h.rr.ownP (p := ⟨w0.heap.size, 0, none⟩) n0 (.int .i64 0)) (p := ⟨w0.heap.size, 1, none⟩) n0 (.int .i64 0)
  have k1 := own_far (own_far h.rr.ownS (p := ⟨w0.heap.size, 0, none⟩) n1 (.int .i64 0)) (p := ⟨w0.heap.size, 1, none⟩) n1 (.int .i64 0)
  refine rd_end (e := 0) (a := 0) (hm.only (S := fun _ => False) ((Only.refl _ _).drew) (fun _ _ h => h)) (bdrew hb) (Blk.drew (by simpa using h2)) (own_stay k0 ((Only.refl _ _).drew)) (own_stay k1 ((Only.refl _ _).drew)) t2 t3 t4 ?_
  intro w' q0 q1 hb'
  exact ⟨_, _, by rw [hs], by rw [hs]; exact q0, by rw [hs]; exact q1, hb'⟩
theorem rd_bad2 {w0 : World} {v0 v1 : Value} {ps : List Ph} {out : List Sy} {vs : Int} {op : Sy} {ds : List Deferred} {W : World} {tmps : Array Value} {l : List UInt8} {e a : Int} (h : RdM w0 v0 v1 ps out vs op ds W) (hs : srL l = ([], [], e, a))
    (t2 : tmps[2]? = some (.slice none 0 0)) (t3 : tmps[3]? = some (.slice none 0 0)) (t4 : tmps[4]? = some (.pointer (some ⟨w0.heap.size, 0, none⟩))) :
    bodyPostM Fence.wide 0 Try.prog Try.f86 (SrPost l w0) .ret { tmps := tmps, defers := ds } ((W.setCell ⟨w0.heap.size, 0, none⟩ (.int .i64 e)).setCell ⟨w0.heap.size, 1, none⟩ (.int .i64 a)).drew := by
  have hb := (h.rr.below.setCell (p := ⟨w0.heap.size, 0, none⟩) (Nat.le_refl _) (.int .i64 e)).setCell (p := ⟨w0.heap.size, 1, none⟩) (Nat.le_refl _) (.int .i64 a)
  have h1 := h.rb.set_ 0 (.int .i64 e)
  have hm := (h.mar.setCell h.rb 0 (.int .i64 e)).setCell h1 1 (.int .i64 a)
  have h2 := h1.set_ 1 (.int .i64 a)
  refine rd_end (v0 := .slice none 0 0) (v1 := .slice none 0 0) (n0 := 0) (n1 := 0) (x0 := []) (x1 := []) (e := e) (a := a) (hm.only (S := fun _ => False) ((Only.refl _ _).drew) (fun _ _ h => h)) (bdrew hb) (Blk.drew (by simpa using h2)) (World.ownsRow_nil _ _ _ _) (World.ownsRow_nil _ _ _ _) t2 t3 t4 ?_
  intro w' k0 k1 hb'
  exact ⟨_, _, by rw [hs], by rw [hs]; exact k0, by rw [hs]; exact k1, hb'⟩
theorem RdM.far {w0 : World} {v0 v1 : Value} {ps : List Ph} {out : List Sy} {vs : Int} {op : Sy} {ds : List Deferred} {W : World} {g i : Nat} {t : TypeId} {cs : Array Value} (h : RdM w0 v0 v1 ps out vs op ds W) (hg : Blk W g t cs) (hl : w0.heap.size + 3 ≤ g) (h1 : t ≠ 43) (h2 : t ≠ 37) (u : Value) : RdM w0 v0 v1 ps out vs op ds (W.setCell ⟨g, i, none⟩ u) := by
  refine h.stay (S := fun b => b = g) (Only.setCell (S := fun b => b = g) (p := ⟨g, i, none⟩) (Only.refl _ W) (.inl rfl) u) (fun b e => by omega) (fun k hk e => ?_) (fun k hk e => ?_) (fun d hd r hr e => ?_)
  · subst e
    obtain ⟨c2, hb⟩ := blk_of_own h.rr.ownP hk
    exact h1 (blk_type hg hb)
  · subst e
    obtain ⟨c2, hb⟩ := blk_of_own h.rr.ownS hk
    exact h2 (blk_type hg hb)
  · subst e
    exact h.mar.free hg d hd hr
/-- the open syllable is a new one -/
theorem rd_open {w0 : World} {v0 v1 : Value} {ps : List Ph} {out : List Sy} {vs : Int} {op : Sy} {ds : List Deferred} {W : World} {wb nb : Nat} {E x : Int} (h : RdM w0 v0 v1 ps out vs op ds W) (hb : Blk W wb 27 #[.int .i64 E]) (hn : Blk W nb 3 #[.int .i64 x]) (h1 : w0.heap.size + 3 ≤ wb) (h2 : w0.heap.size + 3 ≤ nb) (st : Int) :
    (fun wx => RdM w0 v0 v1 ps out vs ((ps.length : Int), -1, 0, st, false) ds wx ∧ Blk wx wb 27 #[.int .i64 E] ∧ Blk wx nb 3 #[.int .i64 x]) (((((W.setCell ⟨w0.heap.size + 1, 3, none⟩ (.int .i64 (ps.length : Int))).setCell ⟨w0.heap.size + 1, 4, none⟩ (.int .i64 (-1))).setCell ⟨w0.heap.size + 1, 5, none⟩ (.int .i64 0)).setCell ⟨w0.heap.size + 1, 6, none⟩ (.int .i64 st)).setCell ⟨w0.heap.size + 1, 7, none⟩ (.bool false)).drew := by
  have hr := ((((h.rr.set 3 (.int .i64 (ps.length : Int)) vs ((ps.length : Int), op.nu, op.to_, op.st, op.hv) rfl).set 4 (.int .i64 (-1)) vs ((ps.length : Int), -1, op.to_, op.st, op.hv) rfl).set 5 (.int .i64 0) vs ((ps.length : Int), -1, 0, op.st, op.hv) rfl).set 6 (.int .i64 st) vs ((ps.length : Int), -1, 0, st, op.hv) rfl).set 7 (.bool false) vs ((ps.length : Int), -1, 0, st, false) rfl
  have ho : Only (fun b => b = w0.heap.size + 1) W _ := (((((Only.refl (fun b => b = w0.heap.size + 1) W).setCell (p := ⟨w0.heap.size + 1, 3, none⟩) (.inl rfl) (.int .i64 (ps.length : Int))).setCell (p := ⟨w0.heap.size + 1, 4, none⟩) (.inl rfl) (.int .i64 (-1))).setCell (p := ⟨w0.heap.size + 1, 5, none⟩) (.inl rfl) (.int .i64 0)).setCell (p := ⟨w0.heap.size + 1, 6, none⟩) (.inl rfl) (.int .i64 st)).setCell (p := ⟨w0.heap.size + 1, 7, none⟩) (.inl rfl) (.bool false)
  have hd := (Only.refl (fun _ : Nat => False) _ : Only (fun _ => False) (((((W.setCell ⟨w0.heap.size + 1, 3, none⟩ (.int .i64 (ps.length : Int))).setCell ⟨w0.heap.size + 1, 4, none⟩ (.int .i64 (-1))).setCell ⟨w0.heap.size + 1, 5, none⟩ (.int .i64 0)).setCell ⟨w0.heap.size + 1, 6, none⟩ (.int .i64 st)).setCell ⟨w0.heap.size + 1, 7, none⟩ (.bool false)) _).drew
  have ht := h.turn hr ho (fun b hb => .inl hb)
  exact ⟨ht.stay hd (fun b e => e.elim) (fun _ _ e => e) (fun _ _ e => e) (fun _ _ _ _ e => e), Blk.drew (hb.only ho (by omega)), Blk.drew (hn.only ho (by omega))⟩
def rpPs (ps : List Ph) (vs nu : Int) (p : Ph) : List Ph := if rpE ps vs nu p = 0 then ps ++ [p] else ps
def rpVs (ps : List Ph) (vs nu : Int) (p : Ph) : Int := if rpE ps vs nu p = 0 then rpV vs p else vs
def rpOp (ps : List Ph) (vs : Int) (op : Sy) (p : Ph) : Sy := if rpE ps vs op.nu p = 0 then rpO ps op p else op
theorem RpPost.to {w0 : World} {xb : Nat} {v0 v1 : Value} {ps : List Ph} {out : List Sy} {vs : Int} {op : Sy} {p : Ph} {w w' : World} (h : RpPost w0 xb v0 v1 ps out vs op p w w') :
    (∃ v0', RrSt w0 xb v0' v1 (rpPs ps vs op.nu p) out (rpVs ps vs op.nu p) (rpOp ps vs op p) w' ∧ ∀ g, v0'.ownBlock = some g → v0.ownBlock = some g ∨ w.heap.size ≤ g) ∧ Only (fun b => b = xb ∨ v0.ownBlock = some b) w w' := by
  obtain ⟨h1, h2, h3⟩ := h
  refine ⟨?_, h3⟩
  unfold rpPs rpVs rpOp
  by_cases e : rpE ps vs op.nu p = 0
  · rw [if_pos e, if_pos e, if_pos e]; exact h1 e
  · rw [if_neg e, if_neg e, if_neg e]; exact ⟨v0, h2 e, fun g hg => .inl hg⟩
theorem sign_zero (s : ByteArray) (h : 0 < s.size) (hw : 0 < (signL s.data.toList).2) : (((s[0]'h).toNat : Int) == 46) = decide ((signL s.data.toList).2 = 1) := by
  have hl : 0 < s.data.toList.length := h
  have e0 : s[0]'h = s.data.toList[0] := rfl
  rw [e0]
  match hs : s.data.toList, hl, hw with
  | [a], hl, hw =>
    rw [sign_one] at hw ⊢
    by_cases e : a = 46
    · subst e; rfl
    · rw [if_neg e] at hw; simp at hw
  | a :: b :: r, hl, hw =>
    rw [sign_two] at hw ⊢
    show ((a.toNat : Int) == 46) = _
    by_cases e : a = 46
    · subst e; rfl
    · have e2 : ((a.toNat : Int) == 46) = false := beq_eq_false_iff_ne.2 (fun h => e (by
        have : a.toNat = 46 := by omega
        exact UInt8.toNat_inj.1 this))
      rw [e2, if_neg e]
      split
      · rfl
      · split <;> rfl
def frame (P : (Nat → Value) → Act) (a : Act) : Prop := ∃ f : Nat → Value, a = P f
theorem frame_of {F : (Nat → Value) → Array Value} {ds : List Deferred} {t : Array Value} (h : t = F (fun i => t.getD i undef)) : ∃ f : Nat → Value, (⟨t, ds⟩ : Act) = ⟨F f, ds⟩ := ⟨_, congrArg (fun x => (⟨x, ds⟩ : Act)) h⟩
set_option maxHeartbeats 16000000 in
set_option maxRecDepth 100000 in
theorem sread_any (s : ByteArray) (w : World) (hz : s.size ≤ maxLen) : Calls Try.prog 86 #[.string s] w fun e w' => ∃ v0 v1, e = .returned (.tuple #[v0, v1, .agg #[.int .i64 (srL s.data.toList).2.2.1, .int .i64 (srL s.data.toList).2.2.2]]) ∧
    w'.ownsRow w.heap.size 43 3 v0 (srL s.data.toList).1.length (phs (srL s.data.toList).1) ∧ w'.ownsRow w.heap.size 37 5 v1 (srL s.data.toList).2.1.length (sys (srL s.data.toList).2.1) ∧ Below w.heap.size w w' := by
  unfold maxLen at hz
  have hsl : s.data.toList.length = s.size := rfl
  have hdr : ∀ n, s.extract n s.size = bts (s.data.toList.drop n) := fun n => bts_drop s.data.toList n
  have HSL := Lib.hid (And.intro hsl hdr)
  clear hsl hdr
  refine calls_of_wp_marks Try.func86 rfl ?_
  simp only [Try.ntmps86, List.size_toArray, List.length_cons, List.length_nil, Nat.reduceAdd, Nat.reduceSub, Array.replicate_succ, Array.replicate_zero, List.push_toArray, List.append_toArray, List.nil_append, List.cons_append]
  go_wp2
  refine wp_abs (RdM w (.slice none 0 0) (.slice none 0 0) [] [] 0 (0, -1, 0, 0, false) []) ?fs ?_
  case fs =>
    have hb : Below w.heap.size w (((w.alloc (.cells #[.int .i64 0, .int .i64 0] 68)).alloc (.cells #[.slice none 0 0, .slice none 0 0, .int .i64 0, .int .i64 0, .int .i64 (-1), .int .i64 0, .int .i64 0, .bool false] 214)).alloc (.cells #[.pointer (some ⟨w.heap.size + 1, 0, none⟩)] 212)) := (((Below.refl _ _).alloc (Nat.le_refl _) _).alloc (by simp) _).alloc (by simp; omega) _
    exact ⟨⟨(blk_new_eq (by simp)).alloc _, World.ownsRow_nil _ _ _ _, World.ownsRow_nil _ _ _ _, hb, by omega⟩, ((Blk.new _ _ _).alloc _).alloc _, blk_new_eq (by simp), trivial⟩
  intro w3 hS
  have H3 := Lib.hid hS
  clear hS
  refine wp_loop (fun a' w' => ∃ (ds : List Deferred) (at_ : Nat) (beh : Int) (ps : List Ph) (out : List Sy) (fr nu st : Int) (vs : Nat) (sg : Bool) (fuel : Nat) (v0 v1 : Value), (at_ ≤ s.size ∧ beh ≤ (at_ : Int) ∧ sg = decide (beh = (at_ : Int)) ∧ s.size - at_ < fuel ∧ ps.length ≤ 128 ∧ vs ≤ 64 ∧ out.length + (if nu < 0 then 0 else 1) ≤ vs ∧ (nu < 0 ∨ nu < (ps.length : Int)) ∧ Hid (srL s.data.toList = srGo s.data.toList fuel at_ ps out fr nu st vs sg)) ∧ Hid (RdM w v0 v1 ps out vs (fr, nu, 0, st, false) ds w') ∧ ∃ f : Nat → Value, a' = { tmps := #[.string s, undef, .slice none 0 0, .slice none 0 0, .pointer (some ⟨w.heap.size, 0, none⟩), .pointer (some ⟨w.heap.size + 1 + 1, 0, none⟩), .int .i64 (at_ : Int), .int .i64 beh, f 8, f 9, f 10, f 11, f 12, .agg #[.int .i64 0, .int .i64 (-1), .int .i64 0, .int .i64 0, .bool false], .agg #[.slice none 0 0, .slice none 0 0, .int .i64 0, .int .i64 0, .int .i64 (-1), .int .i64 0, .int .i64 0, .bool false], .pointer (some ⟨w.heap.size + 1, 0, none⟩), f 16, f 17, f 18, f 19, f 20, f 21, f 22, f 23, f 24, f 25, f 26, f 27, f 28, f 29, f 30, f 31, f 32, f 33, f 34, f 35, f 36, f 37, f 38, f 39, f 40, f 41, f 42, f 43, f 44, f 45, f 46, f 47, f 48, f 49, f 50, f 51, f 52, f 53, f 54, f 55, f 56, f 57, f 58, f 59, f 60, f 61, f 62, f 63, f 64, f 65, f 66, f 67, f 68, f 69, f 70, f 71, f 72, f 73, f 74, f 75, f 76, f 77, f 78, f 79, f 80, f 81, f 82, f 83, f 84, f 85, f 86, f 87, f 88, f 89, f 90, f 91, f 92, f 93, f 94, f 95, f 96, undef, undef, undef, undef, undef, undef, undef, undef, undef, undef, undef, undef, undef, undef, undef, undef, undef, undef, undef], defers := ds }) (fun a' _ => s.size - (intOf (a'.tmps.getD 6 undef)).toNat) ?start ?round
  case start =>
    exact ⟨[], 0, -1, [], [], 0, -1, 0, 0, false, s.size + 1, _, _, ⟨by omega, by omega, rfl, by omega, by simp, by omega, by simp, .inl (by omega), Lib.hid (by unfold srL; rw [HSL.out.1])⟩, H3, frame_of rfl⟩
  case round =>
    clear H3
    rintro _ wr ⟨ds, at_, beh, ps, out, fr, nu, st, vs, sg, fuel, v0, v1, ⟨p1, p2, p3, p4, p5, p6, p7, p8, HQ⟩, HR, f, rfl⟩
    try dsimp only
    by_cases hlt : at_ < s.size
    · have ddl : (at_ : Int) < (s.size : Int) := by omega
      have a0 : (0 : Int) ≤ (at_ : Int) := by omega
      have a1 : (at_ : Int) ≤ (s.size : Int) := by omega
      go_wp2_with fail
      refine (sign_any (s.extract at_ s.size) _).mono ?_
      rintro e w2 ⟨rfl, hb⟩
      obtain ⟨fu, rfl⟩ : ∃ k, fuel = k + 1 := ⟨fuel - 1, by omega⟩
      have hx : (s.extract at_ s.size).data.toList = s.data.toList.drop at_ := by rw [HSL.out.2, bts_data]
      rw [hx]
      have HX := Lib.hid hx
      clear hx
      have HGO := Lib.hid (show srL s.data.toList = if 0 < (signL (s.data.toList.drop at_)).2 then
          if at_ = 0 ∧ (signL (s.data.toList.drop at_)).2 = 1 ∨ sg = true then ([], [], 111, (at_ : Int))
          else if 0 < at_ ∧ nu < 0 then ([], [], 110, (at_ : Int))
          else if at_ + (signL (s.data.toList.drop at_)).2 = s.size then ([], [], 111, (at_ : Int))
          else srGo s.data.toList fu (at_ + (signL (s.data.toList.drop at_)).2) ps (if 0 < at_ then out ++ [shutS ps fr nu st] else out) (ps.length : Int) (-1) (signL (s.data.toList.drop at_)).1 vs true
        else if (nextL (s.data.toList.drop at_)).2 = 0 then ([], [], 80, (at_ : Int))
        else if ps.length = 128 then ([], [], 3, (at_ : Int))
        else if vowF (nextL (s.data.toList.drop at_)).1 then
          if 0 ≤ nu then ([], [], 110, (at_ : Int)) else if vs = 64 then ([], [], 3, (at_ : Int))
          else srGo s.data.toList fu (at_ + (nextL (s.data.toList.drop at_)).2) (ps ++ [(nextL (s.data.toList.drop at_)).1]) out fr (ps.length : Int) st (vs + 1) false
        else srGo s.data.toList fu (at_ + (nextL (s.data.toList.drop at_)).2) (ps ++ [(nextL (s.data.toList.drop at_)).1]) out fr nu st vs false by
          rw [HQ.out]
          conv => lhs; unfold srGo
          rw [if_pos (by rw [HSL.out.1]; exact hlt), HSL.out.1])
      have hsl1 := (sign_le (s.data.toList.drop at_)).1
      rw [List.length_drop, HSL.out.1] at hsl1
      have hsl2 := (sign_le (s.data.toList.drop at_)).2
      have HST := Lib.hid (sign_st (s.data.toList.drop at_))
      have HZ0 := Lib.hid (fun (h : 0 < s.size) (h0 : at_ = 0) (hw : 0 < (signL (s.data.toList.drop at_)).2) => show (((s[0]'h).toNat : Int) == 46) = decide ((signL (s.data.toList.drop at_)).2 = 1) by
        subst h0
        rw [List.drop_zero] at hw ⊢
        exact sign_zero s h hw)
      generalize (signL (s.data.toList.drop at_)).1 = sst at *
      generalize (signL (s.data.toList.drop at_)).2 = wd at *
      have hr2 := (HR.out.on ((Below.refl _ wr).alloc (Nat.le_refl _) (.cells #[.int .i64 0] 27))).on hb
      have hwb := (Blk.new wr 27 #[.int .i64 0]).below hb (by simp)
      have hl3 := HR.out.px.lt
      have hl4 := hb.size
      rw [World.size_alloc] at hl4
      have hl5 : w.heap.size + 3 ≤ wr.heap.size := by omega
      have hl6 : wr.heap.size < w2.heap.size := by omega
      have HR2 := Lib.hid (And.intro hr2 hwb)
      clear hr2 hwb hb HR HQ hl3 hl4
      go_upto_region 6 with (fail)
      refine wp_abs (fun wx => RdM w v0 v1 ps out vs (fr, nu, 0, st, false) ds wx ∧ Blk wx wr.heap.size 27 #[.int .i64 0] ∧ Blk wx w2.heap.size 3 #[.int .i64 wd]) ⟨HR2.out.1.on ((Below.refl _ _).alloc (Nat.le_refl _) _), HR2.out.2.alloc _, Blk.new _ _ _⟩ ?_
      clear HR2
      generalize wr.heap.size = wb at *
      generalize w2.heap.size = nb at *
      rintro w4 h4
      have H4 := Lib.hid h4
      clear h4
      have n0 : w4.cell? ⟨nb, 0, none⟩ = some (.int .i64 wd) := H4.out.2.2.cell 0
      have b0 : w4.cell? ⟨wb, 0, none⟩ = some (.int .i64 0) := H4.out.2.1.cell 0
      have fb : w4.frozen? ⟨wb, 0, none⟩ = false := H4.out.2.1.frozen 0
      have w_at : IntKind.i64.wrap ((at_ : Int) + (wd : Int)) = (at_ : Int) + (wd : Int) := IntWalk.i64_in _ (by omega)
      by_cases hw : 0 < wd
      · have dw : decide ((0 : Int) < (wd : Int)) = true := decide_eq_true (by omega)
        have HG1 := Lib.hid (show srL s.data.toList = if at_ = 0 ∧ wd = 1 ∨ sg = true then ([], [], 111, (at_ : Int))
          else if 0 < at_ ∧ nu < 0 then ([], [], 110, (at_ : Int))
          else if at_ + wd = s.size then ([], [], 111, (at_ : Int))
          else srGo s.data.toList fu (at_ + wd) ps (if 0 < at_ then out ++ [shutS ps fr nu st] else out) (ps.length : Int) (-1) sst vs true by rw [HGO.out, if_pos hw])
        clear HGO
        have HPX := Lib.hid (And.intro p6 (And.intro p7 p8))
        by_cases c0 : at_ = 0
        · have hsz : 0 < s.size := by omega
          have HZ1 := Lib.hid (HZ0.out hsz c0 hw)
          have da : ((at_ : Int) == 0) = true := by rw [c0]; rfl
          have db : decide ((0 : Int) < (at_ : Int)) = false := decide_eq_false (by omega)
          have dbn : decide (0 < at_) = false := decide_eq_false (by omega)
          have dbm : ¬ 0 < at_ := by omega
          have i0 : (0 : Int) < (s.size : Int) := by omega
          have C0 := Lib.hid c0
          clear c0
          by_cases c1 : wd = 1
          · have hs0 : (((s[0]'hsz).toNat : Int) == 46) = true := by rw [HZ1.out, decide_eq_true c1]
            have C1 := Lib.hid c1
            clear c1
            go_upto_region 15 with (fail)
            refine wp_abs (fun wx => RdM w v0 v1 ps out vs (fr, nu, 0, st, false) ds wx ∧ Blk wx wb 27 #[.int .i64 111] ∧ Blk wx nb 3 #[.int .i64 wd]) ⟨H4.out.1.far H4.out.2.1 (by omega) (by decide) (by decide) _, by simpa using H4.out.2.1.set_ 0 (.int .i64 111), H4.out.2.2.far (by simp; omega) _⟩ ?_
            rintro w5 h5
            have H5 := Lib.hid h5
            clear h5 n0 b0 fb
            obtain ⟨A0, c0_, e0_⟩ := own_slice H5.out.1.rr.ownP
            have px : w5.cell? ⟨w.heap.size + 1 + 1, 0, none⟩ = some (.pointer (some ⟨w.heap.size + 1, 0, none⟩)) := H5.out.1.px.cell 0
            have y0 : w5.cell? ⟨w.heap.size + 1, 0, none⟩ = some (.slice A0 ps.length c0_) := e0_ ▸ H5.out.1.rr.blk.cell 0
            have y3 : w5.cell? ⟨w.heap.size + 1, 3, none⟩ = some (.int .i64 fr) := H5.out.1.rr.blk.cell 3
            have y4 : w5.cell? ⟨w.heap.size + 1, 4, none⟩ = some (.int .i64 nu) := H5.out.1.rr.blk.cell 4
            have y5 : w5.cell? ⟨w.heap.size + 1, 5, none⟩ = some (.int .i64 0) := H5.out.1.rr.blk.cell 5
            have y6 : w5.cell? ⟨w.heap.size + 1, 6, none⟩ = some (.int .i64 st) := H5.out.1.rr.blk.cell 6
            have y7 : w5.cell? ⟨w.heap.size + 1, 7, none⟩ = some (.bool false) := H5.out.1.rr.blk.cell 7
            have g3 : w5.frozen? ⟨w.heap.size + 1, 3, none⟩ = false := H5.out.1.rr.blk.frozen 3
            have g4 : w5.frozen? ⟨w.heap.size + 1, 4, none⟩ = false := H5.out.1.rr.blk.frozen 4
            have g5 : w5.frozen? ⟨w.heap.size + 1, 5, none⟩ = false := H5.out.1.rr.blk.frozen 5
            have g6 : w5.frozen? ⟨w.heap.size + 1, 6, none⟩ = false := H5.out.1.rr.blk.frozen 6
            have g7 : w5.frozen? ⟨w.heap.size + 1, 7, none⟩ = false := H5.out.1.rr.blk.frozen 7
            have HOP := Lib.hid (rd_open H5.out.1 H5.out.2.1 H5.out.2.2 (by omega) (by omega) sst)
            go_region
            all_goals
              refine exitAbs (fun wx => RdM w v0 v1 ps out vs ((ps.length : Int), -1, 0, sst, false) ds wx ∧ Blk wx wb 27 #[.int .i64 111] ∧ Blk wx nb 3 #[.int .i64 wd]) HOP.out ?_
              rintro w6 h6
              have H6 := Lib.hid h6
              clear h6 px y0 y3 y4 y5 y6 y7 g3 g4 g5 g6 g7 HOP
              have b0 : w6.cell? ⟨wb, 0, none⟩ = some (.int .i64 111) := H6.out.2.1.cell 0
              have n0 : w6.cell? ⟨nb, 0, none⟩ = some (.int .i64 wd) := H6.out.2.2.cell 0
              have r0 : w6.cell? ⟨w.heap.size, 0, none⟩ = some (.int .i64 0) := H6.out.1.rb.cell 0
              have r1 : w6.cell? ⟨w.heap.size, 1, none⟩ = some (.int .i64 0) := H6.out.1.rb.cell 1
              have f0 : w6.frozen? ⟨w.heap.size, 0, none⟩ = false := H6.out.1.rb.frozen 0
              have f1 : w6.frozen? ⟨w.heap.size, 1, none⟩ = false := H6.out.1.rb.frozen 1
              have HBAD := Lib.hid (show srL s.data.toList = ([], [], 111, (at_ : Int)) by rw [HG1.out, if_pos (.inl ⟨C0.out, C1.out⟩)])
              go_wp2
              go_region
              all_goals
                go_wp2
                exact rd_bad2 H6.out.1 HBAD.out rfl rfl rfl
          · have hs0 : (((s[0]'hsz).toNat : Int) == 46) = false := by rw [HZ1.out, decide_eq_false c1]
            have C1 := Lib.hid c1
            clear c1
            cases hsg : sg with
            | true =>
              have db2 : ((at_ : Int) == beh) = true := by rw [hsg] at p3; have := of_decide_eq_true p3.symm; rw [this]; simp
              go_upto_region 15 with (fail)
              refine wp_abs (fun wx => RdM w v0 v1 ps out vs (fr, nu, 0, st, false) ds wx ∧ Blk wx wb 27 #[.int .i64 111] ∧ Blk wx nb 3 #[.int .i64 wd]) ⟨H4.out.1.far H4.out.2.1 (by omega) (by decide) (by decide) _, by simpa using H4.out.2.1.set_ 0 (.int .i64 111), H4.out.2.2.far (by simp; omega) _⟩ ?_
              rintro w5 h5
              have H5 := Lib.hid h5
              clear h5 n0 b0 fb
              obtain ⟨A0, c0_, e0_⟩ := own_slice H5.out.1.rr.ownP
              have px : w5.cell? ⟨w.heap.size + 1 + 1, 0, none⟩ = some (.pointer (some ⟨w.heap.size + 1, 0, none⟩)) := H5.out.1.px.cell 0
              have y0 : w5.cell? ⟨w.heap.size + 1, 0, none⟩ = some (.slice A0 ps.length c0_) := e0_ ▸ H5.out.1.rr.blk.cell 0
              have y3 : w5.cell? ⟨w.heap.size + 1, 3, none⟩ = some (.int .i64 fr) := H5.out.1.rr.blk.cell 3
              have y4 : w5.cell? ⟨w.heap.size + 1, 4, none⟩ = some (.int .i64 nu) := H5.out.1.rr.blk.cell 4
              have y5 : w5.cell? ⟨w.heap.size + 1, 5, none⟩ = some (.int .i64 0) := H5.out.1.rr.blk.cell 5
              have y6 : w5.cell? ⟨w.heap.size + 1, 6, none⟩ = some (.int .i64 st) := H5.out.1.rr.blk.cell 6
              have y7 : w5.cell? ⟨w.heap.size + 1, 7, none⟩ = some (.bool false) := H5.out.1.rr.blk.cell 7
              have g3 : w5.frozen? ⟨w.heap.size + 1, 3, none⟩ = false := H5.out.1.rr.blk.frozen 3
              have g4 : w5.frozen? ⟨w.heap.size + 1, 4, none⟩ = false := H5.out.1.rr.blk.frozen 4
              have g5 : w5.frozen? ⟨w.heap.size + 1, 5, none⟩ = false := H5.out.1.rr.blk.frozen 5
              have g6 : w5.frozen? ⟨w.heap.size + 1, 6, none⟩ = false := H5.out.1.rr.blk.frozen 6
              have g7 : w5.frozen? ⟨w.heap.size + 1, 7, none⟩ = false := H5.out.1.rr.blk.frozen 7
              have HOP := Lib.hid (rd_open H5.out.1 H5.out.2.1 H5.out.2.2 (by omega) (by omega) sst)
              go_region
              all_goals
                refine exitAbs (fun wx => RdM w v0 v1 ps out vs ((ps.length : Int), -1, 0, sst, false) ds wx ∧ Blk wx wb 27 #[.int .i64 111] ∧ Blk wx nb 3 #[.int .i64 wd]) HOP.out ?_
                rintro w6 h6
                have H6 := Lib.hid h6
                clear h6 px y0 y3 y4 y5 y6 y7 g3 g4 g5 g6 g7 HOP
                have b0 : w6.cell? ⟨wb, 0, none⟩ = some (.int .i64 111) := H6.out.2.1.cell 0
                have n0 : w6.cell? ⟨nb, 0, none⟩ = some (.int .i64 wd) := H6.out.2.2.cell 0
                have r0 : w6.cell? ⟨w.heap.size, 0, none⟩ = some (.int .i64 0) := H6.out.1.rb.cell 0
                have r1 : w6.cell? ⟨w.heap.size, 1, none⟩ = some (.int .i64 0) := H6.out.1.rb.cell 1
                have f0 : w6.frozen? ⟨w.heap.size, 0, none⟩ = false := H6.out.1.rb.frozen 0
                have f1 : w6.frozen? ⟨w.heap.size, 1, none⟩ = false := H6.out.1.rb.frozen 1
                have HBAD := Lib.hid (show srL s.data.toList = ([], [], 111, (at_ : Int)) by rw [HG1.out, if_pos (.inr hsg)])
                go_wp2
                go_region
                all_goals
                  go_wp2
                  exact rd_bad2 H6.out.1 HBAD.out rfl rfl rfl
            | false =>
              have db2 : ((at_ : Int) == beh) = false := by rw [hsg] at p3; have := of_decide_eq_false p3.symm; exact beq_eq_false_iff_ne.2 (Ne.symm this)
              by_cases c2 : at_ + wd = s.size
              · have dc : ((at_ : Int) + (wd : Int) == (s.size : Int)) = true := by rw [beq_iff_eq]; omega
                have C2 := Lib.hid c2
                clear c2
                go_upto_region 15 with (fail)
                refine wp_abs (fun wx => RdM w v0 v1 ps out vs (fr, nu, 0, st, false) ds wx ∧ Blk wx wb 27 #[.int .i64 111] ∧ Blk wx nb 3 #[.int .i64 wd]) ⟨H4.out.1.far H4.out.2.1 (by omega) (by decide) (by decide) _, by simpa using H4.out.2.1.set_ 0 (.int .i64 111), H4.out.2.2.far (by simp; omega) _⟩ ?_
                rintro w5 h5
                have H5 := Lib.hid h5
                clear h5 n0 b0 fb
                obtain ⟨A0, c0_, e0_⟩ := own_slice H5.out.1.rr.ownP
                have px : w5.cell? ⟨w.heap.size + 1 + 1, 0, none⟩ = some (.pointer (some ⟨w.heap.size + 1, 0, none⟩)) := H5.out.1.px.cell 0
                have y0 : w5.cell? ⟨w.heap.size + 1, 0, none⟩ = some (.slice A0 ps.length c0_) := e0_ ▸ H5.out.1.rr.blk.cell 0
                have y3 : w5.cell? ⟨w.heap.size + 1, 3, none⟩ = some (.int .i64 fr) := H5.out.1.rr.blk.cell 3
                have y4 : w5.cell? ⟨w.heap.size + 1, 4, none⟩ = some (.int .i64 nu) := H5.out.1.rr.blk.cell 4
                have y5 : w5.cell? ⟨w.heap.size + 1, 5, none⟩ = some (.int .i64 0) := H5.out.1.rr.blk.cell 5
                have y6 : w5.cell? ⟨w.heap.size + 1, 6, none⟩ = some (.int .i64 st) := H5.out.1.rr.blk.cell 6
                have y7 : w5.cell? ⟨w.heap.size + 1, 7, none⟩ = some (.bool false) := H5.out.1.rr.blk.cell 7
                have g3 : w5.frozen? ⟨w.heap.size + 1, 3, none⟩ = false := H5.out.1.rr.blk.frozen 3
                have g4 : w5.frozen? ⟨w.heap.size + 1, 4, none⟩ = false := H5.out.1.rr.blk.frozen 4
                have g5 : w5.frozen? ⟨w.heap.size + 1, 5, none⟩ = false := H5.out.1.rr.blk.frozen 5
                have g6 : w5.frozen? ⟨w.heap.size + 1, 6, none⟩ = false := H5.out.1.rr.blk.frozen 6
                have g7 : w5.frozen? ⟨w.heap.size + 1, 7, none⟩ = false := H5.out.1.rr.blk.frozen 7
                have HOP := Lib.hid (rd_open H5.out.1 H5.out.2.1 H5.out.2.2 (by omega) (by omega) sst)
                go_region
                all_goals
                  refine exitAbs (fun wx => RdM w v0 v1 ps out vs ((ps.length : Int), -1, 0, sst, false) ds wx ∧ Blk wx wb 27 #[.int .i64 111] ∧ Blk wx nb 3 #[.int .i64 wd]) HOP.out ?_
                  rintro w6 h6
                  have H6 := Lib.hid h6
                  clear h6 px y0 y3 y4 y5 y6 y7 g3 g4 g5 g6 g7 HOP
                  have b0 : w6.cell? ⟨wb, 0, none⟩ = some (.int .i64 111) := H6.out.2.1.cell 0
                  have n0 : w6.cell? ⟨nb, 0, none⟩ = some (.int .i64 wd) := H6.out.2.2.cell 0
                  have r0 : w6.cell? ⟨w.heap.size, 0, none⟩ = some (.int .i64 0) := H6.out.1.rb.cell 0
                  have r1 : w6.cell? ⟨w.heap.size, 1, none⟩ = some (.int .i64 0) := H6.out.1.rb.cell 1
                  have f0 : w6.frozen? ⟨w.heap.size, 0, none⟩ = false := H6.out.1.rb.frozen 0
                  have f1 : w6.frozen? ⟨w.heap.size, 1, none⟩ = false := H6.out.1.rb.frozen 1
                  have HBAD := Lib.hid (show srL s.data.toList = ([], [], 111, (at_ : Int)) by rw [HG1.out, if_neg (by rw [hsg]; simp; exact fun _ => C1.out), if_neg (by have := C0.out; omega), if_pos C2.out])
                  go_wp2
                  go_region
                  all_goals
                    go_wp2
                    exact rd_bad2 H6.out.1 HBAD.out rfl rfl rfl
              · have dc : ((at_ : Int) + (wd : Int) == (s.size : Int)) = false := beq_eq_false_iff_ne.2 (by omega)
                have C2 := Lib.hid c2
                clear c2
                go_upto_region 15 with (fail)
                refine wp_abs (fun wx => RdM w v0 v1 ps out vs (fr, nu, 0, st, false) ds wx ∧ Blk wx wb 27 #[.int .i64 0] ∧ Blk wx nb 3 #[.int .i64 wd]) ⟨H4.out.1, H4.out.2.1, H4.out.2.2⟩ ?_
                rintro w5 h5
                have H5 := Lib.hid h5
                clear h5 n0 b0 fb
                obtain ⟨A0, c0_, e0_⟩ := own_slice H5.out.1.rr.ownP
                have px : w5.cell? ⟨w.heap.size + 1 + 1, 0, none⟩ = some (.pointer (some ⟨w.heap.size + 1, 0, none⟩)) := H5.out.1.px.cell 0
                have y0 : w5.cell? ⟨w.heap.size + 1, 0, none⟩ = some (.slice A0 ps.length c0_) := e0_ ▸ H5.out.1.rr.blk.cell 0
                have y3 : w5.cell? ⟨w.heap.size + 1, 3, none⟩ = some (.int .i64 fr) := H5.out.1.rr.blk.cell 3
                have y4 : w5.cell? ⟨w.heap.size + 1, 4, none⟩ = some (.int .i64 nu) := H5.out.1.rr.blk.cell 4
                have y5 : w5.cell? ⟨w.heap.size + 1, 5, none⟩ = some (.int .i64 0) := H5.out.1.rr.blk.cell 5
                have y6 : w5.cell? ⟨w.heap.size + 1, 6, none⟩ = some (.int .i64 st) := H5.out.1.rr.blk.cell 6
                have y7 : w5.cell? ⟨w.heap.size + 1, 7, none⟩ = some (.bool false) := H5.out.1.rr.blk.cell 7
                have g3 : w5.frozen? ⟨w.heap.size + 1, 3, none⟩ = false := H5.out.1.rr.blk.frozen 3
                have g4 : w5.frozen? ⟨w.heap.size + 1, 4, none⟩ = false := H5.out.1.rr.blk.frozen 4
                have g5 : w5.frozen? ⟨w.heap.size + 1, 5, none⟩ = false := H5.out.1.rr.blk.frozen 5
                have g6 : w5.frozen? ⟨w.heap.size + 1, 6, none⟩ = false := H5.out.1.rr.blk.frozen 6
                have g7 : w5.frozen? ⟨w.heap.size + 1, 7, none⟩ = false := H5.out.1.rr.blk.frozen 7
                have HOP := Lib.hid (rd_open H5.out.1 H5.out.2.1 H5.out.2.2 (by omega) (by omega) sst)
                go_region
                all_goals
                  refine exitAbs (fun wx => RdM w v0 v1 ps out vs ((ps.length : Int), -1, 0, sst, false) ds wx ∧ Blk wx wb 27 #[.int .i64 0] ∧ Blk wx nb 3 #[.int .i64 wd]) HOP.out ?_
                  rintro w6 h6
                  have H6 := Lib.hid h6
                  clear h6 px y0 y3 y4 y5 y6 y7 g3 g4 g5 g6 g7 HOP
                  have b0 : w6.cell? ⟨wb, 0, none⟩ = some (.int .i64 0) := H6.out.2.1.cell 0
                  have n0 : w6.cell? ⟨nb, 0, none⟩ = some (.int .i64 wd) := H6.out.2.2.cell 0
                  have HNX := Lib.hid (show srL s.data.toList = srGo s.data.toList fu (at_ + wd) ps out (ps.length : Int) (-1) sst vs true by rw [HG1.out, if_neg (by rw [hsg]; simp; exact fun _ => C1.out), if_neg (by have := C0.out; omega), if_neg C2.out, if_neg (by have := C0.out; omega)])
                  go_wp2
                  refine ⟨⟨ds, at_ + wd, ((at_ : Int) + (wd : Int)), ps, out, (ps.length : Int), -1, sst, vs, true, fu, v0, _, ⟨by omega, by omega, by simp, by omega, p5, p6, by have := HPX.out; simp; omega, .inl (by omega), HNX⟩, Lib.hid H6.out.1, frame_of rfl⟩, by simp [intOf]; omega⟩
        · have da : ((at_ : Int) == 0) = false := beq_eq_false_iff_ne.2 (by omega)
          have hpos : 0 < at_ := by omega
          have db : decide ((0 : Int) < (at_ : Int)) = true := decide_eq_true (by omega)
          have dbn : decide (0 < at_) = true := decide_eq_true hpos
          have HZ1 := Lib.hid HZ0.out
          have x4 : w4.cell? ⟨w.heap.size + 1, 4, none⟩ = some (.int .i64 nu) := H4.out.1.rr.blk.cell 4
          have px4 : w4.cell? ⟨w.heap.size + 1 + 1, 0, none⟩ = some (.pointer (some ⟨w.heap.size + 1, 0, none⟩)) := H4.out.1.px.cell 0
          cases hsg : sg with
          | true =>
            have db2 : ((at_ : Int) == beh) = true := by rw [hsg] at p3; have := of_decide_eq_true p3.symm; rw [this]; simp
            go_upto_region 15 with (fail)
            refine wp_abs (fun wx => RdM w v0 v1 ps out vs (fr, nu, 0, st, false) ds wx ∧ Blk wx wb 27 #[.int .i64 111] ∧ Blk wx nb 3 #[.int .i64 wd]) ⟨H4.out.1.far H4.out.2.1 (by omega) (by decide) (by decide) _, by simpa using H4.out.2.1.set_ 0 (.int .i64 111), H4.out.2.2.far (by simp; omega) _⟩ ?_
            rintro w5 h5
            have H5 := Lib.hid h5
            clear h5 x4 px4 n0 b0 fb
            obtain ⟨A0, c0_, e0_⟩ := own_slice H5.out.1.rr.ownP
            have px : w5.cell? ⟨w.heap.size + 1 + 1, 0, none⟩ = some (.pointer (some ⟨w.heap.size + 1, 0, none⟩)) := H5.out.1.px.cell 0
            have y0 : w5.cell? ⟨w.heap.size + 1, 0, none⟩ = some (.slice A0 ps.length c0_) := e0_ ▸ H5.out.1.rr.blk.cell 0
            have y3 : w5.cell? ⟨w.heap.size + 1, 3, none⟩ = some (.int .i64 fr) := H5.out.1.rr.blk.cell 3
            have y4 : w5.cell? ⟨w.heap.size + 1, 4, none⟩ = some (.int .i64 nu) := H5.out.1.rr.blk.cell 4
            have y5 : w5.cell? ⟨w.heap.size + 1, 5, none⟩ = some (.int .i64 0) := H5.out.1.rr.blk.cell 5
            have y6 : w5.cell? ⟨w.heap.size + 1, 6, none⟩ = some (.int .i64 st) := H5.out.1.rr.blk.cell 6
            have y7 : w5.cell? ⟨w.heap.size + 1, 7, none⟩ = some (.bool false) := H5.out.1.rr.blk.cell 7
            have g3 : w5.frozen? ⟨w.heap.size + 1, 3, none⟩ = false := H5.out.1.rr.blk.frozen 3
            have g4 : w5.frozen? ⟨w.heap.size + 1, 4, none⟩ = false := H5.out.1.rr.blk.frozen 4
            have g5 : w5.frozen? ⟨w.heap.size + 1, 5, none⟩ = false := H5.out.1.rr.blk.frozen 5
            have g6 : w5.frozen? ⟨w.heap.size + 1, 6, none⟩ = false := H5.out.1.rr.blk.frozen 6
            have g7 : w5.frozen? ⟨w.heap.size + 1, 7, none⟩ = false := H5.out.1.rr.blk.frozen 7
            have HOP := Lib.hid (rd_open H5.out.1 H5.out.2.1 H5.out.2.2 (by omega) (by omega) sst)
            go_region
            all_goals
              refine exitAbs (fun wx => RdM w v0 v1 ps out vs ((ps.length : Int), -1, 0, sst, false) ds wx ∧ Blk wx wb 27 #[.int .i64 111] ∧ Blk wx nb 3 #[.int .i64 wd]) HOP.out ?_
              rintro w6 h6
              have H6 := Lib.hid h6
              clear h6 px y0 y3 y4 y5 y6 y7 g3 g4 g5 g6 g7 HOP
              have b0 : w6.cell? ⟨wb, 0, none⟩ = some (.int .i64 111) := H6.out.2.1.cell 0
              have n0 : w6.cell? ⟨nb, 0, none⟩ = some (.int .i64 wd) := H6.out.2.2.cell 0
              have r0 : w6.cell? ⟨w.heap.size, 0, none⟩ = some (.int .i64 0) := H6.out.1.rb.cell 0
              have r1 : w6.cell? ⟨w.heap.size, 1, none⟩ = some (.int .i64 0) := H6.out.1.rb.cell 1
              have f0 : w6.frozen? ⟨w.heap.size, 0, none⟩ = false := H6.out.1.rb.frozen 0
              have f1 : w6.frozen? ⟨w.heap.size, 1, none⟩ = false := H6.out.1.rb.frozen 1
              have HBAD := Lib.hid (show srL s.data.toList = ([], [], 111, (at_ : Int)) by rw [HG1.out, if_pos (.inr hsg)])
              go_wp2
              go_region
              all_goals
                go_wp2
                exact rd_bad2 H6.out.1 HBAD.out rfl rfl rfl
          | false =>
            have db2 : ((at_ : Int) == beh) = false := by rw [hsg] at p3; have := of_decide_eq_false p3.symm; exact beq_eq_false_iff_ne.2 (Ne.symm this)
            have HG2 := Lib.hid (show srL s.data.toList = if nu < 0 then ([], [], 110, (at_ : Int)) else if at_ + wd = s.size then ([], [], 111, (at_ : Int)) else srGo s.data.toList fu (at_ + wd) ps (out ++ [shutS ps fr nu st]) (ps.length : Int) (-1) sst vs true by
              rw [HG1.out, if_neg (by rw [hsg]; simp; omega), if_pos hpos]
              by_cases e : nu < 0
              · rw [if_pos ⟨hpos, e⟩, if_pos e]
              · rw [if_neg (fun h => e h.2), if_neg e])
            by_cases hn : nu < 0
            · have dn : decide (nu < 0) = true := decide_eq_true hn
              have HNN := Lib.hid hn
              clear hn
              go_upto_region 15 with (fail)
              refine wp_abs (fun wx => RdM w v0 v1 ps out vs (fr, nu, 0, st, false) ds wx ∧ Blk wx wb 27 #[.int .i64 110] ∧ Blk wx nb 3 #[.int .i64 wd]) ⟨H4.out.1.far H4.out.2.1 (by omega) (by decide) (by decide) _, by simpa using H4.out.2.1.set_ 0 (.int .i64 110), H4.out.2.2.far (by simp; omega) _⟩ ?_
              rintro w5 h5
              have H5 := Lib.hid h5
              clear h5 x4 px4 n0 b0 fb
              obtain ⟨A0, c0_, e0_⟩ := own_slice H5.out.1.rr.ownP
              have px : w5.cell? ⟨w.heap.size + 1 + 1, 0, none⟩ = some (.pointer (some ⟨w.heap.size + 1, 0, none⟩)) := H5.out.1.px.cell 0
              have y0 : w5.cell? ⟨w.heap.size + 1, 0, none⟩ = some (.slice A0 ps.length c0_) := e0_ ▸ H5.out.1.rr.blk.cell 0
              have y3 : w5.cell? ⟨w.heap.size + 1, 3, none⟩ = some (.int .i64 fr) := H5.out.1.rr.blk.cell 3
              have y4 : w5.cell? ⟨w.heap.size + 1, 4, none⟩ = some (.int .i64 nu) := H5.out.1.rr.blk.cell 4
              have y5 : w5.cell? ⟨w.heap.size + 1, 5, none⟩ = some (.int .i64 0) := H5.out.1.rr.blk.cell 5
              have y6 : w5.cell? ⟨w.heap.size + 1, 6, none⟩ = some (.int .i64 st) := H5.out.1.rr.blk.cell 6
              have y7 : w5.cell? ⟨w.heap.size + 1, 7, none⟩ = some (.bool false) := H5.out.1.rr.blk.cell 7
              have g3 : w5.frozen? ⟨w.heap.size + 1, 3, none⟩ = false := H5.out.1.rr.blk.frozen 3
              have g4 : w5.frozen? ⟨w.heap.size + 1, 4, none⟩ = false := H5.out.1.rr.blk.frozen 4
              have g5 : w5.frozen? ⟨w.heap.size + 1, 5, none⟩ = false := H5.out.1.rr.blk.frozen 5
              have g6 : w5.frozen? ⟨w.heap.size + 1, 6, none⟩ = false := H5.out.1.rr.blk.frozen 6
              have g7 : w5.frozen? ⟨w.heap.size + 1, 7, none⟩ = false := H5.out.1.rr.blk.frozen 7
              have HOP := Lib.hid (rd_open H5.out.1 H5.out.2.1 H5.out.2.2 (by omega) (by omega) sst)
              go_region
              all_goals
                refine exitAbs (fun wx => RdM w v0 v1 ps out vs ((ps.length : Int), -1, 0, sst, false) ds wx ∧ Blk wx wb 27 #[.int .i64 110] ∧ Blk wx nb 3 #[.int .i64 wd]) HOP.out ?_
                rintro w6 h6
                have H6 := Lib.hid h6
                clear h6 px y0 y3 y4 y5 y6 y7 g3 g4 g5 g6 g7 HOP
                have b0 : w6.cell? ⟨wb, 0, none⟩ = some (.int .i64 110) := H6.out.2.1.cell 0
                have n0 : w6.cell? ⟨nb, 0, none⟩ = some (.int .i64 wd) := H6.out.2.2.cell 0
                have r0 : w6.cell? ⟨w.heap.size, 0, none⟩ = some (.int .i64 0) := H6.out.1.rb.cell 0
                have r1 : w6.cell? ⟨w.heap.size, 1, none⟩ = some (.int .i64 0) := H6.out.1.rb.cell 1
                have f0 : w6.frozen? ⟨w.heap.size, 0, none⟩ = false := H6.out.1.rb.frozen 0
                have f1 : w6.frozen? ⟨w.heap.size, 1, none⟩ = false := H6.out.1.rb.frozen 1
                have HBAD := Lib.hid (show srL s.data.toList = ([], [], 110, (at_ : Int)) by rw [HG2.out, if_pos HNN.out])
                go_wp2
                go_region
                all_goals
                  go_wp2
                  exact rd_bad2 H6.out.1 HBAD.out rfl rfl rfl
            · have dn : decide (nu < 0) = false := decide_eq_false hn
              have HNN := Lib.hid hn
              have hnu0 : 0 ≤ nu := by omega
              have hnu1 : nu < (ps.length : Int) := by omega
              rw [if_neg hn] at p7 HPX
              by_cases c2 : at_ + wd = s.size
              · have dc : ((at_ : Int) + (wd : Int) == (s.size : Int)) = true := by rw [beq_iff_eq]; omega
                have C2 := Lib.hid c2
                clear c2 hn
                go_upto_region 15 with (fail)
                refine wp_abs (fun wx => RdM w v0 v1 ps out vs (fr, nu, 0, st, false) ds wx ∧ Blk wx wb 27 #[.int .i64 111] ∧ Blk wx nb 3 #[.int .i64 wd]) ⟨H4.out.1.far H4.out.2.1 (by omega) (by decide) (by decide) _, by simpa using H4.out.2.1.set_ 0 (.int .i64 111), H4.out.2.2.far (by simp; omega) _⟩ ?_
                rintro w5 h5
                have H5 := Lib.hid h5
                clear h5 x4 px4 n0 b0 fb
                obtain ⟨A0, c0_, e0_⟩ := own_slice H5.out.1.rr.ownP
                have px : w5.cell? ⟨w.heap.size + 1 + 1, 0, none⟩ = some (.pointer (some ⟨w.heap.size + 1, 0, none⟩)) := H5.out.1.px.cell 0
                have y0 : w5.cell? ⟨w.heap.size + 1, 0, none⟩ = some (.slice A0 ps.length c0_) := e0_ ▸ H5.out.1.rr.blk.cell 0
                have y3 : w5.cell? ⟨w.heap.size + 1, 3, none⟩ = some (.int .i64 fr) := H5.out.1.rr.blk.cell 3
                have y4 : w5.cell? ⟨w.heap.size + 1, 4, none⟩ = some (.int .i64 nu) := H5.out.1.rr.blk.cell 4
                have y5 : w5.cell? ⟨w.heap.size + 1, 5, none⟩ = some (.int .i64 0) := H5.out.1.rr.blk.cell 5
                have y6 : w5.cell? ⟨w.heap.size + 1, 6, none⟩ = some (.int .i64 st) := H5.out.1.rr.blk.cell 6
                have y7 : w5.cell? ⟨w.heap.size + 1, 7, none⟩ = some (.bool false) := H5.out.1.rr.blk.cell 7
                have g3 : w5.frozen? ⟨w.heap.size + 1, 3, none⟩ = false := H5.out.1.rr.blk.frozen 3
                have g4 : w5.frozen? ⟨w.heap.size + 1, 4, none⟩ = false := H5.out.1.rr.blk.frozen 4
                have g5 : w5.frozen? ⟨w.heap.size + 1, 5, none⟩ = false := H5.out.1.rr.blk.frozen 5
                have g6 : w5.frozen? ⟨w.heap.size + 1, 6, none⟩ = false := H5.out.1.rr.blk.frozen 6
                have g7 : w5.frozen? ⟨w.heap.size + 1, 7, none⟩ = false := H5.out.1.rr.blk.frozen 7
                have HOP := Lib.hid (rd_open H5.out.1 H5.out.2.1 H5.out.2.2 (by omega) (by omega) sst)
                go_region
                all_goals
                  refine exitAbs (fun wx => RdM w v0 v1 ps out vs ((ps.length : Int), -1, 0, sst, false) ds wx ∧ Blk wx wb 27 #[.int .i64 111] ∧ Blk wx nb 3 #[.int .i64 wd]) HOP.out ?_
                  rintro w6 h6
                  have H6 := Lib.hid h6
                  clear h6 px y0 y3 y4 y5 y6 y7 g3 g4 g5 g6 g7 HOP
                  have b0 : w6.cell? ⟨wb, 0, none⟩ = some (.int .i64 111) := H6.out.2.1.cell 0
                  have n0 : w6.cell? ⟨nb, 0, none⟩ = some (.int .i64 wd) := H6.out.2.2.cell 0
                  have r0 : w6.cell? ⟨w.heap.size, 0, none⟩ = some (.int .i64 0) := H6.out.1.rb.cell 0
                  have r1 : w6.cell? ⟨w.heap.size, 1, none⟩ = some (.int .i64 0) := H6.out.1.rb.cell 1
                  have f0 : w6.frozen? ⟨w.heap.size, 0, none⟩ = false := H6.out.1.rb.frozen 0
                  have f1 : w6.frozen? ⟨w.heap.size, 1, none⟩ = false := H6.out.1.rb.frozen 1
                  have HBAD := Lib.hid (show srL s.data.toList = ([], [], 111, (at_ : Int)) by rw [HG2.out, if_neg (by have := HNN.out; omega), if_pos C2.out])
                  go_wp2
                  go_region
                  all_goals
                    go_wp2
                    exact rd_bad2 H6.out.1 HBAD.out rfl rfl rfl
              · have dc : ((at_ : Int) + (wd : Int) == (s.size : Int)) = false := beq_eq_false_iff_ne.2 (by omega)
                have C2 := Lib.hid c2
                have hp8 : (ps.length : Int) ≤ 128 := by omega
                clear c2 hn
                go_wp2_with fail
                refine (closed_any w (w.heap.size + 1) v0 v1 ps out vs (fr, nu, 0, st, false) w4 H4.out.1.rr p5 (by omega) hnu0 hnu1).mono ?_
                rintro e w5 ⟨rfl, ⟨v1', hr⟩, ho⟩
                have HSH := Lib.hid (show shutS ps fr nu st = (fr, nu, (ps.length : Int), st, heavyF ps (fr, nu, (ps.length : Int), st, false)) from rfl)
                have hr : RrSt w (w.heap.size + 1) v0 v1' ps (out ++ [shutS ps fr nu st]) vs (fr, nu, (ps.length : Int), st, heavyF ps (fr, nu, (ps.length : Int), st, false)) w5 := hr
                have H5 := Lib.hid (And.intro (H4.out.1.turn hr ho (fun b hb => hb.elim .inl (fun h => .inr (.inr h)))) (And.intro (H4.out.1.keep H4.out.2.1 (by decide) (by decide) (by decide) ho (fun b hb => hb.elim .inl (fun h => .inr (.inr h)))) (H4.out.1.keep H4.out.2.2 (by decide) (by decide) (by decide) ho (fun b hb => hb.elim .inl (fun h => .inr (.inr h))))))
                clear hr ho x4 px4 n0 b0 fb
                generalize heavyF ps (fr, nu, (ps.length : Int), st, false) = hy at *
                go_upto_region 15 with (fail)
                obtain ⟨A0, c0_, e0_⟩ := own_slice H5.out.1.rr.ownP
                have px : w5.cell? ⟨w.heap.size + 1 + 1, 0, none⟩ = some (.pointer (some ⟨w.heap.size + 1, 0, none⟩)) := H5.out.1.px.cell 0
                have y0 : w5.cell? ⟨w.heap.size + 1, 0, none⟩ = some (.slice A0 ps.length c0_) := e0_ ▸ H5.out.1.rr.blk.cell 0
                have y3 : w5.cell? ⟨w.heap.size + 1, 3, none⟩ = some (.int .i64 fr) := H5.out.1.rr.blk.cell 3
                have y4 : w5.cell? ⟨w.heap.size + 1, 4, none⟩ = some (.int .i64 nu) := H5.out.1.rr.blk.cell 4
                have y5 : w5.cell? ⟨w.heap.size + 1, 5, none⟩ = some (.int .i64 (ps.length : Int)) := H5.out.1.rr.blk.cell 5
                have y6 : w5.cell? ⟨w.heap.size + 1, 6, none⟩ = some (.int .i64 st) := H5.out.1.rr.blk.cell 6
                have y7 : w5.cell? ⟨w.heap.size + 1, 7, none⟩ = some (.bool hy) := H5.out.1.rr.blk.cell 7
                have g3 : w5.frozen? ⟨w.heap.size + 1, 3, none⟩ = false := H5.out.1.rr.blk.frozen 3
                have g4 : w5.frozen? ⟨w.heap.size + 1, 4, none⟩ = false := H5.out.1.rr.blk.frozen 4
                have g5 : w5.frozen? ⟨w.heap.size + 1, 5, none⟩ = false := H5.out.1.rr.blk.frozen 5
                have g6 : w5.frozen? ⟨w.heap.size + 1, 6, none⟩ = false := H5.out.1.rr.blk.frozen 6
                have g7 : w5.frozen? ⟨w.heap.size + 1, 7, none⟩ = false := H5.out.1.rr.blk.frozen 7
                have HOP := Lib.hid (rd_open H5.out.1 H5.out.2.1 H5.out.2.2 (by omega) (by omega) sst)
                go_region
                all_goals
                  refine exitAbs (fun wx => RdM w v0 v1' ps (out ++ [shutS ps fr nu st]) vs ((ps.length : Int), -1, 0, sst, false) ds wx ∧ Blk wx wb 27 #[.int .i64 0] ∧ Blk wx nb 3 #[.int .i64 wd]) HOP.out ?_
                  rintro w6 h6
                  have H6 := Lib.hid h6
                  clear h6 px y0 y3 y4 y5 y6 y7 g3 g4 g5 g6 g7 HOP
                  have b0 : w6.cell? ⟨wb, 0, none⟩ = some (.int .i64 0) := H6.out.2.1.cell 0
                  have n0 : w6.cell? ⟨nb, 0, none⟩ = some (.int .i64 wd) := H6.out.2.2.cell 0
                  have HNX := Lib.hid (show srL s.data.toList = srGo s.data.toList fu (at_ + wd) ps (out ++ [shutS ps fr nu st]) (ps.length : Int) (-1) sst vs true by rw [HG2.out, if_neg (by have := HNN.out; omega), if_neg C2.out])
                  go_wp2
                  refine ⟨⟨ds, at_ + wd, ((at_ : Int) + (wd : Int)), ps, (out ++ [shutS ps fr nu st]), (ps.length : Int), -1, sst, vs, true, fu, v0, _, ⟨by omega, by omega, by simp, by omega, p5, p6, by have := HPX.out; simp; omega, .inl (by omega), HNX⟩, Lib.hid H6.out.1, frame_of rfl⟩, by simp [intOf]; omega⟩
      · have dw : decide ((0 : Int) < (wd : Int)) = false := decide_eq_false (by omega)
        have dwn : ¬ 0 < wd := hw
        have HG1 := Lib.hid (show srL s.data.toList = if (nextL (s.data.toList.drop at_)).2 = 0 then ([], [], 80, (at_ : Int))
          else if ps.length = 128 then ([], [], 3, (at_ : Int))
          else if vowF (nextL (s.data.toList.drop at_)).1 then
            if 0 ≤ nu then ([], [], 110, (at_ : Int)) else if vs = 64 then ([], [], 3, (at_ : Int))
            else srGo s.data.toList fu (at_ + (nextL (s.data.toList.drop at_)).2) (ps ++ [(nextL (s.data.toList.drop at_)).1]) out fr (ps.length : Int) st (vs + 1) false
          else srGo s.data.toList fu (at_ + (nextL (s.data.toList.drop at_)).2) (ps ++ [(nextL (s.data.toList.drop at_)).1]) out fr nu st vs false by rw [HGO.out, if_neg hw])
        have hwd : wd = 0 := by omega
        have HWD := Lib.hid hwd
        clear HGO HZ0 w_at hsl1 hsl2 hwd hw
        go_upto_region 18 with (fail)
        refine wp_abs (fun wx => RdM w v0 v1 ps out vs (fr, nu, 0, st, false) ds wx ∧ Blk wx wb 27 #[.int .i64 80] ∧ Blk wx nb 3 #[.int .i64 wd]) ⟨H4.out.1.far H4.out.2.1 (by omega) (by decide) (by decide) _, by simpa using H4.out.2.1.set_ 0 (.int .i64 80), H4.out.2.2.far (by simp; omega) _⟩ ?_
        rintro w5 h5
        have H5 := Lib.hid h5
        clear h5 n0 b0 fb
        go_wp2_with fail
        refine (each_call (s.extract at_ s.size) _).mono ?_
        rintro e w6 ⟨rfl, hw6⟩
        obtain ⟨sb, hsb⟩ : ∃ sb, sb = w5.heap.size := ⟨_, rfl⟩
        have hs6 : w6.heap.size = sb + 1 := by rw [hw6, hsb]; simp
        have hb6 : Below w5.heap.size w5 w6 := by rw [hw6]; exact (Below.refl _ _).alloc (Nat.le_refl _) _
        have hbs : Blk w6 sb 9 #[.string (s.extract at_ s.size)] := by rw [hw6, hsb]; exact Blk.new _ _ _
        have h6 := And.intro (H5.out.1.on hb6) (And.intro (H5.out.2.1.below hb6 H5.out.2.1.lt) (H5.out.2.2.below hb6 H5.out.2.2.lt))
        have hl3 : w.heap.size + 3 ≤ sb := by have := H5.out.1.px.lt; omega
        have hwbs : wb < sb := by have := H5.out.2.1.lt; omega
        have hnbs : nb < sb := by have := H5.out.2.2.lt; omega
        have hv0 : ∀ g, v0.ownBlock = some g → g < sb := fun g hg => by rw [hsb]; exact (H5.out.1.rr.ownP.lt g hg).2
        have hv1 : ∀ g, v1.ownBlock = some g → g < sb := fun g hg => by rw [hsb]; exact (H5.out.1.rr.ownS.lt g hg).2
        have hds : ∀ d ∈ ds, ∀ r, d.target = .collected r → r < sb := fun d hd r hr => by
          obtain ⟨r', e1, e2⟩ := H5.out.1.mar.lt d hd
          rw [hr] at e1
          injection e1 with e1
          omega
        have H6 := Lib.hid (And.intro h6 hbs)
        have HV := Lib.hid (And.intro hv0 (And.intro hv1 hds))
        rw [← hsb]
        have hgn : ∀ t : Nat, (evL (s.extract at_ s.size).data.toList).1.length = t → Hid ((evL (s.data.toList.drop at_)).1.length = t) := fun t h => by rw [← HX.out]; exact h
        clear h6 hbs hv0 hv1 hds H5 hw6 hsb hb6
        obtain ⟨N, hN⟩ : ∃ N, (evL (s.extract at_ s.size).data.toList).1.length = N := ⟨_, rfl⟩
        have HN := Lib.hid hN
        have HN2 := hgn N hN
        obtain ⟨p, hp⟩ : ∃ p, p = (nextL (s.data.toList.drop at_)).1 := ⟨_, rfl⟩
        obtain ⟨nw, hnw⟩ : ∃ nw, nw = (nextL (s.data.toList.drop at_)).2 := ⟨_, rfl⟩
        rw [← hp, ← hnw] at HG1
        have HEV := Lib.hid (fun (h : 0 < N) => show isF p = true ∧ nw ≠ 0 ∧ at_ + nw ≤ s.size ∧ ∀ B args W, EvX (s.extract at_ s.size).data.toList B 0 args W → args = #[.agg #[.int .i64 0, .int .i64 nw], .agg #[.int .i32 p.1, .bool p.2.1, .int .i32 p.2.2]] by
          rw [← HN2.out] at h
          obtain ⟨e1, e2⟩ := ev_first h
          have hne : (nextL (s.data.toList.drop at_)).2 ≠ 0 := e2
          obtain ⟨o1, _, _⟩ := next_ok hne
          have hfit := next_fit (l := s.data.toList) (at_ := at_) (by rw [HSL.out.1]; omega)
          rw [HSL.out.1] at hfit
          refine ⟨by rw [hp]; exact o1, by rw [hnw]; exact hne, by rw [hnw]; exact hfit, ?_⟩
          intro B args W hx
          rw [HX.out] at hx
          have h9 := ev_args hx
          rw [← hp, ← hnw] at h9
          exact h9)
        have HNO := Lib.hid (fun (h : N = 0) => show nw = 0 by
          rw [← HN2.out] at h
          rw [hnw]
          exact ev_none h (by rw [List.length_drop, HSL.out.1]; omega))
        clear hN hgn hp hnw
        have hext : (s.extract at_ s.size).size ≤ maxLen := by unfold maxLen; rw [HSL.out.2, bts_size, List.length_drop, HSL.out.1]; omega
        have HEX := Lib.hid hext
        clear hext
        go_wp2
        refine wp_range2 (gf := 128) (lb := #[.pointer (some ⟨sb, 0, none⟩)]) (N := N) (X := EvX (s.extract at_ s.size).data.toList) (C := fun b => b = sb) rfl (enters_of Try.func128 (by kernel_rfl) rfl)
          (fun W hb _ => by have := each_gives2 (s.extract at_ s.size) sb W (H6.out.2.below hb H6.out.2.lt) HEX.out; rw [HN.out] at this; exact this) (fun b e => by rw [e]; exact H6.out.2.lt) ?hX
          (fun B2 k W => k = 0 ∧ RdM w v0 v1 ps out vs (fr, nu, 0, st, false) ds W ∧ Blk W wb 27 #[.int .i64 80] ∧ Blk W nb 3 #[.int .i64 wd])
          (fun c B2 k W => c = .exit 3 ∧ 0 < N ∧ ∃ v0', RdM w v0' v1 (rpPs ps vs nu p) out (rpVs ps vs nu p) (rpOp ps vs (fr, nu, 0, st, false) p) ds W ∧ Blk W wb 27 #[.int .i64 (rpE ps vs nu p)] ∧ Blk W nb 3 #[.int .i64 nw] ∧ ∀ g, v0'.ownBlock = some g → g ≤ sb ∨ B2 ≤ g)
          (fun B2 k A A' h ho => ⟨h.1, h.2.1.stay ho (fun b hb => by omega) (fun g hg hs => by have := HV.out.1 g hg; omega) (fun g hg hs => by have := HV.out.2.1 g hg; omega) (fun d hd r hr hs => by have := HV.out.2.2 d hd r hr; omega), h.2.2.1.only ho (by omega), h.2.2.2.only ho (by omega)⟩)
          (fun c B2 k A A' h ho => by
            obtain ⟨h1, h2, v0', h3, h4, h5, h6⟩ := h
            exact ⟨h1, h2, v0', h3.stay ho (fun b hb => by omega) (fun g hg hs => by have := h6 g hg; omega) (fun g hg hs => by have := HV.out.2.1 g hg; omega) (fun d hd r hr hs => by have := HV.out.2.2 d hd r hr; omega), h4.only ho (by omega), h5.only ho (by omega), h6⟩)
          (fun B2 => ⟨rfl, H6.out.1.1, H6.out.1.2.1, H6.out.1.2.2⟩)
          (fun B2 k args a' W => k = 0 ∧ 0 < N ∧ ∃ spb phb : Nat, B2 ≤ spb ∧ B2 ≤ phb ∧ Blk W spb 78 #[.int .i64 0, .int .i64 nw] ∧ Blk W phb 43 #[.int .i32 p.1, .bool p.2.1, .int .i32 p.2.2] ∧ (RdM w v0 v1 ps out vs (fr, nu, 0, st, false) ds W ∧ Blk W wb 27 #[.int .i64 80] ∧ Blk W nb 3 #[.int .i64 wd]) ∧ ∃ f : Nat → Value, a' = { tmps := #[f 0, f 1, f 2, f 3, f 4, .pointer (some ⟨w.heap.size + 1 + 1, 0, none⟩), f 6, f 7, .pointer (some ⟨wb, 0, none⟩), f 9, .pointer (some ⟨nb, 0, none⟩), .pointer (some ⟨spb, 0, none⟩), .pointer (some ⟨phb, 0, none⟩), f 13, f 14, f 15, f 16, f 17, f 18, f 19, f 20, f 21, f 22, f 23, f 24, f 25, f 26, f 27, f 28, f 29, f 30, f 31, f 32, f 33, f 34, f 35, f 36, f 37, f 38, f 39, f 40, f 41, f 42, f 43, f 44, f 45, f 46, f 47, f 48, f 49, f 50, f 51, f 52, f 53, f 54, f 55, f 56, f 57, f 58, f 59, f 60, f 61, f 62, f 63, f 64, f 65, f 66, f 67, f 68, f 69, f 70, f 71, f 72, f 73, f 74, f 75, f 76, f 77, f 78, f 79, f 80, f 81, f 82, f 83, f 84, f 85, f 86, f 87, f 88, f 89, f 90, f 91, f 92, f 93, f 94, f 95, f 96, f 97, f 98, f 99, f 100, f 101, f 102, f 103, f 104, f 105, f 106, f 107, f 108, f 109, f 110, f 111, f 112, f 113, f 114, f 115], defers := [] })
          ?hAx ?assign ?body ?done ?stop
        case hX =>
          rintro k args W ⟨_, rfl⟩
          rfl
        case hAx =>
          rintro B2 k args a' A A' ⟨h1, h2, spb, phb, h3, h4, h5, h6, ⟨h7, h8, h9⟩, h10⟩ ho _ hB2 _
          exact ⟨h1, h2, spb, phb, h3, h4, h5.only ho (by omega), h6.only ho (by omega), ⟨h7.stay ho (fun b hb => by omega) (fun g hg hs => by have := HV.out.1 g hg; omega) (fun g hg hs => by have := HV.out.2.1 g hg; omega) (fun d hd r hr hs => by have := HV.out.2.2 d hd r hr; omega), h8.only ho (by omega), h9.only ho (by omega)⟩, h10⟩
        case assign =>
          rintro B2 l k args W hk ⟨rfl, hI⟩ hx hB2 hsz
          obtain ⟨q1, q2, q3, q4⟩ := HEV.out hk
          obtain rfl := q4 _ _ _ hx
          have HJ := Lib.hid hI
          clear hI hx q1 q2 q3 q4
          simp only [List.zip_toArray, List.zip_cons_cons, List.zip_nil_right, List.foldl_toArray', List.foldl_cons, List.foldl_nil]
          gi_wp2
          refine ⟨((Only.refl _ _).alloc _).alloc _, (by first | rfl | trivial), (by first | exact hk | trivial), W.heap.size, W.heap.size + 1, hsz, by omega, (Blk.new _ _ _).alloc _, blk_new_eq (by simp), ⟨HJ.out.1.on (((Below.refl _ _).alloc (Nat.le_refl _) _).alloc (by simp) _), (HJ.out.2.1.alloc _).alloc _, (HJ.out.2.2.alloc _).alloc _⟩, frame_of rfl⟩
        case body =>
          rintro B2 l0 k args a₁ W hk ⟨rfl, hN0, spb, phb, h3, h4, h5, h6, ⟨h7, h8, h9⟩, f, rfl⟩ hB2 hsz
          obtain ⟨q1, _, _, _⟩ := HEV.out hN0
          have wf : ∀ k, Fence.wide.fn k := fun _ => trivial
          have wd_ : Fence.wide.depth = none := rfl
          try dsimp only
          rw [hs6] at hB2
          have px : W.cell? ⟨w.heap.size + 1 + 1, 0, none⟩ = some (.pointer (some ⟨w.heap.size + 1, 0, none⟩)) := h7.px.cell 0
          have x0 : W.cell? ⟨phb, 0, none⟩ = some (.int .i32 p.1) := h6.cell 0
          have x1 : W.cell? ⟨phb, 1, none⟩ = some (.bool p.2.1) := h6.cell 1
          have x2 : W.cell? ⟨phb, 2, none⟩ = some (.int .i32 p.2.2) := h6.cell 2
          have HJ := Lib.hid (And.intro h7 (And.intro h8 (And.intro h9 h5)))
          clear h7 h8 h9 h5 h6
          gi_wp2_with fail
          refine (CallsIn.inRound l0 (callsIn_wide.2 (rphone_any w (w.heap.size + 1) v0 v1 ps out vs (fr, nu, 0, st, false) p _ HJ.out.1.rr q1 p5 (by omega) (by omega)))).mono ?_
          rintro e W2 ⟨rfl, hpost⟩
          obtain ⟨⟨v0', hr, hg⟩, ho⟩ := hpost.to
          have hS : ∀ b, (b = w.heap.size + 1 ∨ v0.ownBlock = some b) → b = w.heap.size + 1 ∨ v0.ownBlock = some b ∨ v1.ownBlock = some b := fun b hb => hb.elim .inl (fun h => .inr (.inl h))
          have k1 := HJ.out.1.turn hr ho hS
          have k2 := HJ.out.1.keep HJ.out.2.1 (by decide) (by decide) (by decide) ho hS
          have k3 := HJ.out.1.keep HJ.out.2.2.1 (by decide) (by decide) (by decide) ho hS
          have k4 := HJ.out.1.keep HJ.out.2.2.2 (by decide) (by decide) (by decide) ho hS
          have hoo : Only (fun b => (b < w6.heap.size ∧ ¬ b = sb) ∨ B2 ≤ b) W W2 := ho.weak (fun b _ hb => by
            rcases hb with e | e
            · left; omega
            · left; have := HV.out.1 b e; omega)
          have hgg : ∀ g, v0'.ownBlock = some g → g ≤ sb ∨ B2 ≤ g := fun g h => by
            rcases hg g h with e | e
            · left; have := HV.out.1 g e; omega
            · right; omega
          have z1 : W2.cell? ⟨spb, 1, none⟩ = some (.int .i64 nw) := k4.cell 1
          have b0 : W2.cell? ⟨wb, 0, none⟩ = some (.int .i64 80) := k2.cell 0
          have n0 : W2.cell? ⟨nb, 0, none⟩ = some (.int .i64 wd) := k3.cell 0
          have fb : W2.frozen? ⟨wb, 0, none⟩ = false := k2.frozen 0
          have fn : W2.frozen? ⟨nb, 0, none⟩ = false := k3.frozen 0
          have hsw : spb ≠ wb := by omega
          have hnw : nb ≠ wb := by omega
          have HK := Lib.hid (And.intro k1 (And.intro k2 (And.intro k3 (And.intro hoo hgg))))
          clear hpost hr hg ho hS k1 k2 k3 k4 hoo hgg HJ px x0 x1 x2
          change Hid (RdM w v0' v1 (rpPs ps vs nu p) out (rpVs ps vs nu p) (rpOp ps vs (fr, nu, 0, st, false) p) ds W2 ∧ _) at HK
          generalize rpE ps vs nu p = E at *
          gi_wp2
          refine ⟨(HK.out.2.2.2.1.setCell (.inl (.inl ⟨by show wb < w6.heap.size; omega, by show ¬ wb = sb; omega⟩)) _).setCell (.inl (.inl ⟨by show nb < w6.heap.size; omega, by show ¬ nb = sb; omega⟩)) _, rfl, hN0, v0', ?_⟩
          have j1 := HK.out.1.far (i := 0) HK.out.2.1 (by omega) (by decide) (by decide) (.int .i64 (rpE ps vs nu p))
          have j2 : Blk (W2.setCell ⟨wb, 0, none⟩ (.int .i64 (rpE ps vs nu p))) nb 3 #[.int .i64 wd] := HK.out.2.2.1.far (by simp; omega) _
          have j3 : Blk ((W2.setCell ⟨wb, 0, none⟩ (.int .i64 (rpE ps vs nu p))).setCell ⟨nb, 0, none⟩ (.int .i64 nw)) wb 27 #[.int .i64 (rpE ps vs nu p)] := by have := HK.out.2.1.set_ 0 (.int .i64 (rpE ps vs nu p)); simpa using this.far (p := ⟨nb, 0, none⟩) (by simp; omega) (.int .i64 nw)
          have j4 : Blk ((W2.setCell ⟨wb, 0, none⟩ (.int .i64 (rpE ps vs nu p))).setCell ⟨nb, 0, none⟩ (.int .i64 nw)) nb 3 #[.int .i64 nw] := by simpa using j2.set_ 0 (.int .i64 nw)
          exact ⟨j1.far (i := 0) j2 (by omega) (by decide) (by decide) _, j3, j4, HK.out.2.2.2.2⟩
        case done =>
          rintro B2 W ⟨hN0, h1, h2, h3⟩ hmk
          have hnw0 := HNO.out hN0
          have hm := h1.mark (r := w6.heap.size) (by omega) hmk (fun d hd e => by have := HV.out.2.2 d hd _ e; omega)
          have HW := Lib.hid (And.intro hm (And.intro h2 h3))
          have HBAD0 := Lib.hid (show srL s.data.toList = ([], [], 80, (at_ : Int)) by rw [HG1.out, if_pos hnw0])
          clear hm h1 h2 h3 hmk hN0 hnw0
          have b0 : W.cell? ⟨wb, 0, none⟩ = some (.int .i64 80) := HW.out.2.1.cell 0
          have r0 : W.cell? ⟨w.heap.size, 0, none⟩ = some (.int .i64 0) := HW.out.1.rb.cell 0
          have r1 : W.cell? ⟨w.heap.size, 1, none⟩ = some (.int .i64 0) := HW.out.1.rb.cell 1
          have f0 : W.frozen? ⟨w.heap.size, 0, none⟩ = false := HW.out.1.rb.frozen 0
          have f1 : W.frozen? ⟨w.heap.size, 1, none⟩ = false := HW.out.1.rb.frozen 1
          have HBAD := Lib.hid (show srL s.data.toList = ([], [], 80, (at_ : Int)) by exact HBAD0.out)
          go_wp2
          go_region
          all_goals
            go_wp2
            exact rd_bad2 HW.out.1 HBAD.out rfl rfl rfl
        case stop =>
          rintro B2 c k W _ _ ⟨rfl, hN0, v0', h1, h2, h3, _⟩ hmk
          obtain ⟨q1, q2, q3, _⟩ := HEV.out hN0
          have hm := h1.mark (r := w6.heap.size) (by omega) hmk (fun d hd e => by have := HV.out.2.2 d hd _ e; omega)
          have HER := Lib.hid (fun (h : rpE ps vs nu p ≠ 0) => show srL s.data.toList = ([], [], rpE ps vs nu p, (at_ : Int)) by
            rw [HG1.out, if_neg q2]
            unfold rpE at h ⊢
            by_cases e1 : ps.length = 128
            · rw [if_pos e1, if_pos e1]
            · rw [if_neg e1] at h
              rw [if_neg e1, if_neg e1]
              cases hv : vowF p with
              | false => rw [hv] at h; exact absurd rfl h
              | true =>
                rw [hv, if_pos rfl] at h
                rw [if_pos rfl, if_pos rfl]
                by_cases e2 : 0 ≤ nu
                · rw [if_pos e2, if_pos e2]
                · rw [if_neg e2] at h
                  rw [if_neg e2, if_neg e2]
                  by_cases e3 : vs = 64
                  · rw [if_pos e3, if_pos (by omega)]
                  · rw [if_neg (by omega)] at h; exact absurd rfl h)
          have HOKE := Lib.hid (fun (h : rpE ps vs nu p = 0) => show ps.length ≠ 128 ∧ (vowF p = true → nu < 0 ∧ vs ≠ 64) ∧ srL s.data.toList = (if vowF p then srGo s.data.toList fu (at_ + nw) (ps ++ [p]) out fr (ps.length : Int) st (vs + 1) false else srGo s.data.toList fu (at_ + nw) (ps ++ [p]) out fr nu st vs false) by
            rw [HG1.out, if_neg q2]
            unfold rpE at h
            by_cases e1 : ps.length = 128
            · rw [if_pos e1] at h; cases h
            · rw [if_neg e1] at h
              rw [if_neg e1]
              refine ⟨e1, ?_⟩
              cases hv : vowF p with
              | false => exact ⟨fun h => (by cases h), rfl⟩
              | true =>
                rw [hv, if_pos rfl] at h
                by_cases e2 : 0 ≤ nu
                · rw [if_pos e2] at h; cases h
                · rw [if_neg e2] at h
                  by_cases e3 : vs = 64
                  · rw [if_pos (by omega)] at h; cases h
                  · exact ⟨fun _ => ⟨by omega, e3⟩, by rw [if_pos rfl, if_pos rfl, if_neg e2, if_neg e3]⟩)
          have HPT := Lib.hid (And.intro (show rpPs ps vs nu p = if rpE ps vs nu p = 0 then ps ++ [p] else ps from rfl) (And.intro (show rpVs ps vs nu p = if rpE ps vs nu p = 0 then rpV vs p else vs from rfl) (show rpOp ps vs (fr, nu, 0, st, false) p = if rpE ps vs nu p = 0 then rpO ps (fr, nu, 0, st, false) p else (fr, nu, 0, st, false) from rfl)))
          have HW := Lib.hid (And.intro hm (And.intro h2 h3))
          have HQ3 := Lib.hid (And.intro q2 q3)
          clear hm h1 h2 h3 hmk q1
          have b0 : W.cell? ⟨wb, 0, none⟩ = some (.int .i64 (rpE ps vs nu p)) := HW.out.2.1.cell 0
          have n0 : W.cell? ⟨nb, 0, none⟩ = some (.int .i64 nw) := HW.out.2.2.cell 0
          generalize hE : rpE ps vs nu p = E at *
          have HEE := Lib.hid hE
          clear hE
          by_cases e0 : E = 0
          · subst e0
            obtain ⟨g1, g2, g3⟩ := HOKE.out rfl
            have t1 := HPT.out.1
            have t2 := HPT.out.2.1
            have t3 := HPT.out.2.2
            rw [if_pos rfl] at t1 t2 t3
            have hwn : IntKind.i64.wrap ((at_ : Int) + (nw : Int)) = (at_ : Int) + (nw : Int) := IntWalk.i64_in _ (by omega)
            rw [t1, t2, t3] at HW
            cases hv : vowF p with
            | false =>
              have HNX := Lib.hid (show srL s.data.toList = srGo s.data.toList fu (at_ + nw) (ps ++ [p]) out fr nu st vs false by rw [g3, hv]; rfl)
              have HW2 := Lib.hid (show RdM w v0' v1 (ps ++ [p]) out vs (fr, nu, 0, st, false) ({ target := .collected w6.heap.size, args := #[] } :: ds) W by
                have := HW.out.1
                unfold rpV rpO at this
                rw [hv] at this
                exact this)
              clear g2 g3 t1 t2 t3 HOKE HER HPT HW hv
              go_wp2
              refine ⟨⟨_, at_ + nw, beh, ps ++ [p], out, fr, nu, st, vs, false, fu, v0', v1, ⟨by omega, by omega, by have := HQ3.out.1; simp; omega, by omega, by simp; omega, p6, p7, by rcases p8 with h | h; exact .inl h; right; simp; omega, HNX⟩, HW2, frame_of rfl⟩, by have := HQ3.out.1; simp [intOf]; omega⟩
            | true =>
              obtain ⟨g4, g5⟩ := g2 hv
              have HNX := Lib.hid (show srL s.data.toList = srGo s.data.toList fu (at_ + nw) (ps ++ [p]) out fr (ps.length : Int) st (vs + 1) false by rw [g3, hv]; rfl)
              have HW2 := Lib.hid (show RdM w v0' v1 (ps ++ [p]) out ((vs + 1 : Nat) : Int) (fr, (ps.length : Int), 0, st, false) ({ target := .collected w6.heap.size, args := #[] } :: ds) W by
                have := HW.out.1
                unfold rpV rpO at this
                rw [hv] at this
                exact this)
              rw [if_pos g4] at p7
              have p7' : out.length + (if ((ps.length : Nat) : Int) < 0 then 0 else 1) ≤ vs + 1 := by rw [if_neg (by omega)]; omega
              clear g2 g3 t1 t2 t3 HOKE HER HPT HW hv
              go_wp2
              refine ⟨⟨_, at_ + nw, beh, ps ++ [p], out, fr, (ps.length : Int), st, vs + 1, false, fu, v0', v1, ⟨by omega, by omega, by have := HQ3.out.1; simp; omega, by omega, by simp; omega, by omega, p7', .inr (by simp; omega), HNX⟩, HW2, frame_of rfl⟩, by have := HQ3.out.1; simp [intOf]; omega⟩
          · have HBAD0 := Lib.hid (show srL s.data.toList = ([], [], E, (at_ : Int)) from HER.out e0)
            have hne : (E != 0) = true := by simpa using e0
            clear HOKE HER
            have r0 : W.cell? ⟨w.heap.size, 0, none⟩ = some (.int .i64 0) := HW.out.1.rb.cell 0
            have r1 : W.cell? ⟨w.heap.size, 1, none⟩ = some (.int .i64 0) := HW.out.1.rb.cell 1
            have f0 : W.frozen? ⟨w.heap.size, 0, none⟩ = false := HW.out.1.rb.frozen 0
            have f1 : W.frozen? ⟨w.heap.size, 1, none⟩ = false := HW.out.1.rb.frozen 1
            have HBAD := Lib.hid (show srL s.data.toList = ([], [], E, (at_ : Int)) by exact HBAD0.out)
            go_wp2
            go_region
            all_goals
              go_wp2
              exact rd_bad2 HW.out.1 HBAD.out rfl rfl rfl
    · obtain rfl : at_ = s.size := by omega
      have dlt : ¬ ((s.size : Int) < (s.size : Int)) := by omega
      obtain ⟨fu, rfl⟩ : ∃ k, fuel = k + 1 := ⟨fuel - 1, by omega⟩
      have x4 : wr.cell? ⟨w.heap.size + 1, 4, none⟩ = some (.int .i64 nu) := HR.out.rr.blk.cell 4
      have px : wr.cell? ⟨w.heap.size + 1 + 1, 0, none⟩ = some (.pointer (some ⟨w.heap.size + 1, 0, none⟩)) := HR.out.px.cell 0
      have r0 : wr.cell? ⟨w.heap.size, 0, none⟩ = some (.int .i64 0) := HR.out.rb.cell 0
      have r1 : wr.cell? ⟨w.heap.size, 1, none⟩ = some (.int .i64 0) := HR.out.rb.cell 1
      have f0 : wr.frozen? ⟨w.heap.size, 0, none⟩ = false := HR.out.rb.frozen 0
      have f1 : wr.frozen? ⟨w.heap.size, 1, none⟩ = false := HR.out.rb.frozen 1
      have HEND := Lib.hid (show srL s.data.toList = if nu < 0 then ([], [], 110, (s.size : Int)) else (ps, out ++ [shutS ps fr nu st], 0, 0) by
        rw [HQ.out]
        unfold srGo
        rw [if_neg (by rw [HSL.out.1]; omega)])
      by_cases hn : nu < 0
      · have dn : decide (nu < 0) = true := decide_eq_true hn
        have HBAD := Lib.hid (show srL s.data.toList = ([], [], 110, (s.size : Int)) by rw [HEND.out, if_pos hn])
        clear hn p7 p8 HEND HQ p3
        go_wp2
        exact rd_bad HR.out HBAD.out rfl rfl rfl
      · have dn : decide (nu < 0) = false := decide_eq_false hn
        have HOK := Lib.hid (show srL s.data.toList = (ps, out ++ [shutS ps fr nu st], 0, 0) by rw [HEND.out, if_neg hn])
        rw [if_neg hn] at p7
        have hnu : nu < (ps.length : Int) := by omega
        clear HEND HQ p3 f0 f1 r0 r1
        go_wp2_with fail
        refine (closed_any w (w.heap.size + 1) v0 v1 ps out vs (fr, nu, 0, st, false) wr HR.out.rr p5 (by omega) (by show (0 : Int) ≤ nu; omega) hnu).mono ?_
        rintro e w4 ⟨rfl, ⟨v1', hr⟩, ho⟩
        have hr4 := HR.out.turn hr ho (fun b hb => hb.elim .inl (fun h => .inr (.inr h)))
        have H4 := Lib.hid hr4
        clear hr ho hr4 x4 px
        have px : w4.cell? ⟨w.heap.size + 1 + 1, 0, none⟩ = some (.pointer (some ⟨w.heap.size + 1, 0, none⟩)) := H4.out.px.cell 0
        have y0 : w4.cell? ⟨w.heap.size + 1, 0, none⟩ = some v0 := H4.out.rr.blk.cell 0
        have y1 : w4.cell? ⟨w.heap.size + 1, 1, none⟩ = some v1' := H4.out.rr.blk.cell 1
        have r0 : w4.cell? ⟨w.heap.size, 0, none⟩ = some (.int .i64 0) := H4.out.rb.cell 0
        have r1 : w4.cell? ⟨w.heap.size, 1, none⟩ = some (.int .i64 0) := H4.out.rb.cell 1
        have f0 : w4.frozen? ⟨w.heap.size, 0, none⟩ = false := H4.out.rb.frozen 0
        have f1 : w4.frozen? ⟨w.heap.size, 1, none⟩ = false := H4.out.rb.frozen 1
        go_wp2
        go_region
        all_goals
          go_wp2
          exact rd_good H4.out HOK.out rfl rfl rfl
end Go.Proofs.Ytogofchpocoebaa
