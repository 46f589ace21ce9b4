/- Words for memory: a slice value that reads as a list of cells; facts on worlds that the walks use.
   Ranges over functions in plain walks: an iterator's contract by the number of its rounds; the caller's law; a function that leaves with marks among its deferred calls.
   Ranges over functions whose rounds make memory that they keep: the iterator's own blocks lie between its start and its first round.
   A region that draws its order and only reads, inside a round of a range over a function: one walk in the text's order.
   A region that draws its order, one walk in the text's order, where what it calls may make memory of its own: the class of worlds in which nothing of what was there has turned.
   A row's last step where the world behind the call is known by 'Below' alone (turned from the guide's page of small lemmas). -/
import Derived.WalkKit
import Derived.WalkSpells
import Derived.WalkLawsBesides
import Derived.Lib.Hide
import Derived.Deep.Light
import Derived.Lib.OthersKept
import Derived.Laws.OwnMore
import Derived.Deep.Draws
import Derived.RangeFuncNested
import Derived.Sort.BigQuietIn
import Derived.Below
import Derived.ChangeSame
import Derived.ProofKit
namespace Go.Proofs.Ytialpfmaekagjaa
open Go.RowKit

/-- The slice value '.slice A n c' holds the cells xs (sz cells an element), in a block from L on, below B. -/
def Rd (w : World) (L B sz : Nat) (A : Option Addr) (n : Nat) (xs : List Value) : Prop :=
  xs.length = n * sz ∧ (0 < n → ∃ b o, A = some ⟨b, o, none⟩ ∧ L ≤ b ∧ b < B ∧ ∀ j u, xs[j]? = some u → w.cell? ⟨b, o + j, none⟩ = some u)

section
variable {w w' : World} {L L' B B' sz n : Nat} {A : Option Addr} {xs : List Value}
theorem Rd.nil : Rd w L B sz A 0 [] := ⟨by simp, fun h => absurd h (by omega)⟩
theorem Rd.keep (h : Rd w L B sz A n xs) (hk : ∀ b o, L ≤ b → b < B → w'.cell? ⟨b, o, none⟩ = w.cell? ⟨b, o, none⟩) : Rd w' L B sz A n xs :=
  ⟨h.1, fun hn => by
    obtain ⟨b, o, e, hl, hb, hc⟩ := h.2 hn
    exact ⟨b, o, e, hl, hb, fun j u hu => (hk _ _ hl hb).trans (hc j u hu)⟩⟩
theorem Rd.more (h : Rd w L B sz A n xs) (hL : L' ≤ L) (hB : B ≤ B') : Rd w L' B' sz A n xs :=
  ⟨h.1, fun hn => by
    obtain ⟨b, o, e, hl, hb, hc⟩ := h.2 hn
    exact ⟨b, o, e, by omega, by omega, hc⟩⟩
theorem Rd.below (h : Rd w L B sz A n xs) (hb : Below B' w w') (hB : B ≤ B') : Rd w' L B sz A n xs :=
  h.keep fun b o _ hp => hb.cell (p := ⟨b, o, none⟩) (by simp; omega)
end

theorem ret_int {k : IntKind} {a b : Int} (h : a = b) : Ending.returned (.int k a) = .returned (.int k b) := by rw [h]
theorem ret_bool {a b : Bool} (h : a = b) : Ending.returned (.bool a) = .returned (.bool b) := by rw [h]

/-- the cells of a list of pairs of ints -/
def prs (l : List (Int × Int)) : List Value := l.flatMap fun p => [.int .i64 p.1, .int .i64 p.2]
theorem prs_len (l : List (Int × Int)) : (prs l).length = l.length * 2 := by
  induction l with
  | nil => rfl
  | cons a l ih => simp only [prs, List.flatMap_cons, List.length_append, List.length_cons, List.length_nil] at ih ⊢; omega
theorem prs_at (l : List (Int × Int)) (k : Nat) (h : k < l.length) : (prs l)[k * 2]? = some (.int .i64 l[k].1) ∧ (prs l)[k * 2 + 1]? = some (.int .i64 l[k].2) := by
  induction l generalizing k with
  | nil => simp at h
  | cons a l ih =>
    rcases k with _ | k
    · simp [prs]
    · have := ih k (by simpa using h)
      simp only [prs, List.flatMap_cons] at this ⊢
      rw [show (k + 1) * 2 = k * 2 + 2 by omega]
      simpa using this
theorem Rd.two {w : World} {L B n : Nat} {A : Option Addr} {l : List (Int × Int)} (h : Rd w L B 2 A n (prs l)) {k : Nat} (hk : k < n) :
    ∃ b o, ∃ hl : k < l.length, A = some ⟨b, o, none⟩ ∧ L ≤ b ∧ b < B ∧ w.cell? ⟨b, o + k * 2, none⟩ = some (.int .i64 l[k].1) ∧ w.cell? ⟨b, o + k * 2 + 1, none⟩ = some (.int .i64 l[k].2) := by
  have hn : l.length = n := by have := h.1; rw [prs_len] at this; omega
  obtain ⟨b, o, e, hl, hb, hc⟩ := h.2 (by omega)
  have hp := prs_at l k (by omega)
  exact ⟨b, o, by omega, e, hl, hb, hc _ _ hp.1, by rw [Nat.add_assoc]; exact hc _ _ hp.2⟩
theorem Rd.one {w : World} {L B n : Nat} {A : Option Addr} {l : List Int} (h : Rd w L B 1 A n (l.map (Value.int .i64))) {k : Nat} (hk : k < n) :
    ∃ b o, ∃ hl : k < l.length, A = some ⟨b, o, none⟩ ∧ L ≤ b ∧ b < B ∧ w.cell? ⟨b, o + k, none⟩ = some (.int .i64 l[k]) := by
  have hn : l.length = n := by have := h.1; simpa using this
  obtain ⟨b, o, e, hl, hb, hc⟩ := h.2 (by omega)
  exact ⟨b, o, by omega, e, hl, hb, hc _ _ (by simp [List.getElem?_eq_getElem (show k < l.length by omega)])⟩

theorem prs_append (a b : List (Int × Int)) : prs (a ++ b) = prs a ++ prs b := by simp [prs]
theorem prs_drop (l : List (Int × Int)) (N : Nat) (h : N ≤ l.length) : prs (l.drop N) = (prs l).drop (N * 2) := by
  have h1 : prs l = prs (l.take N) ++ prs (l.drop N) := by rw [← prs_append, List.take_append_drop]
  have h2 : N * 2 = (prs (l.take N)).length := by rw [prs_len, List.length_take]; omega
  rw [h1, h2, List.drop_left]
theorem Rd.cut2 {w : World} {L B n b o : Nat} {l : List (Int × Int)} (h : Rd w L B 2 (some ⟨b, o, none⟩) n (prs l)) {N : Nat} (hN : N ≤ n) : Rd w L B 2 (some ⟨b, o + N * 2, none⟩) (n - N) (prs (l.drop N)) := by
  have hn : l.length = n := by have := h.1; rw [prs_len] at this; omega
  refine ⟨by rw [prs_len, List.length_drop, hn], fun h0 => ?_⟩
  obtain ⟨b', o', e, hl, hb, hc⟩ := h.2 (by omega)
  injection e with e
  injection e with e1 e2
  subst e1 e2
  refine ⟨b, o + N * 2, rfl, hl, hb, fun j u hu => ?_⟩
  rw [prs_drop l N (by omega), List.getElem?_drop] at hu
  rw [Nat.add_assoc]
  exact hc _ _ hu
theorem Rd.zero {w : World} {L B sz : Nat} {A : Option Addr} {xs : List Value} (h : xs = []) : Rd w L B sz A 0 xs := ⟨by simp [h], fun h => absurd h (by omega)⟩

/-- Block g is just the cells cs of element type t, none frozen. -/
def Blk (w : World) (g : Nat) (t : TypeId) (cs : Array Value) : Prop := w.heap[g]? = some (.cells cs t (0, 0))

/-- Of the blocks that were there only those in S may have turned. -/
structure Only (S : Nat → Prop) (w w' : World) : Prop where
  os : w'.os = w.os
  tape : w'.tape = w.tape
  output : w'.output = w.output
  size : w.heap.size ≤ w'.heap.size
  block : ∀ k, k < w.heap.size → ¬ S k → w'.heap[k]? = w.heap[k]?

section
variable {w w' w2 : World} {g : Nat} {t : TypeId} {cs : Array Value} {S T : Nat → Prop}
theorem Blk.lt (h : Blk w g t cs) : g < w.heap.size := by
  rcases Nat.lt_or_ge g w.heap.size with hlt | hge
  · exact hlt
  · unfold Blk at h; rw [Array.getElem?_eq_none hge] at h; cases h
theorem Blk.cell (h : Blk w g t cs) (i : Nat) : w.cell? ⟨g, i, none⟩ = cs[i]? := cell_of_row w g i cs t (0, 0) h
theorem Blk.frozen (h : Blk w g t cs) (i : Nat) : w.frozen? ⟨g, i, none⟩ = false := by
  unfold Blk at h
  simp [World.frozen?, h]
theorem Blk.new (w : World) (t : TypeId) (cs : Array Value) : Blk (w.alloc (.cells cs t)) w.heap.size t cs := heap_alloc_new w _
theorem Blk.drew (h : Blk w g t cs) : Blk w.drew g t cs := h
theorem Blk.drewN (h : Blk w g t cs) (n : Nat) : Blk (w.drewN n) g t cs := h
theorem Blk.alloc (h : Blk w g t cs) (o : Obj) : Blk (w.alloc o) g t cs := (Below.heap_alloc w o g h.lt).trans h
theorem Blk.set_ (h : Blk w g t cs) (i : Nat) (u : Value) : Blk (w.setCell ⟨g, i, none⟩ u) g t (cs.setIfInBounds i u) := by
  unfold Blk at h ⊢
  simp [World.setCell, Array.getElem?_modify, h]
theorem Blk.far (h : Blk w g t cs) {p : Addr} (hp : g ≠ p.block) (u : Value) : Blk (w.setCell p u) g t cs := (Below.heap_setCell w p u g hp).trans h
theorem Blk.below {B : Nat} (h : Blk w g t cs) (hb : Below B w w') (hg : g < B) : Blk w' g t cs := (hb.block g hg).trans h
theorem Blk.only (h : Blk w g t cs) (hb : Only S w w') (hg : ¬ S g) : Blk w' g t cs := (hb.block g h.lt hg).trans h

theorem Only.refl (S : Nat → Prop) (w : World) : Only S w w := ⟨rfl, rfl, rfl, Nat.le_refl _, fun _ _ _ => rfl⟩
theorem Only.trans (h : Only S w w') (k : Only S w' w2) : Only S w w2 :=
  ⟨k.os.trans h.os, k.tape.trans h.tape, k.output.trans h.output, Nat.le_trans h.size k.size, fun i hi hs => (k.block i (Nat.lt_of_lt_of_le hi h.size) hs).trans (h.block i hi hs)⟩
theorem Only.weak (h : Only S w w') (hst : ∀ k, k < w.heap.size → S k → T k) : Only T w w' := ⟨h.os, h.tape, h.output, h.size, fun k hk hs => h.block k hk fun h' => hs (hst k hk h')⟩
theorem Only.drew (h : Only S w w') : Only S w w'.drew := ⟨h.os, h.tape, h.output, h.size, h.block⟩
theorem Only.drewN (h : Only S w w') (n : Nat) : Only S w (w'.drewN n) := ⟨h.os, h.tape, h.output, h.size, h.block⟩
theorem Only.alloc (h : Only S w w') (o : Obj) : Only S w (w'.alloc o) :=
  ⟨h.os, h.tape, h.output, Nat.le_trans h.size (by simp), fun k hk hs => (Below.heap_alloc _ _ _ (Nat.lt_of_lt_of_le hk h.size)).trans (h.block k hk hs)⟩
theorem Only.setCell (h : Only S w w') {p : Addr} (hp : S p.block ∨ w.heap.size ≤ p.block) (u : Value) : Only S w (w'.setCell p u) :=
  ⟨h.os, h.tape, h.output, by simpa [World.setCell] using h.size, fun k hk hs => (Below.heap_setCell _ _ _ _ (by
    rintro rfl
    rcases hp with hp | hp
    · exact hs hp
    · omega)).trans (h.block k hk hs)⟩
theorem Only.of_below (h : Below w.heap.size w w') (S : Nat → Prop) : Only S w w' := ⟨h.os, h.tape, h.output, h.size, fun k hk _ => h.block k hk⟩
theorem Only.below (h : Only S w w') {B : Nat} (hB : B ≤ w.heap.size) (hS : ∀ k, k < B → ¬ S k) : Below B w w' := ⟨h.os, h.tape, h.output, h.size, fun k hk => h.block k (by omega) (hS k hk)⟩
theorem Only.then_below (h : Only S w w') (k : Below w'.heap.size w' w2) : Only S w w2 := h.trans (Only.of_below k S)
theorem Only.grown {row : Option Nat} (h : Only S w w') (hg : w'.grownBy w2 row) (hr : ∀ g, row = some g → S g ∨ w.heap.size ≤ g) : Only S w w2 :=
  ⟨hg.os.trans h.os, hg.tape.trans h.tape, hg.output.trans h.output, Nat.le_trans h.size hg.size, fun k hk hs => (hg.block k (Nat.lt_of_lt_of_le hk h.size) (fun e => by
    rcases hr k e.symm with h1 | h1
    · exact hs h1
    · omega)).trans (h.block k hk hs)⟩
theorem Only.cell (h : Only S w w') {b o : Nat} (hb : b < w.heap.size) (hs : ¬ S b) : w'.cell? ⟨b, o, none⟩ = w.cell? ⟨b, o, none⟩ := World.cell?_of_block (w := w) (h.block b hb hs)
end

/-- the world behind a piece of code under one name, with what is known of it -/
theorem wp_abs {P : Program} {c : Code} {Q : Exit → Act → World → Prop} {a : Act} {W : World} (F : World → Prop) (hF : F W) (h : ∀ w, F w → c.wp P Q a w) : c.wp P Q a W := h W hF
theorem rounds_abs {P : Program} {c : Code} {Q : Exit → Act → World → Prop} {n : Nat} {a : Act} {W : World} (F : World → Prop) (hF : F W) (h : ∀ w, F w → Code.rounds P c Q n a w) : Code.rounds P c Q n a W := h W hF
theorem list_abs {P : Program} {ops : Array Oper} {Q : Exit → Act → World → Prop} {l : List Oper} {a : Act} {W : World} (F : World → Prop) (hF : F W) (h : ∀ w, F w → wpList P ops Q l a w) : wpList P ops Q l a W := h W hF

theorem cell_iterAt (w : World) (k : Nat) (s : ByteArray) (pos b o : Nat) (h : b ≠ k) : (w.iterAt k s pos).cell? ⟨b, o, none⟩ = w.cell? ⟨b, o, none⟩ :=
  World.cell?_of_block (w := w) (Lib.iterAt_other w k b s pos h)
theorem frozen_iterAt (w : World) (k : Nat) (s : ByteArray) (pos b o : Nat) (h : b ≠ k) : (w.iterAt k s pos).frozen? ⟨b, o, none⟩ = w.frozen? ⟨b, o, none⟩ :=
  World.frozen?_of_block (w := w) (Lib.iterAt_other w k b s pos h)
theorem Blk.iterAt {w : World} {g : Nat} {t : TypeId} {cs : Array Value} (h : Blk w g t cs) {k : Nat} (hk : g ≠ k) (s : ByteArray) (pos : Nat) : Blk (w.iterAt k s pos) g t cs := (Lib.iterAt_other w k g s pos hk).trans h
theorem Only.iterAt {S : Nat → Prop} {w w' : World} (h : Only S w w') {k : Nat} (hk : S k ∨ w.heap.size ≤ k) (s : ByteArray) (pos : Nat) : Only S w (w'.iterAt k s pos) :=
  ⟨h.os, h.tape, h.output, by rw [Lib.iterAt_size]; exact h.size, fun i hi hs => (Lib.iterAt_other _ _ _ _ _ (by
    rintro rfl
    rcases hk with hk | hk
    · exact hs hk
    · omega)).trans (h.block i hi hs)⟩
theorem Blk.iter {w : World} {g : Nat} {t : TypeId} {cs : Array Value} (h : Blk w g t cs) (s : ByteArray) (pos : Nat) : Blk (w.iter s pos) g t cs := h.alloc _
theorem Only.iter {S : Nat → Prop} {w w' : World} (h : Only S w w') (s : ByteArray) (pos : Nat) : Only S w (w'.iter s pos) := h.alloc _

theorem width_pos (s : ByteArray) (pos : Nat) (h : pos < s.size) : 1 ≤ (Utf8.decode s pos).2 := by
  by_cases ha : (s[pos]'h).toNat < 128
  · rw [decode_ascii s pos h ha]
    exact Nat.le_refl _
  · exact (decode_high s pos h (by omega)).2

theorem str_ne (s : ByteArray) (h : 0 < s.size) : s.toList.isEmpty = false ∧ (s.toList = []) = False := by
  have hl : s.toList.length = s.size := by rw [ByteArray.toList_eq]; simp
  constructor
  · cases hs : s.toList with
    | nil => rw [hs] at hl; simp at hl; omega
    | cons a l => rfl
  · simp only [eq_iff_iff, iff_false]
    intro hs
    rw [hs] at hl
    simp at hl
    omega
theorem str_eq (s : ByteArray) (h : s.size = 0) : s.toList = [] := by
  have hl : s.toList.length = s.size := by rw [ByteArray.toList_eq]; simp
  exact List.eq_nil_of_length_eq_zero (by omega)

/-- As Q; by a goto to label l: J l. -/
def Exit.jumps (J : Nat → Act → World → Prop) (Q : Exit → Act → World → Prop) : Exit → Act → World → Prop
  | .goto l, a, w => J l a w
  | e, a, w => Q e a w

/-- A scope with whatever jumps among its labels: what holds at each label, with a measure that every pass lowers. -/
theorem wp_scope_labels {P : Program} {c : Code} {Q : Exit → Act → World → Prop} {a : Act} {w : World} (J : Nat → Nat → Act → World → Prop)
    (first : c.wp P (Exit.jumps (fun l a' w' => ∃ m, J l m a' w') Q) a w)
    (pass : ∀ m l a w, J l m a w → ∃ rest, findLabel c l = some rest ∧ rest.wp P (Exit.jumps (fun l' a' w' => ∃ m', m' < m ∧ J l' m' a' w') Q) a w) : (Code.scope c).wp P Q a w := by
  intro b k cs
  have key : ∀ m l a w, J l m a w → ∃ k', gotoIn l (.inScope c :: k) = some k' ∧ ∃ e a' w', Q e a' w' ∧ Arrives P (lone (b.at a k') cs w) b k cs e a' w' := by
    intro m
    induction m using Nat.strongRecOn with
    | _ m ih =>
      intro l a w hJ
      obtain ⟨rest, hf, hr⟩ := pass m l a w hJ
      have hg : gotoIn l (.inScope c :: k) = some (.code rest :: .inScope c :: k) := by simp [gotoIn, hf]
      refine ⟨_, hg, ?_⟩
      obtain ⟨e, a₁, w₁, hq, harr⟩ := hr b (.inScope c :: k) cs
      cases e with
      | normal => exact ⟨.normal, a₁, w₁, hq, Steps.trans harr (.one step_inScope)⟩
      | exit id => exact ⟨.exit id, a₁, w₁, hq, fun k' hk => harr k' (by simp [exitTo, hk])⟩
      | goto l' =>
        obtain ⟨m', hlt, hJ'⟩ := hq
        obtain ⟨k', hk', e₂, a₂, w₂, hq₂, harr₂⟩ := ih m' hlt l' a₁ w₁ hJ'
        exact ⟨e₂, a₂, w₂, hq₂, .of_steps (harr _ hk') harr₂⟩
      | ret => exact ⟨_, a₁, w₁, hq, harr⟩
      | panic ch => exact ⟨_, a₁, w₁, hq, harr⟩
      | outgrown => exact ⟨_, a₁, w₁, hq, harr⟩
  obtain ⟨e, a₁, w₁, hq, harr⟩ := first b (.inScope c :: k) cs
  cases e with
  | normal => exact ⟨.normal, a₁, w₁, hq, .head step_scope (Steps.trans harr (.one step_inScope))⟩
  | exit id => exact ⟨.exit id, a₁, w₁, hq, fun k' hk => .head step_scope (harr k' (by simp [exitTo, hk]))⟩
  | goto l' =>
    obtain ⟨m, hJ'⟩ := hq
    obtain ⟨k', hk', e₂, a₂, w₂, hq₂, harr₂⟩ := key m l' a₁ w₁ hJ'
    exact ⟨e₂, a₂, w₂, hq₂, .of_steps (.head step_scope (harr _ hk')) harr₂⟩
  | ret => exact ⟨_, a₁, w₁, hq, .of_steps (.one step_scope) harr⟩
  | panic ch => exact ⟨_, a₁, w₁, hq, .of_steps (.one step_scope) harr⟩
  | outgrown => exact ⟨_, a₁, w₁, hq, .of_steps (.one step_scope) harr⟩

theorem own_slice {w : World} {base : Nat} {e : TypeId} {size : Nat} {v : Value} {n : Nat} {xs : List Value} (h : w.ownsRow base e size v n xs) : ∃ A c, v = .slice A n c := by
  rcases h.2 with ⟨rfl, rfl⟩ | ⟨g, cap, cur, rfl, _⟩
  · exact ⟨none, 0, rfl⟩
  · exact ⟨_, cap, rfl⟩
theorem own_ne {w : World} {b1 b2 : Nat} {e1 e2 : TypeId} {s1 s2 : Nat} {v1 v2 : Value} {n1 n2 : Nat} {x1 x2 : List Value} (h1 : w.ownsRow b1 e1 s1 v1 n1 x1) (h2 : w.ownsRow b2 e2 s2 v2 n2 x2) (he : e1 ≠ e2) :
    v1.ownBlock = none ∨ v1.ownBlock ≠ v2.ownBlock := by
  rcases h1.2 with ⟨rfl, _⟩ | ⟨g, cap, cur, rfl, _, hg, _⟩
  · exact .inl rfl
  · right
    rcases h2.2 with ⟨rfl, _⟩ | ⟨g', cap', cur', rfl, _, hg', _⟩
    · simp [Value.ownBlock]
    · intro hh
      have : g = g' := by simpa [Value.ownBlock] using hh
      subst this
      rw [hg] at hg'
      injection hg' with hg'
      injection hg' with _ ht
      exact he ht
/-- an owned row in a world of which only blocks in S have turned -/
theorem own_only {w w' : World} {S : Nat → Prop} {base : Nat} {e : TypeId} {size : Nat} {v : Value} {n : Nat} {xs : List Value} (h : w.ownsRow base e size v n xs) (ho : Only S w w') (hS : ∀ k, base ≤ k → k < w.heap.size → v.ownBlock = some k → ¬ S k) : w'.ownsRow base e size v n xs := by
  refine ⟨h.1, ?_⟩
  rcases h.2 with h0 | ⟨g, cap, cur, hv, hb, hg, rest⟩
  · exact .inl h0
  · have hlt : g < w.heap.size := by
      rcases Nat.lt_or_ge g w.heap.size with hlt | hge
      · exact hlt
      · rw [Array.getElem?_eq_none hge] at hg; cases hg
    exact .inr ⟨g, cap, cur, hv, hb, (ho.block g hlt (hS g hb hlt (by rw [hv]; rfl))).trans hg, rest⟩
theorem own_setCell {w : World} {base : Nat} {e : TypeId} {size : Nat} {v : Value} {n : Nat} {xs : List Value} (h : w.ownsRow base e size v n xs) {p : Addr} (hp : p.block < base) (u : Value) : (w.setCell p u).ownsRow base e size v n xs :=
  ownsRow_setCell_below h hp u
theorem own_rd {w : World} {base : Nat} {e : TypeId} {size : Nat} {A : Option Addr} {c n : Nat} {xs : List Value} (h : w.ownsRow base e size (.slice A n c) n xs) : Rd w base w.heap.size size A n xs := by
  refine ⟨h.1, fun hn => ?_⟩
  rcases h.2 with ⟨_, h0⟩ | ⟨g, cap, cur, hv, hb, hg, _⟩
  · omega
  · have hA : A = some ⟨g, 0, none⟩ := by injection hv
    subst hA
    refine ⟨g, 0, rfl, hb, (Array.getElem?_eq_some_iff.1 hg).1, fun j u hu => ?_⟩
    have := h.cells (g := g) rfl j u hu
    have hadd : (⟨g, 0, none⟩ : Addr).add j = ⟨g, j, none⟩ := by unfold Addr.add; split <;> simp_all
    rw [hadd] at this
    rw [Nat.zero_add]
    exact this
theorem own_more {w : World} {base base' : Nat} {e : TypeId} {size : Nat} {v : Value} {n : Nat} {xs : List Value} (h : w.ownsRow base e size v n xs) (hb : base' ≤ base) : w.ownsRow base' e size v n xs := by
  refine ⟨h.1, ?_⟩
  rcases h.2 with h0 | ⟨g, cap, cur, hv, hbb, rest⟩
  · exact .inl h0
  · exact .inr ⟨g, cap, cur, hv, by omega, rest⟩

theorem drop_at {α} (l : List α) (k : Nat) (h : k < l.length) : l.drop k = l[k] :: l.drop (k + 1) := List.drop_eq_getElem_cons h

theorem iter_setCell (w : World) (s : ByteArray) (pos : Nat) (a : Addr) (v : Value) (h : a.block < w.heap.size) : (w.iter s pos).setCell a v = (w.setCell a v).iter s pos := by
  unfold World.iter World.alloc World.setCell
  congr 1
  apply Array.ext_getElem?
  intro i
  simp only [Array.getElem?_modify, Array.getElem?_push, Array.size_modify]
  by_cases h1 : i = w.heap.size
  · subst h1
    simp [Nat.ne_of_lt h]
  · simp [h1]
theorem iter_below (w : World) (s : ByteArray) (pos : Nat) : Below w.heap.size w (w.iter s pos) := (Below.refl _ _).alloc (Nat.le_refl _) _

end Go.Proofs.Ytialpfmaekagjaa

namespace Go.Proofs.Ytialpfmaekagjaa
open Go.RowKit

section
variable {P : Program}

def Abide (B : Nat) (J : Nat → World → Prop) : Prop := ∀ k A A', J k A → Below B A A' → J k A'

/-- An iterator's contract: N rounds; X: what it says of a round's arguments; T: the blocks of what it hands over, which the round may write; C: the blocks ahead of it that it reads. -/
def Gives (P : Program) (gf : FuncId) (lb : Array Value) (N : Nat) (X : Nat → Nat → Array Value → World → Prop) (T : Array Value → Nat → Prop) (C : Nat → Prop) (W : World) : Prop :=
  ∀ (l : Nat) (J Jx : Nat → World → Prop), Abide W.heap.size J → Abide W.heap.size Jx →
    (∀ k args W1, k < N → J k W1 → W.heap.size ≤ W1.heap.size → X W.heap.size k args W1 → YieldAt Fence.wide 0 P l args W1 fun e W' =>
      (e = .returned (.bool true) ∧ J (k + 1) W' ∧ Only (fun b => (b < W.heap.size ∧ ¬ C b) ∨ T args b) W1 W') ∨ (e = .returned (.bool false) ∧ Jx (k + 1) W' ∧ Only (fun b => (b < W.heap.size ∧ ¬ C b) ∨ T args b) W1 W')) →
    J 0 W →
    Calls P gf (#[.func (.yield l) #[] #[]] ++ lb) W fun e W' => (∃ v, e = .returned v) ∧ (J N W' ∨ ∃ k, 0 < k ∧ k ≤ N ∧ Jx k W')

/-- How a round may be left. -/
def roundQ (B : Nat) (T : Array Value → Nat → Prop) (C : Nat → Prop) (I : Nat → World → Prop) (Ix : Code → Nat → World → Prop) (k : Nat) (args : Array Value) (W : World) : Exit → Act → World → Prop
  | .normal, _, W' => Only (fun b => (b < B ∧ ¬ C b) ∨ T args b) W W' ∧ I (k + 1) W'
  | .ret, _, W' => Only (fun b => (b < B ∧ ¬ C b) ∨ T args b) W W' ∧ Ix .ret (k + 1) W'
  | .exit id, _, W' => Only (fun b => (b < B ∧ ¬ C b) ∨ T args b) W W' ∧ Ix (.exit id) (k + 1) W'
  | .goto t, _, W' => Only (fun b => (b < B ∧ ¬ C b) ∨ T args b) W W' ∧ Ix (.goto t) (k + 1) W'
  | .panic _, _, _ => False
  | .outgrown, _, _ => False

theorem only_putObj (W : World) (l : Nat) (o : Obj) : Only (fun b => b = l) W (W.putObj l o) :=
  ⟨rfl, rfl, rfl, by simp, fun _ _ hk => World.putObj_heap_other hk⟩
theorem below_putObj {B : Nat} (W : World) {l : Nat} (o : Obj) (h : B ≤ l) : Below B W (W.putObj l o) :=
  ⟨rfl, rfl, rfl, by simp, fun _ hk => World.putObj_heap_other (by omega)⟩

theorem wp_range {g : Operand} {ps : Array Tmp} {assign body : Code} {Q : Exit → Act → World → Prop} {a : Act} {w : World} {gf : FuncId} {lb : Array Value} {N : Nat} {X : Nat → Nat → Array Value → World → Prop} {T : Array Value → Nat → Prop} {C : Nat → Prop}
    (hg : a.eval g = .func (.func gf) #[] lb) (eg : ∀ args w, (callFunc gf args).run P w = .ok (.enter gf args) w)
    (hseq : ∀ W, Below w.heap.size w W → W.heap.size = w.heap.size + 2 → Gives P gf lb N X T C W) (hC : ∀ b, C b → b < w.heap.size)
    (hX : ∀ k args W, X (w.heap.size + 2) k args W → args.size = ps.size ∧ ∀ b, T args b → w.heap.size + 2 ≤ b)
    (I : Nat → World → Prop) (Ix : Code → Nat → World → Prop) (hI : Abide w.heap.size I) (hIx : ∀ c, Abide w.heap.size (Ix c)) (h0 : I 0 w)
    (Ax : Nat → Array Value → Act → World → Prop)
    (hAx : ∀ k args a' A A', Ax k args a' A → Only (fun b => b = w.heap.size + 1) A A' → A'.heap.size = A.heap.size → w.heap.size + 2 ≤ A.heap.size → Ax k args a' A')
    (hassign : ∀ l k args W, k < N → I k W → X (w.heap.size + 2) k args W → w.heap.size + 2 ≤ W.heap.size →
      assign.wpIn (Fence.wide.inRound l) 0 P (Exit.then (fun a₁ W₁ => Only (fun b => b < w.heap.size ∧ ¬ C b) W W₁ ∧ Ax k args a₁ W₁) (fun _ _ _ => False)) { tmps := (ps.zip args).foldl (fun t (p, v) => t.setIfInBounds p v) a.tmps, defers := [] } W)
    (hbody : ∀ l k args a₁ W, k < N → Ax k args a₁ W → w.heap.size + 2 ≤ W.heap.size → body.wpIn (Fence.wide.inRound l) 0 P (roundQ w.heap.size T C I Ix k args W) a₁ W)
    (hdone : ∀ W, I N W → W.heap[w.heap.size]? = some (.deferred (some [])) → Q .normal { a with defers := { target := .collected w.heap.size, args := #[] } :: a.defers } W)
    (hstop : ∀ c k W, 0 < k → k ≤ N → Ix c k W → W.heap[w.heap.size]? = some (.deferred (some [])) → c.wp P Q { a with defers := { target := .collected w.heap.size, args := #[] } :: a.defers } W) :
    (Code.rangeFunc g ps assign body).wp P Q a w := by
  refine (wpIn_wide (n := 0)).1 (wpIn_rangeFunc ?_)
  intro fn hfn
  obtain ⟨rec, hrec⟩ : ∃ rec : LoopState → Option Code → Loop, rec = fun st pe => { state := st, pending := pe, fn, tmps := a.tmps, params := ps, assign, body, defers := w.heap.size } := ⟨_, rfl⟩
  obtain ⟨W1, hW1⟩ : ∃ W1, (w.alloc (.deferred (some []))).alloc (.loop (rec .ready none)) = W1 := ⟨_, rfl⟩
  have hL1 : W1.heap[w.heap.size + 1]? = some (.loop (rec .ready none)) := by
    rw [← hW1]; have := World.alloc_heap_new (w.alloc (.deferred (some []))) (.loop (rec .ready none)); rwa [World.size_alloc] at this
  have hK1 : W1.heap[w.heap.size]? = some (.deferred (some [])) := by
    rw [← hW1]; exact (Below.heap_alloc _ _ _ (by simp)).trans (World.alloc_heap_new w _)
  have hb1 : Below w.heap.size w W1 := by
    rw [← hW1]; exact ((Below.refl _ w).alloc (Nat.le_refl _) _).alloc (by simp) _
  have hz1 : W1.heap.size = w.heap.size + 2 := by rw [← hW1]; simp
  have hI1 : I 0 W1 := hI _ _ _ h0 hb1
  refine ⟨w.heap.size + 1, [{ target := .collected w.heap.size, args := #[] }], W1, { target := .fn (.func gf) lb, args := #[.func (.yield (w.heap.size + 1)) #[] #[]] }, W1, gf,
    #[.func (.yield (w.heap.size + 1)) #[] #[]] ++ lb, W1, ?_, ?_, ?_, ?_, ?_, ?_⟩
  · rw [← hW1, hrec]; exact run_enterLoop_outer _ _ _ _ _
  · simp only [resolve, hg]
    simp [go_sem]
  · intro _ _; trivial
  · simp [invoke, go_sem, eg]
  · intro h; cases h
  · refine callsIn_wide.2 ((hseq W1 hb1 hz1 (w.heap.size + 1)
      (fun k W => I k W ∧ W.heap[w.heap.size + 1]? = some (.loop (rec .ready none)) ∧ W.heap[w.heap.size]? = some (.deferred (some [])))
      (fun k W => ∃ c, Ix c k W ∧ W.heap[w.heap.size + 1]? = some (.loop (rec .done (some c))) ∧ W.heap[w.heap.size]? = some (.deferred (some [])))
      (fun k A A' h hb => ⟨hI _ _ _ h.1 (hb.mono (by omega)), (hb.block _ (by omega)).trans h.2.1, (hb.block _ (by omega)).trans h.2.2⟩)
      (fun k A A' h hb => by
        obtain ⟨c, hc, hl, hk⟩ := h
        exact ⟨c, hIx _ _ _ _ hc (hb.mono (by omega)), (hb.block _ (by omega)).trans hl, (hb.block _ (by omega)).trans hk⟩)
      ?_ ⟨hI1, hL1, hK1⟩).mono ?_)
    · rintro k args W hkN ⟨hi, hl, hk⟩ hsz hx
      rw [hz1] at hsz hx
      obtain ⟨hps, hTB⟩ := hX k args W hx
      have hlt : w.heap.size + 1 < W.heap.size := (Array.getElem?_eq_some_iff.1 hl).1
      have hy := run_yield (P := P) (args := args) hl (by rw [hrec]; exact hps)
      rw [hrec] at hy
      refine ⟨fn, _, assign, body, hy, roundIn_of_wpIn hfn (wpIn_mono (hassign _ k args W hkN hi hx hsz) ?_)⟩
      clear hy
      intro e a₁ Wa hpost
      cases e <;> try exact hpost
      obtain ⟨hoa, hax⟩ := hpost
      have hla := (hoa.block _ (by omega) (by omega)).trans hl
      have hka := (hoa.block _ (by omega) (by omega)).trans hk
      have hsa := Nat.le_trans hsz hoa.size
      refine ⟨_, run_beginRound hla (by rw [hrec]), ?_⟩
      have ho2 := only_putObj Wa (w.heap.size + 1) (.loop { rec .ready none with state := .busy })
      have hl2 : (Wa.putObj (w.heap.size + 1) (.loop { rec .ready none with state := .busy })).heap[w.heap.size + 1]? = some (.loop { rec .ready none with state := .busy }) := World.putObj_heap_same (by omega)
      have hk2 : (Wa.putObj (w.heap.size + 1) (.loop { rec .ready none with state := .busy })).heap[w.heap.size]? = some (.deferred (some [])) := (World.putObj_heap_other (by omega)).trans hka
      have hs2 : (Wa.putObj (w.heap.size + 1) (.loop { rec .ready none with state := .busy })).heap.size = Wa.heap.size := World.putObj_size
      have hax2 := hAx k args a₁ _ _ hax ho2 hs2 hsa
      refine wpIn_mono (hbody _ k args a₁ _ hkN hax2 (by rw [World.putObj_size]; exact hsa)) ?_
      have fin : ∀ (jump : Option Code) (W3 : World), Only (fun b => (b < w.heap.size ∧ ¬ C b) ∨ T args b) (Wa.putObj (w.heap.size + 1) (.loop { rec .ready none with state := .busy })) W3 →
          (Instr.endRound (w.heap.size + 1) jump).run P W3 = .ok (.bool jump.isNone) (W3.putObj (w.heap.size + 1) (.loop (rec (if jump.isNone then .ready else .done) jump))) ∧
          (W3.putObj (w.heap.size + 1) (.loop (rec (if jump.isNone then .ready else .done) jump))).heap[w.heap.size + 1]? = some (.loop (rec (if jump.isNone then .ready else .done) jump)) ∧
          (W3.putObj (w.heap.size + 1) (.loop (rec (if jump.isNone then .ready else .done) jump))).heap[w.heap.size]? = some (.deferred (some [])) ∧
          Only (fun b => (b < w.heap.size + 2 ∧ ¬ C b) ∨ T args b) W (W3.putObj (w.heap.size + 1) (.loop (rec (if jump.isNone then .ready else .done) jump))) := fun jump W3 h3 => by
        have hn1 : ¬ ((w.heap.size + 1 < w.heap.size ∧ ¬ C (w.heap.size + 1)) ∨ T args (w.heap.size + 1)) := fun h => by
          rcases h with h | h
          · omega
          · have := hTB _ h; omega
        have hn0 : ¬ ((w.heap.size < w.heap.size ∧ ¬ C w.heap.size) ∨ T args w.heap.size) := fun h => by
          rcases h with h | h
          · omega
          · have := hTB _ h; omega
        have hl3 := (h3.block _ (by omega) hn1).trans hl2
        have hk3 := (h3.block _ (by omega) hn0).trans hk2
        have := run_endRound (P := P) jump hl3
        rw [hrec] at this ⊢
        refine ⟨this, World.putObj_heap_same (Array.getElem?_eq_some_iff.1 hl3).1, (World.putObj_heap_other (by omega)).trans hk3, ?_⟩
        have hCl : ¬ C (w.heap.size + 1) := fun h => by have := hC _ h; omega
        have q1 : Only (fun b => (b < w.heap.size + 2 ∧ ¬ C b) ∨ T args b) W Wa := hoa.weak (fun k _ hk => .inl ⟨by omega, hk.2⟩)
        have q2 : Only (fun b => (b < w.heap.size + 2 ∧ ¬ C b) ∨ T args b) Wa _ := ho2.weak (fun k _ hk => .inl ⟨by omega, by rw [hk]; exact hCl⟩)
        have q3 : Only (fun b => (b < w.heap.size + 2 ∧ ¬ C b) ∨ T args b) _ W3 := h3.weak (fun k _ hk => hk.elim (fun h => .inl ⟨by omega, h.2⟩) .inr)
        have q4 : Only (fun b => (b < w.heap.size + 2 ∧ ¬ C b) ∨ T args b) W3 _ := (only_putObj W3 (w.heap.size + 1) (.loop (rec (if jump.isNone then .ready else .done) jump))).weak (fun k _ hk => .inl ⟨by omega, by rw [hk]; exact hCl⟩)
        rw [hrec] at q2 q3 q4
        exact (q1.trans q2).trans (q3.trans q4)
      rintro e a3 W3 hp
      cases e with
      | normal =>
        obtain ⟨h3, hi3⟩ := hp
        obtain ⟨hr, hl4, hk4, ho4⟩ := fin none W3 h3
        exact ⟨_, _, hr, .inl ⟨rfl, ⟨hI _ _ _ hi3 (below_putObj _ _ (by omega)), hl4, hk4⟩, by rw [hz1]; exact ho4⟩⟩
      | ret =>
        obtain ⟨h3, hi3⟩ := hp
        obtain ⟨hr, hl4, hk4, ho4⟩ := fin (some .ret) W3 h3
        exact ⟨_, _, hr, .inr ⟨rfl, ⟨.ret, hIx _ _ _ _ hi3 (below_putObj _ _ (by omega)), hl4, hk4⟩, by rw [hz1]; exact ho4⟩⟩
      | exit id =>
        obtain ⟨h3, hi3⟩ := hp
        obtain ⟨hr, hl4, hk4, ho4⟩ := fin (some (.exit id)) W3 h3
        exact ⟨_, _, hr, .inr ⟨rfl, ⟨.exit id, hIx _ _ _ _ hi3 (below_putObj _ _ (by omega)), hl4, hk4⟩, by rw [hz1]; exact ho4⟩⟩
      | goto t =>
        obtain ⟨h3, hi3⟩ := hp
        obtain ⟨hr, hl4, hk4, ho4⟩ := fin (some (.goto t)) W3 h3
        exact ⟨_, _, hr, .inr ⟨rfl, ⟨.goto t, hIx _ _ _ _ hi3 (below_putObj _ _ (by omega)), hl4, hk4⟩, by rw [hz1]; exact ho4⟩⟩
      | panic ch => exact hp.elim
      | outgrown => exact hp.elim
    · rintro e W2 ⟨⟨v, rfl⟩, (⟨hi, hl, hk⟩ | ⟨k, hk0, hkN, c, hi, hl, hk⟩)⟩
      · exact ⟨none, _, by have := run_endLoop (P := P) hl (by rw [hrec]; simp); rw [hrec] at this; exact this, hdone _ (hI _ _ _ hi (below_putObj _ _ (by omega))) ((World.putObj_heap_other (by omega)).trans hk)⟩
      · exact ⟨some c, _, by have := run_endLoop (P := P) hl (by rw [hrec]; simp); rw [hrec] at this; exact this, wpIn_wide.2 (hstop c k _ hk0 hkN (hIx _ _ _ _ hi (below_putObj _ _ (by omega))) ((World.putObj_heap_other (by omega)).trans hk))⟩

/-- a range over a function that hands over nothing -/
theorem wp_range_none {g : Operand} {ps : Array Tmp} {assign body : Code} {Q : Exit → Act → World → Prop} {a : Act} {w : World} {gf : FuncId} {lb : Array Value}
    (hg : a.eval g = .func (.func gf) #[] lb) (eg : ∀ args w, (callFunc gf args).run P w = .ok (.enter gf args) w)
    (hseq : ∀ W, Below w.heap.size w W → W.heap.size = w.heap.size + 2 → Gives P gf lb 0 (fun _ _ _ _ => False) (fun _ _ => False) (fun _ => False) W)
    (hdone : ∀ W, Below w.heap.size w W → W.heap[w.heap.size]? = some (.deferred (some [])) → Q .normal { a with defers := { target := .collected w.heap.size, args := #[] } :: a.defers } W) :
    (Code.rangeFunc g ps assign body).wp P Q a w :=
  wp_range (N := 0) hg eg hseq (fun _ h => h.elim) (fun _ _ _ h => h.elim) (fun _ W => Below w.heap.size w W) (fun _ _ _ => False) (fun _ _ _ h hb => h.trans hb) (fun _ _ _ _ h _ => h) (Below.refl _ _) (fun _ _ _ _ => False)
    (fun _ _ _ _ _ h _ _ _ => h.elim) (fun _ _ _ _ h => absurd h (Nat.not_lt_zero _)) (fun _ _ _ _ _ h => absurd h (Nat.not_lt_zero _)) hdone (fun _ _ _ _ _ h => h.elim)

/-- the marks among an activation's deferred calls: blocks from B on, each open and named once -/
def Marks (B : Nat) : List Deferred → World → Prop
  | [], _ => True
  | d :: ds, w => ∃ r, d.target = .collected r ∧ B ≤ r ∧ w.heap[r]? = some (.deferred (some [])) ∧ (∀ d' ∈ ds, d'.target ≠ .collected r) ∧ Marks B ds w
theorem Marks.keep {B : Nat} : ∀ {ds : List Deferred} {w w' : World}, Marks B ds w → (∀ r, B ≤ r → w.heap[r]? = some (.deferred (some [])) → (∃ d ∈ ds, d.target = .collected r) → w'.heap[r]? = some (.deferred (some []))) → Marks B ds w' := by
  intro ds
  induction ds with
  | nil => intro w w' _ _; trivial
  | cons d ds ih =>
    rintro w w' ⟨r, h1, h2, h3, h4, h5⟩ hk
    exact ⟨r, h1, h2, hk r h2 h3 ⟨d, by simp, h1⟩, h4, ih h5 fun r' hb hd ⟨d', hd', ht⟩ => hk r' hb hd ⟨d', by simp [hd'], ht⟩⟩
theorem Marks.only {B : Nat} {ds : List Deferred} {w w' : World} {S : Nat → Prop} (h : Marks B ds w) (ho : Only S w w') (hS : ∀ r, w.heap[r]? = some (.deferred (some [])) → ¬ S r) : Marks B ds w' :=
  h.keep fun r _ hr _ => (ho.block r (Array.getElem?_eq_some_iff.1 hr).1 (hS r hr)).trans hr
theorem Marks.below {B : Nat} {ds : List Deferred} {w w' : World} (h : Marks B ds w) (hb : Below w.heap.size w w') : Marks B ds w' :=
  h.keep fun r _ hr _ => (hb.block r (Array.getElem?_eq_some_iff.1 hr).1).trans hr
theorem Marks.lt {B : Nat} : ∀ {ds : List Deferred} {w : World}, Marks B ds w → ∀ d ∈ ds, ∃ r, d.target = .collected r ∧ r < w.heap.size := by
  intro ds
  induction ds with
  | nil => intro w _ d hd; simp at hd
  | cons d ds ih =>
    rintro w ⟨r, h1, h2, h3, h4, h5⟩ d' hd'
    rcases List.mem_cons.1 hd' with rfl | hd'
    · exact ⟨r, h1, (Array.getElem?_eq_some_iff.1 h3).1⟩
    · exact ih h5 d' hd'
/-- one mark more, of a block that was not there -/
theorem Marks.more {B : Nat} {ds : List Deferred} {w w' : World} (h : Marks B ds w) (hb : Below w.heap.size w w') (hB : B ≤ w.heap.size) (hk : w'.heap[w.heap.size]? = some (.deferred (some []))) : Marks B ({ target := .collected w.heap.size, args := #[] } :: ds) w' :=
  ⟨_, rfl, hB, hk, fun d hd e => by
    obtain ⟨r, h1, h2⟩ := h.lt d hd
    rw [h1] at e
    injection e with e
    omega, h.below hb⟩

theorem Marks.setCell {B : Nat} {ds : List Deferred} {w : World} (h : Marks B ds w) {g : Nat} {t : TypeId} {cs : Array Value} (hg : Blk w g t cs) (i : Nat) (v : Value) : Marks B ds (w.setCell ⟨g, i, none⟩ v) :=
  h.only (S := fun b => b = g) (Only.setCell (S := fun b => b = g) (p := ⟨g, i, none⟩) (Only.refl _ w) (.inl rfl) v) fun r hr e => by
    subst e
    unfold Blk at hg
    rw [hg] at hr
    cases hr

theorem leaves_marks {fn : Func} {tmps : Array Value} {R : Ending → World → Prop} {B : Nat} : ∀ {ds : List Deferred} {w : World}, Marks B ds w →
    (∀ w', Below B w w' → ∃ v, (results fn tmps).run P w' = .ok v w' ∧ R (.returned v) w') → LeavesInM Fence.wide 0 P fn tmps R ds .returning w := by
  intro ds
  induction ds with
  | nil => intro w _ h; exact h w (Below.refl _ _)
  | cons d ds ih =>
    rintro w ⟨r, h1, h2, h3, h4, h5⟩ h
    refine ⟨by simp, .inl ⟨r, _, h1, run_takeDeferred h3, ih ?_ ?_⟩⟩
    · refine h5.keep fun r' hb hd ⟨d', hd', ht⟩ => (World.putObj_heap_other ?_).trans hd
      intro e
      subst e
      exact h4 d' hd' ht
    · exact fun w' hb => h w' ((below_putObj _ _ h2).trans hb)

/-- a function that holds a range over a function, by a plain walk of its body -/
theorem calls_of_wp_marks {f : FuncId} {fn : Func} {c : Code} {args : Array Value} {w : World} {R : Ending → World → Prop}
    (hf : P.funcs[f]? = some fn) (hb : fn.body = some c)
    (h : c.wp P (bodyPostM Fence.wide 0 P fn R) { tmps := args ++ Array.replicate (fn.ntmps - args.size) undef, defers := [] } w) : Calls P f args w R :=
  callsIn_wide.1 (callsIn_of_wp_marks (F := Fence.wide) (n := 0) hf hb trivial (wpIn_wide.2 h))
theorem bodyPostM_ret {fn : Func} {R : Ending → World → Prop} {a : Act} {w : World} {B : Nat} (hm : Marks B a.defers w) (h : ∀ w', Below B w w' → ∃ v, (results fn a.tmps).run P w' = .ok v w' ∧ R (.returned v) w') : bodyPostM Fence.wide 0 P fn R .ret a w :=
  leaves_marks hm h
theorem bodyPostM_end {fn : Func} {R : Ending → World → Prop} {a : Act} {w : World} {B : Nat} (hm : Marks B a.defers w) (h : ∀ w', Below B w w' → ∃ v, (results fn a.tmps).run P w' = .ok v w' ∧ R (.returned v) w') : bodyPostM Fence.wide 0 P fn R .normal a w :=
  leaves_marks hm h
end
end Go.Proofs.Ytialpfmaekagjaa

namespace Go.Proofs.Ytialpfmaekagjaa
open Go.RowKit

section
variable {P : Program}

def Abide2 (B : Nat) (J : Nat → Nat → World → Prop) : Prop := ∀ B2 k A A', J B2 k A → Only (fun b => B ≤ b ∧ b < B2) A A' → J B2 k A'
def Gives2 (P : Program) (gf : FuncId) (lb : Array Value) (N : Nat) (X : Nat → Nat → Array Value → World → Prop) (C : Nat → Prop) (W : World) : Prop :=
  ∀ (l : Nat) (J Jx : Nat → Nat → World → Prop), Abide2 W.heap.size J → Abide2 W.heap.size Jx →
    (∀ B2 k args W1, W.heap.size ≤ B2 → B2 ≤ W1.heap.size → k < N → J B2 k W1 → X W.heap.size k args W1 → YieldAt Fence.wide 0 P l args W1 fun e W' =>
      (e = .returned (.bool true) ∧ J B2 (k + 1) W' ∧ Only (fun b => (b < W.heap.size ∧ ¬ C b) ∨ B2 ≤ b) W1 W') ∨ (e = .returned (.bool false) ∧ Jx B2 (k + 1) W' ∧ Only (fun b => (b < W.heap.size ∧ ¬ C b) ∨ B2 ≤ b) W1 W')) →
    (∀ B2, J B2 0 W) →
    Calls P gf (#[.func (.yield l) #[] #[]] ++ lb) W fun e W' => (∃ v, e = .returned v) ∧ ∃ B2, W.heap.size ≤ B2 ∧ (J B2 N W' ∨ ∃ k, 0 < k ∧ k ≤ N ∧ Jx B2 k W')
def roundQ2 (B B2 : Nat) (C : Nat → Prop) (I : Nat → World → Prop) (Ix : Code → Nat → World → Prop) (k : Nat) (W : World) : Exit → Act → World → Prop
  | .normal, _, W' => Only (fun b => (b < B ∧ ¬ C b) ∨ B2 ≤ b) W W' ∧ I (k + 1) W'
  | .ret, _, W' => Only (fun b => (b < B ∧ ¬ C b) ∨ B2 ≤ b) W W' ∧ Ix .ret (k + 1) W'
  | .exit id, _, W' => Only (fun b => (b < B ∧ ¬ C b) ∨ B2 ≤ b) W W' ∧ Ix (.exit id) (k + 1) W'
  | .goto t, _, W' => Only (fun b => (b < B ∧ ¬ C b) ∨ B2 ≤ b) W W' ∧ Ix (.goto t) (k + 1) W'
  | .panic _, _, _ => False
  | .outgrown, _, _ => False
theorem only_put2 {B B2 : Nat} (W : World) {l : Nat} (o : Obj) (h1 : B ≤ l) (h2 : l < B2) : Only (fun b => B ≤ b ∧ b < B2) W (W.putObj l o) :=
  (only_putObj W l o).weak (fun _ _ e => by subst e; exact ⟨h1, h2⟩)

theorem wp_range2 {g : Operand} {ps : Array Tmp} {assign body : Code} {Q : Exit → Act → World → Prop} {a : Act} {w : World} {gf : FuncId} {lb : Array Value} {N : Nat} {X : Nat → Nat → Array Value → World → Prop} {C : Nat → Prop}
    (hg : a.eval g = .func (.func gf) #[] lb) (eg : ∀ args w, (callFunc gf args).run P w = .ok (.enter gf args) w)
    (hseq : ∀ W, Below w.heap.size w W → W.heap.size = w.heap.size + 2 → Gives2 P gf lb N X C W) (hC : ∀ b, C b → b < w.heap.size)
    (hX : ∀ k args W, X (w.heap.size + 2) k args W → args.size = ps.size)
    (I : Nat → Nat → World → Prop) (Ix : Code → Nat → Nat → World → Prop) (hI : Abide2 w.heap.size I) (hIx : ∀ c, Abide2 w.heap.size (Ix c)) (h0 : ∀ B2, I B2 0 w)
    (Ax : Nat → Nat → Array Value → Act → World → Prop)
    (hAx : ∀ B2 k args a' A A', Ax B2 k args a' A → Only (fun b => b = w.heap.size + 1) A A' → A'.heap.size = A.heap.size → w.heap.size + 2 ≤ B2 → B2 ≤ A.heap.size → Ax B2 k args a' A')
    (hassign : ∀ B2 l k args W, k < N → I B2 k W → X (w.heap.size + 2) k args W → w.heap.size + 2 ≤ B2 → B2 ≤ W.heap.size →
      assign.wpIn (Fence.wide.inRound l) 0 P (Exit.then (fun a₁ W₁ => Only (fun b => b < w.heap.size ∧ ¬ C b) W W₁ ∧ Ax B2 k args a₁ W₁) (fun _ _ _ => False)) { tmps := (ps.zip args).foldl (fun t (p, v) => t.setIfInBounds p v) a.tmps, defers := [] } W)
    (hbody : ∀ B2 l k args a₁ W, k < N → Ax B2 k args a₁ W → w.heap.size + 2 ≤ B2 → B2 ≤ W.heap.size → body.wpIn (Fence.wide.inRound l) 0 P (roundQ2 w.heap.size B2 C (I B2) (fun c => Ix c B2) k W) a₁ W)
    (hdone : ∀ B2 W, I B2 N W → W.heap[w.heap.size]? = some (.deferred (some [])) → Q .normal { a with defers := { target := .collected w.heap.size, args := #[] } :: a.defers } W)
    (hstop : ∀ B2 c k W, 0 < k → k ≤ N → Ix c B2 k W → W.heap[w.heap.size]? = some (.deferred (some [])) → c.wp P Q { a with defers := { target := .collected w.heap.size, args := #[] } :: a.defers } W) :
    (Code.rangeFunc g ps assign body).wp P Q a w := by
  refine (wpIn_wide (n := 0)).1 (wpIn_rangeFunc ?_)
  intro fn hfn
  obtain ⟨rec, hrec⟩ : ∃ rec : LoopState → Option Code → Loop, rec = fun st pe => { state := st, pending := pe, fn, tmps := a.tmps, params := ps, assign, body, defers := w.heap.size } := ⟨_, rfl⟩
  obtain ⟨W1, hW1⟩ : ∃ W1, (w.alloc (.deferred (some []))).alloc (.loop (rec .ready none)) = W1 := ⟨_, rfl⟩
  have hL1 : W1.heap[w.heap.size + 1]? = some (.loop (rec .ready none)) := by
    rw [← hW1]; have := World.alloc_heap_new (w.alloc (.deferred (some []))) (.loop (rec .ready none)); rwa [World.size_alloc] at this
  have hK1 : W1.heap[w.heap.size]? = some (.deferred (some [])) := by
    rw [← hW1]; exact (Below.heap_alloc _ _ _ (by simp)).trans (World.alloc_heap_new w _)
  have hb1 : Below w.heap.size w W1 := by
    rw [← hW1]; exact ((Below.refl _ w).alloc (Nat.le_refl _) _).alloc (by simp) _
  have hz1 : W1.heap.size = w.heap.size + 2 := by rw [← hW1]; simp
  have hI1 : ∀ B2, I B2 0 W1 := fun B2 => hI _ _ _ _ (h0 B2) (Only.of_below hb1 _)
  refine ⟨w.heap.size + 1, [{ target := .collected w.heap.size, args := #[] }], W1, { target := .fn (.func gf) lb, args := #[.func (.yield (w.heap.size + 1)) #[] #[]] }, W1, gf,
    #[.func (.yield (w.heap.size + 1)) #[] #[]] ++ lb, W1, ?_, ?_, ?_, ?_, ?_, ?_⟩
  · rw [← hW1, hrec]; exact run_enterLoop_outer _ _ _ _ _
  · simp only [resolve, hg]
    simp [go_sem]
  · intro _ _; trivial
  · simp [invoke, go_sem, eg]
  · intro h; cases h
  · refine callsIn_wide.2 ((hseq W1 hb1 hz1 (w.heap.size + 1)
      (fun B2 k W => w.heap.size + 2 ≤ B2 → I B2 k W ∧ W.heap[w.heap.size + 1]? = some (.loop (rec .ready none)) ∧ W.heap[w.heap.size]? = some (.deferred (some [])))
      (fun B2 k W => w.heap.size + 2 ≤ B2 → ∃ c, Ix c B2 k W ∧ W.heap[w.heap.size + 1]? = some (.loop (rec .done (some c))) ∧ W.heap[w.heap.size]? = some (.deferred (some [])))
      (fun B2 k A A' h hb hB => ⟨hI _ _ _ _ (h hB).1 (hb.weak (fun b _ hk => ⟨by omega, hk.2⟩)), (hb.block _ (Array.getElem?_eq_some_iff.1 (h hB).2.1).1 (by omega)).trans (h hB).2.1, (hb.block _ (Array.getElem?_eq_some_iff.1 (h hB).2.2).1 (by omega)).trans (h hB).2.2⟩)
      (fun B2 k A A' h hb hB => by
        obtain ⟨c, hc, hl, hk⟩ := h hB
        exact ⟨c, hIx _ _ _ _ _ hc (hb.weak (fun b _ hk => ⟨by omega, hk.2⟩)), (hb.block _ (Array.getElem?_eq_some_iff.1 hl).1 (by omega)).trans hl, (hb.block _ (Array.getElem?_eq_some_iff.1 hk).1 (by omega)).trans hk⟩)
      ?_ (fun B2 _ => ⟨hI1 B2, hL1, hK1⟩)).mono ?_)
    · rintro B2 k args W hB2 hsz2 hkN hJ hx
      rw [hz1] at hB2 hx
      obtain ⟨hi, hl, hk⟩ := hJ hB2
      have hsz := Nat.le_trans hB2 hsz2
      have hps := hX k args W hx
      have hlt : w.heap.size + 1 < W.heap.size := (Array.getElem?_eq_some_iff.1 hl).1
      have hy := run_yield (P := P) (args := args) hl (by rw [hrec]; exact hps)
      rw [hrec] at hy
      refine ⟨fn, _, assign, body, hy, roundIn_of_wpIn hfn (wpIn_mono (hassign B2 _ k args W hkN hi hx hB2 hsz2) ?_)⟩
      clear hy
      intro e a₁ Wa hpost
      cases e <;> try exact hpost
      obtain ⟨hoa, hax⟩ := hpost
      have hla := (hoa.block _ (by omega) (by omega)).trans hl
      have hka := (hoa.block _ (by omega) (by omega)).trans hk
      have hsa := Nat.le_trans hsz hoa.size
      refine ⟨_, run_beginRound hla (by rw [hrec]), ?_⟩
      have ho2 := only_putObj Wa (w.heap.size + 1) (.loop { rec .ready none with state := .busy })
      have hl2 : (Wa.putObj (w.heap.size + 1) (.loop { rec .ready none with state := .busy })).heap[w.heap.size + 1]? = some (.loop { rec .ready none with state := .busy }) := World.putObj_heap_same (by omega)
      have hk2 : (Wa.putObj (w.heap.size + 1) (.loop { rec .ready none with state := .busy })).heap[w.heap.size]? = some (.deferred (some [])) := (World.putObj_heap_other (by omega)).trans hka
      have hs2 : (Wa.putObj (w.heap.size + 1) (.loop { rec .ready none with state := .busy })).heap.size = Wa.heap.size := World.putObj_size
      have hax2 := hAx B2 k args a₁ _ _ hax ho2 hs2 hB2 (Nat.le_trans hsz2 hoa.size)
      refine wpIn_mono (hbody B2 _ k args a₁ _ hkN hax2 hB2 (by rw [World.putObj_size]; exact Nat.le_trans hsz2 hoa.size)) ?_
      have fin : ∀ (jump : Option Code) (W3 : World), Only (fun b => (b < w.heap.size ∧ ¬ C b) ∨ B2 ≤ b) (Wa.putObj (w.heap.size + 1) (.loop { rec .ready none with state := .busy })) W3 →
          (Instr.endRound (w.heap.size + 1) jump).run P W3 = .ok (.bool jump.isNone) (W3.putObj (w.heap.size + 1) (.loop (rec (if jump.isNone then .ready else .done) jump))) ∧
          (W3.putObj (w.heap.size + 1) (.loop (rec (if jump.isNone then .ready else .done) jump))).heap[w.heap.size + 1]? = some (.loop (rec (if jump.isNone then .ready else .done) jump)) ∧
          (W3.putObj (w.heap.size + 1) (.loop (rec (if jump.isNone then .ready else .done) jump))).heap[w.heap.size]? = some (.deferred (some [])) ∧
          Only (fun b => (b < w.heap.size + 2 ∧ ¬ C b) ∨ B2 ≤ b) W (W3.putObj (w.heap.size + 1) (.loop (rec (if jump.isNone then .ready else .done) jump))) := fun jump W3 h3 => by
        have hn1 : ¬ ((w.heap.size + 1 < w.heap.size ∧ ¬ C (w.heap.size + 1)) ∨ B2 ≤ w.heap.size + 1) := fun h => by
          rcases h with h | h
          · omega
          · omega
        have hn0 : ¬ ((w.heap.size < w.heap.size ∧ ¬ C w.heap.size) ∨ B2 ≤ w.heap.size) := fun h => by
          rcases h with h | h
          · omega
          · omega
        have hl3 := (h3.block _ (by omega) hn1).trans hl2
        have hk3 := (h3.block _ (by omega) hn0).trans hk2
        have := run_endRound (P := P) jump hl3
        rw [hrec] at this ⊢
        refine ⟨this, World.putObj_heap_same (Array.getElem?_eq_some_iff.1 hl3).1, (World.putObj_heap_other (by omega)).trans hk3, ?_⟩
        have hCl : ¬ C (w.heap.size + 1) := fun h => by have := hC _ h; omega
        have q1 : Only (fun b => (b < w.heap.size + 2 ∧ ¬ C b) ∨ B2 ≤ b) W Wa := hoa.weak (fun k _ hk => .inl ⟨by omega, hk.2⟩)
        have q2 : Only (fun b => (b < w.heap.size + 2 ∧ ¬ C b) ∨ B2 ≤ b) Wa _ := ho2.weak (fun k _ hk => .inl ⟨by omega, by rw [hk]; exact hCl⟩)
        have q3 : Only (fun b => (b < w.heap.size + 2 ∧ ¬ C b) ∨ B2 ≤ b) _ W3 := h3.weak (fun k _ hk => hk.elim (fun h => .inl ⟨by omega, h.2⟩) .inr)
        have q4 : Only (fun b => (b < w.heap.size + 2 ∧ ¬ C b) ∨ B2 ≤ b) W3 _ := (only_putObj W3 (w.heap.size + 1) (.loop (rec (if jump.isNone then .ready else .done) jump))).weak (fun k _ hk => .inl ⟨by omega, by rw [hk]; exact hCl⟩)
        rw [hrec] at q2 q3 q4
        exact (q1.trans q2).trans (q3.trans q4)
      rintro e a3 W3 hp
      cases e with
      | normal =>
        obtain ⟨h3, hi3⟩ := hp
        obtain ⟨hr, hl4, hk4, ho4⟩ := fin none W3 h3
        exact ⟨_, _, hr, .inl ⟨rfl, fun _ => ⟨hI _ _ _ _ hi3 (only_put2 W3 _ (by omega) (by omega)), hl4, hk4⟩, by rw [hz1]; exact ho4⟩⟩
      | ret =>
        obtain ⟨h3, hi3⟩ := hp
        obtain ⟨hr, hl4, hk4, ho4⟩ := fin (some .ret) W3 h3
        exact ⟨_, _, hr, .inr ⟨rfl, fun _ => ⟨.ret, hIx _ _ _ _ _ hi3 (only_put2 W3 _ (by omega) (by omega)), hl4, hk4⟩, by rw [hz1]; exact ho4⟩⟩
      | exit id =>
        obtain ⟨h3, hi3⟩ := hp
        obtain ⟨hr, hl4, hk4, ho4⟩ := fin (some (.exit id)) W3 h3
        exact ⟨_, _, hr, .inr ⟨rfl, fun _ => ⟨.exit id, hIx _ _ _ _ _ hi3 (only_put2 W3 _ (by omega) (by omega)), hl4, hk4⟩, by rw [hz1]; exact ho4⟩⟩
      | goto t =>
        obtain ⟨h3, hi3⟩ := hp
        obtain ⟨hr, hl4, hk4, ho4⟩ := fin (some (.goto t)) W3 h3
        exact ⟨_, _, hr, .inr ⟨rfl, fun _ => ⟨.goto t, hIx _ _ _ _ _ hi3 (only_put2 W3 _ (by omega) (by omega)), hl4, hk4⟩, by rw [hz1]; exact ho4⟩⟩
      | panic ch => exact hp.elim
      | outgrown => exact hp.elim
    · rintro e W2 ⟨⟨v, rfl⟩, B2, hB2, hJ⟩
      rw [hz1] at hB2
      rcases hJ with hJ | ⟨k, hk0, hkN, hJ⟩
      · obtain ⟨hi, hl, hk⟩ := hJ hB2
        exact ⟨none, _, by have := run_endLoop (P := P) hl (by rw [hrec]; simp); rw [hrec] at this; exact this, hdone B2 _ (hI _ _ _ _ hi (only_put2 W2 _ (by omega) (by omega))) ((World.putObj_heap_other (by omega)).trans hk)⟩
      · obtain ⟨c, hi, hl, hk⟩ := hJ hB2
        exact ⟨some c, _, by have := run_endLoop (P := P) hl (by rw [hrec]; simp); rw [hrec] at this; exact this, wpIn_wide.2 (hstop B2 c k _ hk0 hkN (hIx _ _ _ _ _ hi (only_put2 W2 _ (by omega) (by omega))) ((World.putObj_heap_other (by omega)).trans hk))⟩
end
end Go.Proofs.Ytialpfmaekagjaa

namespace Go.Proofs.Ytialpfmaekagjaa

section
variable {n : Nat} {P : Program} {ops : Array Oper} {Q : Exit → Act → World → Prop} {md : Region.Mode}

def noDefer (o : Oper) : Bool := match o.op with | .defer _ => false | _ => true
theorem noDefer_ne {o : Oper} (h : noDefer o = true) : ∀ c, o.op ≠ .defer c := by
  intro c e
  unfold noDefer at h
  rw [e] at h
  cases h
theorem opIn_round {o : Oper} {a : Act} {w : World} {K K' : Act → World → Prop} (l0 : Nat) (hd : noDefer o = true) (hK : ∀ a w, K a w → K' a w) (h : o.wpIn Fence.wide n P a w K Q) : o.wpIn (Fence.wide.inRound l0) n P a w K' Q := by
  have h' := Oper.wpIn_mono hK h
  refine ⟨h'.1, ?_⟩
  have h2 := h'.2
  rw [Oper.semAt_eq _ _ _ (noDefer_ne hd)] at h2 ⊢
  exact h2
theorem anyIn_round (l0 : Nat) (hd : ∀ (i : Nat) (o : Oper), ops[i]? = some o → noDefer o = true) : ∀ (fuel : Nat) (listed : Array Bool) (a : Act) (w : World), wpAnyIn Fence.wide n P md ops Q fuel listed a w → wpAnyIn (Fence.wide.inRound l0) n P md ops Q fuel listed a w := by
  intro fuel
  induction fuel with
  | zero => intro _ _ _ h; exact h
  | succ fuel ih =>
    intro listed a w h
    refine ⟨h.1, fun i hi => ?_⟩
    have h2 := h.2 i hi
    unfold wpOpIn at h2 ⊢
    cases ho : ops[i]? with
    | none => simp only [ho] at h2 ⊢; exact ih _ _ _ h2
    | some o =>
      simp only [ho] at h2 ⊢
      split
      · rename_i hw
        rw [if_pos hw] at h2
        exact opIn_round l0 (hd i o ho) (fun a w => ih _ a w) h2
      · rename_i hw
        rw [if_neg hw] at h2
        exact ⟨h2.1, ih _ _ _ h2.2⟩
/-- as outside a round: where nothing is deferred -/
theorem wpIn_quiet_round {id l0 : Nat} {a : Act} {w : World} {l : List Oper} (hm : P.follows .mixedOrders = true) (hB : Region.lexB .any l.toArray = true) (hd : l.all noDefer = true)
    (h : wpQuietIn Fence.wide n P l.toArray (fun w' => ∃ n, w' = w.drewN n) (fun a' => ∀ w', (∃ n, w' = w.drewN n) → Q .normal a' w') l a) : (Code.region id l.toArray true).wpIn (Fence.wide.inRound l0) n P Q a w := by
  simp only [Region.lexB, Bool.and_eq_true] at hB
  refine wpIn_region_any hm (anyIn_round l0 ?_ _ _ _ _ (wpAnyIn_of_quiet (C := fun w' => ∃ n, w' = w.drewN n) (Q := fun a' => ∀ w', (∃ n, w' = w.drewN n) → Q .normal a' w') rfl (fun _ w' hw' h => h w' hw') _ _ _ _ ⟨1, rfl⟩ ?_))
  · intro i o ho
    exact List.all_eq_true.1 hd o (by rw [List.getElem?_toArray] at ho; exact List.mem_of_getElem? ho)
  · have := wpAnyQIn_lex (F := Fence.wide) (n := n) (C := fun w' => ∃ n, w' = w.drewN n) (md := .any) hB.1 l 0 (Array.replicate l.toArray.size false) a (by simp) (by simpa using hB.2) h
    simpa using this
end
end Go.Proofs.Ytialpfmaekagjaa

namespace Go.Proofs.Ytialpfmaekagjaa
open Go.RowKit

/-- a world behind W in which nothing has turned that was there -/
def Bel (W : World) : Type := { w' : World // Below W.heap.size W w' }
instance (W : World) : Nonempty (Bel W) := ⟨⟨W, Below.refl _ _⟩⟩
section
variable {n : Nat} {P : Program} {Q : Exit → Act → World → Prop}
theorem Bel.cell {W : World} {b o : Nat} {v : Value} (h : W.cell? ⟨b, o, none⟩ = some v) (x : Bel W) : x.1.cell? ⟨b, o, none⟩ = some v := by
  have hb : b < W.heap.size := by
    rcases Nat.lt_or_ge b W.heap.size with hlt | hge
    · exact hlt
    · simp [World.cell?, Array.getElem?_eq_none hge] at h
  exact (x.2.cell (p := ⟨b, o, none⟩) hb).trans h
theorem Bel.next {W w' : World} (x : Bel W) (h : Below x.1.heap.size x.1 w') : ∃ y : Bel W, w' = y.1 := ⟨⟨w', x.2.trans (h.mono x.2.size)⟩, rfl⟩
theorem Bel.drew (W : World) : ∃ x : Bel W, W.drew = x.1 := ⟨⟨W.drew, ⟨rfl, rfl, rfl, Nat.le_refl _, fun _ _ => rfl⟩⟩, rfl⟩
/-- inside a round -/
theorem wpIn_bel_round {id l0 : Nat} {a : Act} {w : World} {l : List Oper} (hm : P.follows .mixedOrders = true) (hB : Region.lexB .any l.toArray = true) (hd : l.all noDefer = true)
    (h : wpQuietIn Fence.wide n P l.toArray (fun w' => ∃ x : Bel w, w' = x.1) (fun a' => ∀ w', (∃ x : Bel w, w' = x.1) → Q .normal a' w') l a) : (Code.region id l.toArray true).wpIn (Fence.wide.inRound l0) n P Q a w := by
  simp only [Region.lexB, Bool.and_eq_true] at hB
  refine wpIn_region_any hm (anyIn_round l0 ?_ _ _ _ _ (wpAnyIn_of_quiet (C := fun w' => ∃ x : Bel w, w' = x.1) (Q := fun a' => ∀ w', (∃ x : Bel w, w' = x.1) → Q .normal a' w') rfl (fun _ w' hw' h => h w' hw') _ _ _ _ (Bel.drew w) ?_))
  · intro i o ho
    exact List.all_eq_true.1 hd o (by rw [List.getElem?_toArray] at ho; exact List.mem_of_getElem? ho)
  · have := wpAnyQIn_lex (F := Fence.wide) (n := n) (C := fun w' => ∃ x : Bel w, w' = x.1) (md := .any) hB.1 l 0 (Array.replicate l.toArray.size false) a (by simp) (by simpa using hB.2) h
    simpa using this
/-- outside a round -/
theorem wp_bel {id : Nat} {a : Act} {w : World} {l : List Oper} (hm : P.follows .mixedOrders = true) (hB : Region.lexB .any l.toArray = true)
    (h : wpQuietIn Fence.wide 0 P l.toArray (fun w' => ∃ x : Bel w, w' = x.1) (fun a' => ∀ w', (∃ x : Bel w, w' = x.1) → Q .normal a' w') l a) : (Code.region id l.toArray true).wp P Q a w :=
  (wpIn_wide (n := 0)).1 (wpIn_region_quiet (C := fun w' => ∃ x : Bel w, w' = x.1) rfl hm hB (Bel.drew w) (by simpa using h))
theorem wpIn_abs {F : Fence} {c : Code} {a : Act} {W : World} (S : World → Prop) (hF : S W) (h : ∀ w, S w → c.wpIn F n P Q a w) : c.wpIn F n P Q a W := h W hF
end
end Go.Proofs.Ytialpfmaekagjaa

namespace Go.Proofs.Ytialpfmaekagjaa
open Go.RowKit Go.WideShapes Go.ChangeShapes
section
variable {H : Type} {enc : TypeId × Value → H} {P : Program}
theorem post_of_below {f : Func} {s : ChangeSpec} {apart fresh handsOn again : Bool} {W W' : World} {args : Array Value} {v : Value} {ds gs : List (DataW H)} {before pa pv : List MemPlace}
    (hW : DataW.Whole enc P f.params.toList s.vars apart W args.toList ds gs before)
    (hres : ∀ (b : Nat) (sp : Nat → Bool) (hd : Bool), DataW.TrodAll enc P W' b sp hd f.resultTypes.toList (v.resultList f.resultTypes.size) (s.fn H (ds ++ gs)).results [])
    (hargs : ∀ sp : Nat → Bool, (∀ p ∈ before, sp p.block = true) → DataW.TrodAll enc P W' 0 sp true f.params.toList args.toList (s.fn H (ds ++ gs)).args pa)
    (hvars : ∀ sp : Nat → Bool, (∀ p ∈ before, sp p.block = true) → DataW.TrodVars enc P W' sp s.vars (s.fn H (ds ++ gs)).vars pv)
    (hps : before = pa ++ pv) (hb : Below W.heap.size W W')
    (hok : ∀ (j : Nat) (t : TypeId) (r : Value), f.resultTypes[j]? = some t → (v.resultList f.resultTypes.size)[j]? = some r → Value.okWide P W' .any 0 t r) :
    s.post enc P f apart fresh handsOn again W args v W' := by
  have hlt : ∀ p ∈ before, p.block < W.heap.size := fun p hp => hW.lt p hp
  have hold : ∀ p ∈ before, (fun b => decide (b < W.heap.size)) p.block = true := fun p hp => by simpa using hlt p hp
  refine ⟨ds, gs, before, [], pa, pv, hW, hres _ _ _, hargs _ hold, hvars _ hold, World.keptBut_mono (fun p hp => ⟨hp, ?_⟩) (hb.frame (· ∈ before)), fun _ => ?_⟩
  · rw [hps, List.mem_append] at hp
    exact Or.inr hp
  · obtain ⟨_, _, _, _, _, hz, hn⟩ := hW
    refine ⟨hok, _, _, ([] ++ pa) ++ pv, ⟨[] ++ pa, pv, trodAll_append (hargs _ (fun _ _ => rfl)) (hres _ _ _), hvars _ (fun _ _ => rfl), rfl, ?_, ?_⟩, ?_⟩
    · intro b off hp
      have hin : MemPlace.cell b off ∈ before := by rw [hps]; simpa using hp
      rw [hb.frozen (hlt _ hin)]
      exact hz b off hin
    · intro ha
      have := hn ha
      rw [hps] at this
      simpa using this
    · intro p hp _
      rw [hps]
      simpa using hp
end
end Go.Proofs.Ytialpfmaekagjaa
