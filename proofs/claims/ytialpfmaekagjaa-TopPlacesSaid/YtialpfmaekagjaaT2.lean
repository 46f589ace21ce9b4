/- A scope with one label that is jumped to forward, inside a round. -/
import Derived.Test.YtialpfmaekagjaaT0
import Derived.Scope
import Derived.ControlIn
namespace Go.Proofs.Ytialpfmaekagjaa
open Go.RowKit

/-- As Q; by a goto to label l: J. -/
def Exit.jumpOne (l : Nat) (J : Act → World → Prop) (Q : Exit → Act → World → Prop) : Exit → Act → World → Prop
  | .goto l', a, w => l' = l ∧ J a w
  | e, a, w => Q e a w

theorem stepR_scope {P : Program} {b : Frame} {a : Act} {k : List Item} {cs : List Frame} {w : World} {c : Code} : step P (lone (b.atR a (.code (.scope c) :: k)) cs w) = .next (lone (b.atR a (.code c :: .inScope c :: k)) cs w) :=
  step_lone_go (by simp [stepG, stepG.exec, Frame.atR])
theorem stepR_inScope {P : Program} {b : Frame} {a : Act} {k : List Item} {cs : List Frame} {w : World} {c : Code} : step P (lone (b.atR a (.inScope c :: k)) cs w) = .next (lone (b.atR a k) cs w) :=
  step_lone_go (by simp [stepG, stepG.exec, Frame.atR])

theorem arr_scope {F : Fence} {P : Program} {m : Machine} {b : Frame} {c : Code} {k : List Item} {cs : List Frame} {e : Exit} {a : Act} {w : World} (hb : ∀ a' w', (lone (b.atR a' (.inScope c :: k)) cs w').fenced P F)
    (hn : ∀ l, e ≠ .goto l) (h : ArrivesIn (Machine.fenced P F) P m b (.inScope c :: k) cs e a w) : ArrivesIn (Machine.fenced P F) P m b k cs e a w := by
  cases e with
  | normal => exact StepsIn.trans h (.one (hb a w) stepR_inScope)
  | exit id => exact ⟨fun k' hk => h.1 k' (by simp [exitTo, hk]), fun hr hk => h.2 hr (by simp [exitTo, hk])⟩
  | goto l => exact absurd rfl (hn l)
  | ret => exact h
  | panic chain => exact h
  | outgrown => exact h

theorem wpIn_scope_one {F : Fence} {n : Nat} {P : Program} {c rest : Code} {Q : Exit → Act → World → Prop} {a : Act} {w : World} (l : Nat) (J : Act → World → Prop) (hf : findLabel c l = some rest)
    (first : c.wpIn F n P (Exit.jumpOne l J Q) a w) (pass : ∀ a w, J a w → rest.wpIn F n P (Exit.noGoto Q) a w) : (Code.scope c).wpIn F n P Q a w := by
  intro b k cs hro hb hr
  have h0 : (lone (b.atR a (.code (.scope c) :: k)) cs w).fenced P F := fenced_calm hb hr rfl
  have hsc : ∀ a' w', (lone (b.atR a' (.inScope c :: k)) cs w').fenced P F := fun a' w' => fenced_calm hb hr rfl
  obtain ⟨e, a₁, w₁, hq, harr⟩ := first b (.inScope c :: k) cs hro hb hr
  have out : ∀ {m : Machine} {e : Exit} {a₁ : Act} {w₁ : World}, (∀ l, e ≠ .goto l) → Q e a₁ w₁ → ArrivesIn (Machine.fenced P F) P m b (.inScope c :: k) cs e a₁ w₁ → StepsIn (Machine.fenced P F) P (lone (b.atR a (.code (.scope c) :: k)) cs w) m →
      ∃ e a' w', Q e a' w' ∧ ArrivesIn (Machine.fenced P F) P (lone (b.atR a (.code (.scope c) :: k)) cs w) b k cs e a' w' :=
    fun hn hq harr hs => ⟨_, _, _, hq, .of_steps hs (arr_scope hsc hn harr)⟩
  cases e with
  | goto l' =>
    obtain ⟨rfl, hJ⟩ := hq
    have hg : gotoIn l' (.inScope c :: k) = some (.code rest :: .inScope c :: k) := by simp [gotoIn, hf]
    have hs := harr.1 _ hg
    obtain ⟨e₂, a₂, w₂, hq₂, harr₂⟩ := pass a₁ w₁ hJ b (.inScope c :: k) cs hro hb hr
    have hs2 := StepsIn.trans (.one h0 stepR_scope) hs
    cases e₂ with
    | goto l => exact hq₂.elim
    | normal => exact out (by simp) hq₂ harr₂ hs2
    | exit id => exact out (by simp) hq₂ harr₂ hs2
    | ret => exact out (by simp) hq₂ harr₂ hs2
    | panic ch => exact out (by simp) hq₂ harr₂ hs2
    | outgrown => exact out (by simp) hq₂ harr₂ hs2
  | normal => exact out (by simp) hq harr (.one h0 stepR_scope)
  | exit id => exact out (by simp) hq harr (.one h0 stepR_scope)
  | ret => exact out (by simp) hq harr (.one h0 stepR_scope)
  | panic ch => exact out (by simp) hq harr (.one h0 stepR_scope)
  | outgrown => exact out (by simp) hq harr (.one h0 stepR_scope)
theorem wpIn_scope_at {F : Fence} {n : Nat} {P : Program} {c rest : Code} {Q : Exit → Act → World → Prop} {a : Act} {w : World} (l : Nat) (G : Act) (K : World → Prop) (hf : findLabel c l = some rest)
    (first : c.wpIn F n P (Exit.jumpOne l (fun a w => a = G ∧ K w) Q) a w) (pass : ∀ w, K w → rest.wpIn F n P (Exit.noGoto Q) G w) : (Code.scope c).wpIn F n P Q a w :=
  wpIn_scope_one l (fun a w => a = G ∧ K w) hf first (fun a w ⟨e, h⟩ => by subst e; exact pass w h)
theorem only_then {A S S' : Nat → Prop} {w w3 w4 : World} (h1 : Only (fun b => A b ∨ S b) w w3) (hs : ∀ b, S' b → S b ∨ w.heap.size ≤ b) (h2 : Only (fun b => A b ∨ S' b) w3 w4) : Only (fun b => A b ∨ S b) w w4 :=
  ⟨h2.os.trans h1.os, h2.tape.trans h1.tape, h2.output.trans h1.output, Nat.le_trans h1.size h2.size, fun k hk hn => (h2.block k (Nat.lt_of_lt_of_le hk h1.size) (fun h => by
    rcases h with h | h
    · exact hn (.inl h)
    · rcases hs k h with h | h
      · exact hn (.inr h)
      · omega)).trans (h1.block k hk hn)⟩
/-- an iterator's caller, as it takes what is handed over -/
def YieldsT (P : Program) (W0 : World) (C : Nat → Prop) (l : Nat) (J : List (Array Value) → (Nat → Prop) → World → Prop) : Prop :=
  ∀ x rest S W1, (∀ b, S b → W0.heap.size ≤ b ∧ b < W1.heap.size) → W0.heap.size ≤ W1.heap.size → J (x :: rest) S W1 → YieldAt Fence.wide 0 P l x W1 fun e W' =>
      e = .returned (.bool true) ∧ ∃ S', J rest S' W' ∧ (∀ b, S' b → S b ∨ (W1.heap.size ≤ b ∧ b < W'.heap.size)) ∧ Only (fun b => (b < W0.heap.size ∧ ¬ C b) ∨ S b) W1 W'
end Go.Proofs.Ytialpfmaekagjaa
