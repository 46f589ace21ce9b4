/- A queue of ints (append behind, cut in front), and rhyme.Web. -/
import Derived.Test.YtogofchpocoebaaV13
import Derived.ArgAppend
namespace Go.Proofs.Ytogofchpocoebaa
open Go.RowKit Go.Maps

/-- a queue of ints in a block of its own, from 'base' on -/
def Qu (w : World) (base : Nat) (v : Value) (l : List Nat) : Prop :=
  ∃ b off c cs, v = .slice (some ⟨b, off, none⟩) l.length c ∧ base ≤ b ∧ Blk w b 3 cs ∧ l.length ≤ c ∧ off + c ≤ cs.size ∧ c ≤ maxLen ∧ ∀ j u, (l.map natW)[j]? = some u → cs[off + j]? = some u
section
variable {P : Program} {w w' : World} {base : Nat} {v : Value} {l : List Nat}
theorem Qu.on (h : Qu w base v l) (hb : Below w.heap.size w w') : Qu w' base v l :=
  let ⟨b, off, c, cs, h1, h2, h3, h4⟩ := h; ⟨b, off, c, cs, h1, h2, h3.below hb h3.lt, h4⟩
theorem Qu.only {S : Nat → Prop} (h : Qu w base v l) (ho : Only S w w') (hS : ∀ k, base ≤ k → ¬ S k) : Qu w' base v l :=
  let ⟨b, off, c, cs, h1, h2, h3, h4⟩ := h; ⟨b, off, c, cs, h1, h2, h3.only ho (hS _ h2), h4⟩
theorem Qu.one (w : World) {n : Nat} (hb : base ≤ w.heap.size) : Qu (w.alloc (.cells #[natW n] 3)) base (.slice (some ⟨w.heap.size, 0, none⟩) 1 1) [n] :=
  ⟨w.heap.size, 0, 1, _, rfl, hb, Blk.new _ _ _, Nat.le_refl _, Nat.le_refl _, by unfold maxLen; omega, fun j u h => by
    rw [Nat.zero_add]
    rcases j with _ | j
    · simpa using h
    · simp at h⟩
theorem Qu.head {k : Nat} (h : Qu w base v (k :: l)) : ∃ b off c, v = .slice (some ⟨b, off, none⟩) (k :: l).length c ∧ w.cell? ⟨b, off, none⟩ = some (.int .i64 (k : Int)) := by
  obtain ⟨b, off, c, cs, h1, h2, h3, h4, h5, h6, h7⟩ := h
  exact ⟨b, off, c, h1, (h3.cell off).trans (h7 0 _ rfl)⟩
theorem Qu.slice (h : Qu w base v l) : ∃ b off c, v = .slice (some ⟨b, off, none⟩) l.length c := by
  obtain ⟨b, off, c, cs, h1, _⟩ := h
  exact ⟨b, off, c, h1⟩
open Lean Elab Tactic Meta in
/-- looks at the goal's text: the next operation is a slice expression -/
elab "at_cut" : tactic => withMainContext do
  let t := (← instantiateMVars (← getMainTarget)).consumeMData
  unless t.isAppOfArity ``Go.wpList 6 do throwError "at_cut: no wpList"
  let l := t.getArg! 3
  unless l.isAppOfArity ``List.cons 3 do throwError "at_cut: no operation"
  let o := l.getArg! 1
  unless o.isAppOfArity ``Go.Oper.mk 6 do throwError "at_cut: not written out"
  unless (o.getArg! 1).isAppOf ``Go.Op.slice do throwError "at_cut: another operation"
/-- 'q = q[1:]' -/
theorem wpList_pop {ops : Array Oper} {rest : List Oper} {o : Oper} {a : Act} {Q : Exit → Act → World → Prop} (hg : o.guard = none) (t : TypeId) (x : Operand) (hop : o.op = Op.slice t x (some (.const (.int .i64 1))) none none)
    (i : TypeInfo) (h1 : P.underlying t = some (.slice 3)) (h2 : P.info? 3 = some i) (h3 : i.size = 1) (k : Nat) (hs : a.eval x = v) (hq : Qu w base v (k :: l))
    (K : ∀ v', Qu w base v' l → wpList P ops Q rest (a.put o.dst v') w) : wpList P ops Q (o :: rest) a w := by
  refine wpList_plain hg fun K' hK' => ?_
  obtain ⟨b, off, c, cs, rfl, q2, q3, q4, q5, q6, q7⟩ := hq
  have hc1 : 1 ≤ c := by simp only [List.length_cons] at q4; omega
  have hl1 : (0 : Int) ≤ 1 ∧ (1 : Int) ≤ ((k :: l).length : Int) := ⟨by omega, by simp only [List.length_cons]; omega⟩
  have hrun : (Instr.sliceAt t (.slice (some ⟨b, off, none⟩) (k :: l).length c) (some (.int .i64 1)) none none).run P w = .ok (.slice (if c = 1 then some ⟨b, off, none⟩ else some ⟨b, off + 1, none⟩) l.length (c - 1)) w := by
    simp [Instr.sliceAt, Instr.slice, Instr.sliceBounds, Instr.sliceBound, asIntOf, run_underlying h1, sizeOf, typeInfo, h2, h3, Addr.add_lit]
    omega
  simp only [List.length_cons] at hs hrun
  have hev : a.eval (.const (.int .i64 1)) = .int .i64 1 := rfl
  unfold Oper.wp
  simp [execOp, hop, hs, hev, hrun, Result.andThen]
  refine hK' _ _ (K _ ?_)
  by_cases e : c = 1
  · subst e
    have hl : l = [] := by cases l with | nil => rfl | cons _ _ => simp at q4
    subst hl
    exact ⟨b, off, 0, cs, by simp, q2, q3, Nat.le_refl _, by omega, by unfold maxLen; omega, fun j u hh => by simp at hh⟩
  · refine ⟨b, off + 1, c - 1, cs, by rw [if_neg e], q2, q3, by simp only [List.length_cons] at q4; omega, by omega, by omega, fun j u hh => ?_⟩
    have := q7 (j + 1) u (by simpa using hh)
    rw [show off + 1 + j = off + (j + 1) by omega]
    exact this
theorem wpList_push {ops : Array Oper} {rest : List Oper} {o : Oper} {a : Act} {Q : Exit → Act → World → Prop} (hg : o.guard = none) (s x : Operand) (t : TypeId) (hop : o.op = Op.call { callee := Callee.builtin Builtin.append, args := #[s, x], argTypes := #[t, t] })
    (i : TypeInfo) (h1 : P.underlying t = some (.slice 3)) (h2 : P.info? 3 = some i) (h3 : i.zero = some (.int .i64 0)) (h4 : i.size = 1) (h5 : i.bytes = 8)
    (n : Nat) (hs : a.eval s = v) (hq : Qu w base v l) (ad : Addr) (c : Nat) (hx : a.eval x = .slice (some ad) 1 c) (hc : w.cell? ad = some (natW n)) (b1 : l.length ≤ 1000000) (hbase : base ≤ w.heap.size)
    (K : ∀ v' w', Qu w' base v' (l ++ [n]) → Below base w w' → wpList P ops Q rest (a.put o.dst v') w') : wpList P ops Q (o :: rest) a w := by
  obtain ⟨b, off, cp, cs, e, q2, q3, q4, q5, q6, q7⟩ := hq
  refine wpList_append_arg w hg s x t hop 3 i (.int .i64 0) 1 8 h1 h2 h3 h4 h5 rfl (by omega) b off l.length cp (l.map natW) (hs.trans e) (by simp) (fun j u hj => (q3.cell _).trans (q7 j u hj)) ad 1 c [natW n] hx rfl (fun j u hj => ?_) (fun u hu => ?_) (fun hr j hj => ?_) (by unfold maxLen; omega) (by omega) (fun hr => ?_) (fun hr v' w' ho hgr => ?_)
  · rcases j with _ | j
    · simp at hj; subst hj; exact hc
    · simp at hj
  · have : u = natW n := by simpa using hu
    subst this; rfl
  · have hj0 : j = 0 := by simp at hj; omega
    subst hj0
    exact ⟨by rw [q3.cell]; simp; omega, q3.frozen _⟩
  · refine K _ _ ⟨b, off, cp, cs.setIfInBounds (off + l.length * 1) (natW n), by simp, q2, q3.set_ _ _, by simpa using hr, by simpa using q5, q6, fun j u hj => ?_⟩ ((Below.refl _ _).setCell q2 _)
    rw [Array.getElem?_setIfInBounds]
    by_cases e : j = l.length
    · subst e
      rw [if_pos (by omega), if_pos (by omega)]
      simpa using hj
    · rw [if_neg (by omega)]
      refine q7 j u ?_
      rw [List.map_append] at hj
      have hjl : j < l.length := by
        have := (List.getElem?_eq_some_iff.1 hj).1
        simp at this
        omega
      rw [List.getElem?_append_left (by simpa using hjl)] at hj
      exact hj
  · obtain ⟨g, cap, cur, hv, hb, hg2, hn, hm, hsz, htk⟩ : ∃ g cap cur, v' = .slice (some ⟨g, 0, none⟩) (l.length + 1) cap ∧ w.heap.size ≤ g ∧ w'.heap[g]? = some (.cells cur 3) ∧ l.length + 1 ≤ cap ∧ cap ≤ maxLen ∧ cur.size = cap * 1 ∧ cur.toList.take ((l.length + 1) * 1) = l.map natW ++ [natW n] := by
      rcases ho.2 with ⟨_, h0⟩ | ⟨g, cap, cur, hv, hb, hg2, hn, hm, hsz, htk⟩
      · omega
      · exact ⟨g, cap, cur, hv, hb, hg2, hn, hm, hsz, htk⟩
    refine K _ _ ⟨g, 0, cap, cur, by rw [hv]; simp, by omega, hg2, by simpa using hn, by omega, hm, fun j u hj => ?_⟩ ((Only.refl (fun _ => False) w).grown hgr (fun _ h => by cases h) |>.below hbase (fun _ _ h => h))
    rw [List.map_append] at hj
    have hj2 : (cur.toList.take ((l.length + 1) * 1))[j]? = some u := by rw [htk]; exact hj
    rw [List.getElem?_take] at hj2
    split at hj2
    · rw [Nat.zero_add, ← Array.getElem?_toList]; exact hj2
    · cases hj2
end
end Go.Proofs.Ytogofchpocoebaa
