/- Meet and Join: the plain law of the lattice.
   SchemeLattice: the walk. -/
import Derived.Test.YtbjfbmienlojkaaT67
import Derived.Test.YtbjfbmienlojkaaT65
import Derived.Test.YtbjfbmienlojkaaT74
namespace Go.Proofs.Ytbjfbmienlojkaa
open Go.RowKit

/-- what is alike by l is alike by l' -/
def Inside (n : Nat) (l l' : List (Int × Int)) : Prop := ∀ i k, i < n → k < n → alikeB l i k = true → alikeB l' i k = true
theorem within_iff {n : Nat} {l l' : List (Int × Int)} (hn : l.length = n) : withinF l l' = true ↔ Inside n l l' := by
  rw [← within_same]
  unfold refWithinF refOk
  simp only [List.all_eq_true, List.mem_range, hn]
  constructor
  · intro h i k hi hk ha
    have key : ∀ i k, i < n → k < i → alikeB l i k = true → alikeB l' i k = true := fun i k hi hk ha => by
      have := h i hi k hk
      rw [ha] at this
      simpa using this
    rcases Nat.lt_trichotomy i k with h1 | h1 | h1
    · exact alike_symm (key k i hk h1 (alike_symm ha))
    · exact (alikeB_iff l' i k).2 (.inl h1)
    · exact key i k hi h1 ha
  · intro h i hi k hk
    cases ha : alikeB l i k with
    | false => rfl
    | true => rw [h i k hi (by omega) ha]; rfl
theorem bool_iff {a b : Bool} (h : a = true ↔ b = true) : a = b := by
  cases a <;> cases b <;> simp_all

/-- the lines made of marks: their classes -/
theorem made_lines {l1 l2 : List (Int × Int)} {mk : List Int} (he : madeE l1 l2 mk = 0) : madeL l1 l2 mk = (md l1 l2 mk mk.length).2 ∧ (md l1 l2 mk mk.length).1.length ≤ 25 := by
  unfold madeL
  rw [if_pos he]
  refine ⟨rfl, ?_⟩
  unfold madeE at he
  split at he
  · cases he
  · omega
theorem made_len {l1 l2 : List (Int × Int)} {mk : List Int} (he : madeE l1 l2 mk = 0) : (madeL l1 l2 mk).length = mk.length := by
  rw [(made_lines he).1]
  exact (md_len l1 l2 mk mk.length).1
theorem cls_some {l : List (Int × Int)} {i : Nat} {c r : Int} (h : l[i]? = some (c, r)) : clsAt l i = c := by
  unfold clsAt
  rw [List.getD_eq_getElem?_getD, h]
  rfl
theorem made_alike {l1 l2 : List (Int × Int)} {mk : List Int} (he : madeE l1 l2 mk = 0) {i k : Nat} (hi : i < mk.length) (hk : k < mk.length) : alikeB (madeL l1 l2 mk) i k = true ↔ i = k ∨ mk[i]? = mk[k]? := by
  obtain ⟨hl, hd⟩ := made_lines he
  have h1 := (md_inv l1 l2 mk mk.length (Nat.le_refl _)).1
  rw [hl, alikeB_iff]
  have gi : mk[i]? = some mk[i] := List.getElem?_eq_getElem hi
  have gk : mk[k]? = some mk[k] := List.getElem?_eq_getElem hk
  by_cases e : i = k
  · simp [e]
  · simp only [e, false_or]
    rw [gi, gk]
    have a := h1 i _ hi gi
    have b := h1 k _ hk gk
    constructor
    · rintro ⟨h0, hc⟩
      rcases a with ⟨_, a2⟩ | ⟨_, p, a3, a4⟩
      · rw [cls_some a2] at h0; omega
      · rcases b with ⟨_, b2⟩ | ⟨_, p', b3, b4⟩
        · rw [cls_some a4, cls_some b2] at hc; omega
        · rw [cls_some a4, cls_some b4] at hc
          have hp : p = p' := by omega
          subst hp
          have c1 := (posI_some a3).1
          have c2 := (posI_some b3).1
          rw [c1] at c2
          exact c2
    · intro hm
      injection hm with hm
      have l1' := lone_twice (l1 := l1) (l2 := l2) (i := i) (q := k) gi (by rw [gk, hm]) (fun h => e h.symm) i
      have l2' := lone_twice (l1 := l1) (l2 := l2) (i := k) (q := i) gk (by rw [gi, hm]) e k
      rcases a with ⟨a1, _⟩ | ⟨_, p, a3, a4⟩
      · rw [l1'] at a1; cases a1
      · rcases b with ⟨b1, _⟩ | ⟨_, p', b3, b4⟩
        · rw [l2'] at b1; cases b1
        · rw [← hm, a3] at b3
          injection b3 with b3
          subst b3
          rw [cls_some a4, cls_some b4]
          exact ⟨by omega, rfl⟩
theorem made_may {l1 l2 : List (Int × Int)} {mk st : List Int} (he : madeE l1 l2 mk = 0) (hn : mk.length = l1.length) (hm : may l1 st = true) : may (madeL l1 l2 mk) st = true := by
  obtain ⟨m1, m2, _⟩ := (may_iff l1 st).1 hm
  obtain ⟨hl, hd⟩ := made_lines he
  have h1 := (md_inv l1 l2 mk mk.length (Nat.le_refl _)).1
  refine (may_iff _ _).2 ⟨by rw [made_len he, hn]; exact m1, by rw [made_len he, hn]; exact m2, ?_⟩
  rw [List.all_eq_true]
  intro x hx
  obtain ⟨q, hq, rfl⟩ := List.getElem_of_mem hx
  have hql : q < mk.length := by rw [made_len he] at hq; exact hq
  have hg : (madeL l1 l2 mk)[q]? = some (madeL l1 l2 mk)[q] := List.getElem?_eq_getElem hq
  generalize (madeL l1 l2 mk)[q] = x at hg
  rw [hl] at hg
  rcases h1 q _ hql (List.getElem?_eq_getElem hql) with ⟨_, a2⟩ | ⟨_, p, a3, a4⟩
  · rw [a2] at hg
    injection hg with hg
    subst hg
    rfl
  · rw [a4] at hg
    injection hg with hg
    subst hg
    have := posI_lt a3
    exact (lineOk_iff _).2 ⟨by simp <;> omega, by simp <;> omega, by simp, by simp, by simp <;> omega⟩

/-- alike by both, as Meet marks it -/
def bothB (l1 l2 : List (Int × Int)) (i k : Nat) : Prop := alikeB l1 i k = true ∧ alikeB l2 i k = true
theorem alike_trans {ls : List (Int × Int)} {i j k : Nat} (h1 : alikeB ls i j = true) (h2 : alikeB ls j k = true) : alikeB ls i k = true := by
  rcases (alikeB_iff ls i j).1 h1 with rfl | ⟨a, b⟩
  · exact h2
  · rcases (alikeB_iff ls j k).1 h2 with rfl | ⟨c, d⟩
    · exact h1
    · exact (alikeB_iff ls i k).2 (.inr ⟨a, b.trans d⟩)
theorem bothB.symm {l1 l2 : List (Int × Int)} {i k : Nat} (h : bothB l1 l2 i k) : bothB l1 l2 k i := ⟨alike_symm h.1, alike_symm h.2⟩
theorem bothB.trans {l1 l2 : List (Int × Int)} {i j k : Nat} (h : bothB l1 l2 i j) (g : bothB l1 l2 j k) : bothB l1 l2 i k := ⟨alike_trans h.1 g.1, alike_trans h.2 g.2⟩
theorem alike_self (ls : List (Int × Int)) (i : Nat) : alikeB ls i i = true := (alikeB_iff ls i i).2 (.inl rfl)
theorem mt_spec (l1 l2 : List (Int × Int)) (i : Nat) : bothB l1 l2 i (mtAt l1 l2 i) ∧ ∀ k, k < mtAt l1 l2 i → ¬ bothB l1 l2 i k := by
  have h := rmAt_spec l1 l2 i i (Nat.le_refl _)
  rw [rmAt_mt, Nat.sub_self] at h
  rcases h with ⟨a, b⟩ | ⟨_, a, b, c⟩
  · rw [a]
    exact ⟨⟨alike_self _ _, alike_self _ _⟩, fun k hk hb => b k (Nat.zero_le _) hk (by rw [hb.1, hb.2]; rfl)⟩
  · exact ⟨by simpa [bothB] using b, fun k hk hb => c k (Nat.zero_le _) hk (by rw [hb.1, hb.2]; rfl)⟩
theorem mt_iff (l1 l2 : List (Int × Int)) (i k : Nat) : mtAt l1 l2 i = mtAt l1 l2 k ↔ bothB l1 l2 i k := by
  obtain ⟨a1, a2⟩ := mt_spec l1 l2 i
  obtain ⟨b1, b2⟩ := mt_spec l1 l2 k
  constructor
  · intro h
    rw [h] at a1
    exact a1.trans b1.symm
  · intro h
    rcases Nat.lt_trichotomy (mtAt l1 l2 i) (mtAt l1 l2 k) with c | c | c
    · exact absurd (h.symm.trans a1) (b2 _ c)
    · exact c
    · exact absurd (h.trans b1) (a2 _ c)
theorem mtF_get (l1 l2 : List (Int × Int)) {n i : Nat} (h : i < n) : (mtF l1 l2 n)[i]? = some (mtAt l1 l2 i : Int) := by
  unfold mtF
  rw [List.getElem?_map, List.getElem?_range h]
  rfl
/-- lines alike by Meet's scheme are alike by both -/
theorem meet_alike {n : Nat} {l1 l2 : List (Int × Int)} (he : madeE l1 l2 (mtF l1 l2 n) = 0) {i k : Nat} (hi : i < n) (hk : k < n) : alikeB (madeL l1 l2 (mtF l1 l2 n)) i k = true ↔ bothB l1 l2 i k := by
  rw [made_alike he (by rw [mtF_len]; exact hi) (by rw [mtF_len]; exact hk), mtF_get l1 l2 hi, mtF_get l1 l2 hk, ← mt_iff]
  constructor
  · rintro (rfl | h)
    · rfl
    · injection h with h; omega
  · intro h
    exact .inr (by rw [h])
theorem meet_in {n : Nat} {l1 l2 : List (Int × Int)} (he : madeE l1 l2 (mtF l1 l2 n) = 0) : withinF (madeL l1 l2 (mtF l1 l2 n)) l1 = true ∧ withinF (madeL l1 l2 (mtF l1 l2 n)) l2 = true := by
  have hl : (madeL l1 l2 (mtF l1 l2 n)).length = n := by rw [made_len he, mtF_len]
  exact ⟨(within_iff hl).2 fun i k hi hk h => ((meet_alike he hi hk).1 h).1, (within_iff hl).2 fun i k hi hk h => ((meet_alike he hi hk).1 h).2⟩
theorem meet_great {n : Nat} {l1 l2 l3 : List (Int × Int)} (hn : l3.length = n) (he : madeE l1 l2 (mtF l1 l2 n) = 0) : (withinF l3 l1 && withinF l3 l2) = withinF l3 (madeL l1 l2 (mtF l1 l2 n)) := by
  refine bool_iff ?_
  rw [Bool.and_eq_true, within_iff hn, within_iff hn, within_iff hn]
  constructor
  · rintro ⟨a, b⟩ i k hi hk h
    exact (meet_alike he hi hk).2 ⟨a i k hi hk h, b i k hi hk h⟩
  · intro a
    exact ⟨fun i k hi hk h => ((meet_alike he hi hk).1 (a i k hi hk h)).1, fun i k hi hk h => ((meet_alike he hi hk).1 (a i k hi hk h)).2⟩

theorem jnF_get (l1 l2 : List (Int × Int)) {n i : Nat} (h : i < n) : (jnF l1 l2 n)[i]? = some (root (jnAll l1 l2 n) i : Int) := by
  unfold jnF
  rw [List.getElem?_map, List.getElem?_range h]
  rfl
theorem join_alike {n : Nat} {l1 l2 : List (Int × Int)} (he : madeE l1 l2 (jnF l1 l2 n) = 0) {i k : Nat} (hi : i < n) (hk : k < n) : alikeB (madeL l1 l2 (jnF l1 l2 n)) i k = true ↔ root (jnAll l1 l2 n) i = root (jnAll l1 l2 n) k := by
  rw [made_alike he (by rw [jnF_len]; exact hi) (by rw [jnF_len]; exact hk), jnF_get l1 l2 hi, jnF_get l1 l2 hk]
  constructor
  · rintro (rfl | h)
    · rfl
    · injection h with h; omega
  · intro h
    exact .inr (by rw [h])
theorem join_in {n : Nat} {l1 l2 : List (Int × Int)} (h1 : l1.length = n) (h2 : l2.length = n) (he : madeE l1 l2 (jnF l1 l2 n) = 0) : withinF l1 (madeL l1 l2 (jnF l1 l2 n)) = true ∧ withinF l2 (madeL l1 l2 (jnF l1 l2 n)) = true := by
  have hl := (jn_least l1 l2 n).2.1
  exact ⟨(within_iff h1).2 fun i k hi hk h => (join_alike he hi hk).2 (hl i k hi hk (.inl h)), (within_iff h2).2 fun i k hi hk h => (join_alike he hi hk).2 (hl i k hi hk (.inr h))⟩
theorem first_alike_iff (ls : List (Int × Int)) (i k : Nat) : firstF ls i = firstF ls k ↔ alikeB ls i k = true := by
  constructor
  · intro h
    by_cases e : i = k
    · exact (alikeB_iff ls i k).2 (.inl e)
    · have a := firstF_self ls i
      have b := firstF_self ls k
      have c := firstF_le ls i
      have d := firstF_le ls k
      rw [h] at a
      refine (alikeB_iff ls i k).2 (.inr ⟨?_, by omega⟩)
      by_cases hi : firstF ls i < i
      · exact (firstF_cls ls hi).1
      · have := (firstF_cls ls (i := k) (by omega)).1
        omega
  · intro h
    by_cases e : i = k
    · rw [e]
    · exact (first_one h e).2.2
theorem join_least {n : Nat} {l1 l2 l3 : List (Int × Int)} (h1 : l1.length = n) (h2 : l2.length = n) (he : madeE l1 l2 (jnF l1 l2 n) = 0) : (withinF l1 l3 && withinF l2 l3) = withinF (madeL l1 l2 (jnF l1 l2 n)) l3 := by
  have hl : (madeL l1 l2 (jnF l1 l2 n)).length = n := by rw [made_len he, jnF_len]
  obtain ⟨g1, g2, g3⟩ := jn_least l1 l2 n
  refine bool_iff ?_
  rw [Bool.and_eq_true, within_iff h1, within_iff h2, within_iff hl]
  constructor
  · rintro ⟨a, b⟩ i k hi hk h
    have hr := (join_alike he hi hk).1 h
    have hk3 : Resp n l1 l2 (firstF l3) := fun x y hx hy hxy => by
      rw [first_alike_iff]
      rcases hxy with hxy | hxy
      · exact a x y hx hy hxy
      · exact b x y hx hy hxy
    have c1 := g3 _ hk3 i hi
    have c2 := g3 _ hk3 k hk
    rw [hr, c2] at c1
    exact (first_alike_iff l3 i k).1 c1.symm
  · intro a
    exact ⟨fun i k hi hk h => a i k hi hk ((join_alike he hi hk).2 (g2 i k hi hk (.inl h))), fun i k hi hk h => a i k hi hk ((join_alike he hi hk).2 (g2 i k hi hk (.inr h)))⟩
end Go.Proofs.Ytbjfbmienlojkaa

namespace Go.Proofs.Ytbjfbmienlojkaa
open Go.RowKit Go.Maps

/-- three boxes of schemes -/
structure ThIn (w0 : World) (a1 a2 b1 b2 g1 g2 : Value) (w : World) : Prop where
  b0 : Blk w w0.heap.size 26 #[a1, a2]
  b1 : Blk w (w0.heap.size + 1) 26 #[b1, b2]
  b2 : Blk w (w0.heap.size + 2) 26 #[g1, g2]
  below : Below w0.heap.size w0 w
theorem ThIn.init (w : World) (a1 a2 b1 b2 g1 g2 : Value) : ThIn w a1 a2 b1 b2 g1 g2 (((w.alloc (.cells #[a1, a2] 26)).alloc (.cells #[b1, b2] 26)).alloc (.cells #[g1, g2] 26)) :=
  ⟨((Blk.new w _ _).alloc _).alloc _, (blk_new_eq (by simp)).alloc _, blk_new_eq (by simp), (((Below.refl _ _).alloc (Nat.le_refl _) _).alloc (by simp) _).alloc (by simp; omega) _⟩
theorem ThIn.on {w0 : World} {a1 a2 b1 b2 g1 g2 : Value} {w w' : World} (h : ThIn w0 a1 a2 b1 b2 g1 g2 w) (hb : Below w.heap.size w w') : ThIn w0 a1 a2 b1 b2 g1 g2 w' :=
  ⟨h.b0.below hb h.b0.lt, h.b1.below hb h.b1.lt, h.b2.below hb h.b2.lt, h.below.trans (hb.mono h.below.size)⟩
theorem mt_right {l l3 : List (Int × Int)} {s s3 : List Int} (h : may l s = true) : mayTwo l3 l s3 s = (may l3 s3 && decide (l3.length = l.length)) := by unfold mayTwo; rw [h, Bool.true_and]
theorem mt_left {l l3 : List (Int × Int)} {s s3 : List Int} (h : may l s = true) : mayTwo l l3 s s3 = (may l3 s3 && decide (l.length = l3.length)) := by unfold mayTwo; rw [h, Bool.true_and]
theorem bool_or (b : Bool) : b = false ∨ b = true := by cases b <;> simp
theorem madeS_zero {l1 l2 : List (Int × Int)} {mk st : List Int} (he : madeE l1 l2 mk = 0) : madeS l1 l2 mk st = st := by unfold madeS; rw [if_pos he]

set_option maxHeartbeats 8000000 in
set_option maxRecDepth 100000 in
theorem schemeLattice_bad (A1 A2 B1 B2 C1 C2 : Option Addr) (n1 c1 n2 c2 m1 d1 m2 d2 o1 f1 o2 f2 : Nat) (l1 l2 : List (Int × Int)) (s1 s2 : List Int) (w : World)
    (h1 : Rd w 0 w.heap.size 2 A1 n1 (prs l1)) (h2 : Rd w 0 w.heap.size 1 A2 n2 (s1.map (Value.int .i64))) (h3 : Rd w 0 w.heap.size 2 B1 m1 (prs l2)) (h4 : Rd w 0 w.heap.size 1 B2 m2 (s2.map (Value.int .i64)))
    (z1 : n1 ≤ maxLen) (z2 : n2 ≤ maxLen) (z3 : m1 ≤ maxLen) (z4 : m2 ≤ maxLen) (hmt : mayTwo l1 l2 s1 s2 = false) :
    Calls Try.prog 11 #[.agg #[.slice A1 n1 c1, .slice A2 n2 c2], .agg #[.slice B1 m1 d1, .slice B2 m2 d2], .agg #[.slice C1 o1 f1, .slice C2 o2 f2]] w fun e w' => e = .returned (.bool true) ∧ Below w.heap.size w w' := by
  have H1 := Lib.hid h1
  have H2 := Lib.hid h2
  have H3 := Lib.hid h3
  have H4 := Lib.hid h4
  have HMT := Lib.hid hmt
  clear h1 h2 h3 h4 hmt
  go_enter Try.func11, Try.ntmps11
  go_upto_region 1 with (fail)
  refine wp_abs (ThIn w (.slice A1 n1 c1) (.slice A2 n2 c2) (.slice B1 m1 d1) (.slice B2 m2 d2) (.slice C1 o1 f1) (.slice C2 o2 f2)) (ThIn.init w _ _ _ _ _ _) ?_
  intro w1 hw
  have HW := Lib.hid hw
  clear hw
  go_wp2_with fail
  refine (wakes_any w1).mono ?_
  rintro e w2 ⟨rfl, hb⟩
  have HX := Lib.hid (HW.out.on hb)
  clear hb HW
  have a0 : w2.cell? ⟨w.heap.size, 0, none⟩ = some (.slice A1 n1 c1) := HX.out.b0.cell 0
  have a1 : w2.cell? ⟨w.heap.size, 1, none⟩ = some (.slice A2 n2 c2) := HX.out.b0.cell 1
  have b0 : w2.cell? ⟨w.heap.size + 1, 0, none⟩ = some (.slice B1 m1 d1) := HX.out.b1.cell 0
  have b1 : w2.cell? ⟨w.heap.size + 1, 1, none⟩ = some (.slice B2 m2 d2) := HX.out.b1.cell 1
  go_wp2_with fail
  refine (meet_bad A1 A2 B1 B2 n1 c1 n2 c2 m1 d1 m2 d2 0 0 0 0 l1 l2 s1 s2 w2 (H1.out.up HX.out.below HX.out.below.size) (H2.out.up HX.out.below HX.out.below.size) (H3.out.up HX.out.below HX.out.below.size) (H4.out.up HX.out.below HX.out.below.size) z1 z2 z3 z4 HMT.out).mono ?_
  rintro e w3 ⟨rfl, hb⟩
  have HY := Lib.hid (HX.out.on hb)
  clear hb HX a0 a1 b0 b1
  go_upto_region 4 with (fail)
  refine wp_abs (fun wx => ThIn w (.slice A1 n1 c1) (.slice A2 n2 c2) (.slice B1 m1 d1) (.slice B2 m2 d2) (.slice C1 o1 f1) (.slice C2 o2 f2) wx) (HY.out.on ((Below.refl _ _).alloc (Nat.le_refl _) _)) ?_
  intro w4 hS
  have HZ := Lib.hid hS
  clear hS HY
  have a0 : w4.cell? ⟨w.heap.size, 0, none⟩ = some (.slice A1 n1 c1) := HZ.out.b0.cell 0
  have a1 : w4.cell? ⟨w.heap.size, 1, none⟩ = some (.slice A2 n2 c2) := HZ.out.b0.cell 1
  have b0 : w4.cell? ⟨w.heap.size + 1, 0, none⟩ = some (.slice B1 m1 d1) := HZ.out.b1.cell 0
  have b1 : w4.cell? ⟨w.heap.size + 1, 1, none⟩ = some (.slice B2 m2 d2) := HZ.out.b1.cell 1
  go_wp2_with fail
  refine (join_bad A1 A2 B1 B2 n1 c1 n2 c2 m1 d1 m2 d2 0 0 0 0 l1 l2 s1 s2 w4 (H1.out.up HZ.out.below HZ.out.below.size) (H2.out.up HZ.out.below HZ.out.below.size) (H3.out.up HZ.out.below HZ.out.below.size) (H4.out.up HZ.out.below HZ.out.below.size) z1 z2 z3 z4 HMT.out).mono ?_
  rintro e w5 ⟨rfl, hb⟩
  have HV := Lib.hid (HZ.out.on hb)
  clear hb HZ a0 a1 b0 b1
  go_upto_region 5 with (fail)
  refine wp_abs (fun wx => ThIn w (.slice A1 n1 c1) (.slice A2 n2 c2) (.slice B1 m1 d1) (.slice B2 m2 d2) (.slice C1 o1 f1) (.slice C2 o2 f2) wx) (HV.out.on ((Below.refl _ _).alloc (Nat.le_refl _) _)) ?_
  intro w6 hS
  have HU := Lib.hid hS
  clear hS HV
  go_wp2_with fail
  refine (wakes_any w6).mono ?_
  rintro e w7 ⟨rfl, hb⟩
  have HQ := Lib.hid (HU.out.on hb)
  clear hb HU
  go_wp2
  go_ret
  exact ⟨rfl, HQ.out.below⟩

set_option maxHeartbeats 8000000 in
set_option maxRecDepth 100000 in
theorem schemeLattice_ok (A1 A2 B1 B2 C1 C2 : Option Addr) (n1 c1 n2 c2 d1 m2 d2 o1 f1 o2 f2 : Nat) (l1 l2 l3 : List (Int × Int)) (s1 s2 s3 : List Int) (w : World)
    (h1 : Rd w 0 w.heap.size 2 A1 n1 (prs l1)) (h2 : Rd w 0 w.heap.size 1 A2 n2 (s1.map (Value.int .i64))) (h3 : Rd w 0 w.heap.size 2 B1 n1 (prs l2)) (h4 : Rd w 0 w.heap.size 1 B2 m2 (s2.map (Value.int .i64))) (h5 : Rd w 0 w.heap.size 2 C1 o1 (prs l3)) (h6 : Rd w 0 w.heap.size 1 C2 o2 (s3.map (Value.int .i64)))
    (z1 : n1 ≤ maxLen) (z2 : n2 ≤ maxLen) (z4 : m2 ≤ maxLen) (z5 : o1 ≤ maxLen) (z6 : o2 ≤ maxLen) (hmt : mayTwo l1 l2 s1 s2 = true) :
    Calls Try.prog 11 #[.agg #[.slice A1 n1 c1, .slice A2 n2 c2], .agg #[.slice B1 n1 d1, .slice B2 m2 d2], .agg #[.slice C1 o1 f1, .slice C2 o2 f2]] w fun e w' => e = .returned (.bool true) ∧ Below w.heap.size w w' := by
  have hl1 : l1.length = n1 := by have := h1.1; rw [prs_len] at this; omega
  have hl2 : l2.length = n1 := by have := h3.1; rw [prs_len] at this; omega
  have hl3 : l3.length = o1 := by have := h5.1; rw [prs_len] at this; omega
  have ht1 : s1.length = n2 := by have := h2.1; simpa using this
  obtain ⟨hm1, hm2, _⟩ := mayTwo_parts hmt
  have H1 := Lib.hid h1
  have H2 := Lib.hid h2
  have H3 := Lib.hid h3
  have H4 := Lib.hid h4
  have H5 := Lib.hid h5
  have H6 := Lib.hid h6
  have HMT := Lib.hid hmt
  have HLN := Lib.hid (And.intro hl1 (And.intro hl2 (And.intro hl3 ht1)))
  have HMM := Lib.hid (And.intro hm1 hm2)
  clear h1 h2 h3 h4 h5 h6 hmt hl1 hl2 hl3 ht1 hm1 hm2
  go_enter Try.func11, Try.ntmps11
  go_upto_region 1 with (fail)
  refine wp_abs (ThIn w (.slice A1 n1 c1) (.slice A2 n2 c2) (.slice B1 n1 d1) (.slice B2 m2 d2) (.slice C1 o1 f1) (.slice C2 o2 f2)) (ThIn.init w _ _ _ _ _ _) ?_
  intro w1 hw
  have HW := Lib.hid hw
  clear hw
  go_wp2_with fail
  refine (wakes_any w1).mono ?_
  rintro e w2 ⟨rfl, hb⟩
  have HX := Lib.hid (HW.out.on hb)
  clear hb HW
  have a0 : w2.cell? ⟨w.heap.size, 0, none⟩ = some (.slice A1 n1 c1) := HX.out.b0.cell 0
  have a1 : w2.cell? ⟨w.heap.size, 1, none⟩ = some (.slice A2 n2 c2) := HX.out.b0.cell 1
  have b0 : w2.cell? ⟨w.heap.size + 1, 0, none⟩ = some (.slice B1 n1 d1) := HX.out.b1.cell 0
  have b1 : w2.cell? ⟨w.heap.size + 1, 1, none⟩ = some (.slice B2 m2 d2) := HX.out.b1.cell 1
  go_wp2_with fail
  refine (meet_ok A1 A2 B1 B2 n1 c1 n2 c2 d1 m2 d2 0 0 0 0 l1 l2 s1 s2 w2 (H1.out.up HX.out.below HX.out.below.size) (H2.out.up HX.out.below HX.out.below.size) (H3.out.up HX.out.below HX.out.below.size) (H4.out.up HX.out.below HX.out.below.size) HMT.out).mono ?_
  rintro e w3 ⟨M1, k1, M2, k2, rfl, r3, r4, hb⟩
  have HY := Lib.hid (And.intro (HX.out.on hb) (And.intro r3 r4))
  clear hb HX a0 a1 b0 b1 r3 r4
  have hM : Hid (madeE l1 l2 (mtF l1 l2 n1) = 0 → may (madeL l1 l2 (mtF l1 l2 n1)) s1 = true ∧ (madeL l1 l2 (mtF l1 l2 n1)).length = n1 ∧ (madeS l1 l2 (mtF l1 l2 n1) s1) = s1 ∧ withinF (madeL l1 l2 (mtF l1 l2 n1)) l1 = true ∧ withinF (madeL l1 l2 (mtF l1 l2 n1)) l2 = true ∧ (l3.length = n1 → (withinF l3 l1 && withinF l3 l2) = withinF l3 (madeL l1 l2 (mtF l1 l2 n1)))) := fun he =>
    ⟨made_may he (by rw [mtF_len, HLN.out.1]) HMM.out.1, by rw [made_len he, mtF_len], madeS_zero he, (meet_in he).1, (meet_in he).2, fun h => meet_great h he⟩
  generalize madeL l1 l2 (mtF l1 l2 n1) = ml at *
  generalize madeS l1 l2 (mtF l1 l2 n1) s1 = ms at *
  generalize madeE l1 l2 (mtF l1 l2 n1) = me at *
  generalize hnm : ml.length = nm at *
  generalize hns : ms.length = ns at *
  have HNM := Lib.hid (And.intro hnm hns)
  clear hnm hns
  go_upto_region 4 with (fail)
  refine wp_abs (fun wx => ThIn w (.slice A1 n1 c1) (.slice A2 n2 c2) (.slice B1 n1 d1) (.slice B2 m2 d2) (.slice C1 o1 f1) (.slice C2 o2 f2) wx ∧ Blk wx w3.heap.size 26 #[.slice M1 nm k1, .slice M2 ns k2] ∧ wx.ownsRow 0 66 2 (.slice M1 nm k1) nm (prs ml) ∧ wx.ownsRow 0 3 1 (.slice M2 ns k2) ns (ms.map (Value.int .i64))) ⟨HY.out.1.on ((Below.refl _ _).alloc (Nat.le_refl _) _), Blk.new _ _ _, own_more (HY.out.2.1.alloc _) (Nat.zero_le _), own_more (HY.out.2.2.alloc _) (Nat.zero_le _)⟩ ?_
  rintro w4 ⟨hS, hB, r3, r4⟩
  have HZ := Lib.hid (And.intro hS (And.intro hB (And.intro r3 r4)))
  clear hS hB HY r3 r4
  generalize w3.heap.size = q7 at *
  have a0 : w4.cell? ⟨w.heap.size, 0, none⟩ = some (.slice A1 n1 c1) := HZ.out.1.b0.cell 0
  have a1 : w4.cell? ⟨w.heap.size, 1, none⟩ = some (.slice A2 n2 c2) := HZ.out.1.b0.cell 1
  have b0 : w4.cell? ⟨w.heap.size + 1, 0, none⟩ = some (.slice B1 n1 d1) := HZ.out.1.b1.cell 0
  have b1 : w4.cell? ⟨w.heap.size + 1, 1, none⟩ = some (.slice B2 m2 d2) := HZ.out.1.b1.cell 1
  go_wp2_with fail
  refine (join_ok A1 A2 B1 B2 n1 c1 n2 c2 d1 m2 d2 0 0 0 0 l1 l2 s1 s2 w4 (H1.out.up HZ.out.1.below HZ.out.1.below.size) (H2.out.up HZ.out.1.below HZ.out.1.below.size) (H3.out.up HZ.out.1.below HZ.out.1.below.size) (H4.out.up HZ.out.1.below HZ.out.1.below.size) HMT.out).mono ?_
  rintro e w5 ⟨J1, j1, J2, j2, rfl, r5, r6, hb⟩
  have HV := Lib.hid (And.intro (HZ.out.1.on hb) (And.intro (HZ.out.2.1.below hb HZ.out.2.1.lt) (And.intro (own_stay HZ.out.2.2.1 (Only.of_below hb _)) (And.intro (own_stay HZ.out.2.2.2 (Only.of_below hb _)) (And.intro r5 r6)))))
  clear hb HZ a0 a1 b0 b1 r5 r6
  have hJ : Hid (madeE l1 l2 (jnF l1 l2 n1) = 0 → may (madeL l1 l2 (jnF l1 l2 n1)) s1 = true ∧ (madeL l1 l2 (jnF l1 l2 n1)).length = n1 ∧ (madeS l1 l2 (jnF l1 l2 n1) s1) = s1 ∧ withinF l1 (madeL l1 l2 (jnF l1 l2 n1)) = true ∧ withinF l2 (madeL l1 l2 (jnF l1 l2 n1)) = true ∧ (withinF l1 l3 && withinF l2 l3) = withinF (madeL l1 l2 (jnF l1 l2 n1)) l3) := fun he =>
    ⟨made_may he (by rw [jnF_len, HLN.out.1]) HMM.out.1, by rw [made_len he, jnF_len], madeS_zero he, (join_in HLN.out.1 HLN.out.2.1 he).1, (join_in HLN.out.1 HLN.out.2.1 he).2, join_least HLN.out.1 HLN.out.2.1 he⟩
  generalize madeL l1 l2 (jnF l1 l2 n1) = jl at *
  generalize madeS l1 l2 (jnF l1 l2 n1) s1 = js at *
  generalize madeE l1 l2 (jnF l1 l2 n1) = je at *
  generalize hnj : jl.length = nj at *
  generalize hnk : js.length = nk at *
  have HNJ := Lib.hid (And.intro hnj hnk)
  clear hnj hnk
  go_upto_region 5 with (fail)
  refine wp_abs (fun wx => ThIn w (.slice A1 n1 c1) (.slice A2 n2 c2) (.slice B1 n1 d1) (.slice B2 m2 d2) (.slice C1 o1 f1) (.slice C2 o2 f2) wx ∧ NoSt q7 w5.heap.size (.slice M1 nm k1) (.slice M2 ns k2) (.slice J1 nj j1) (.slice J2 nk j2) nm ns nj nk ml jl ms js wx) ⟨HV.out.1.on ((Below.refl _ _).alloc (Nat.le_refl _) _), ⟨HV.out.2.1.alloc _, Blk.new _ _ _, HV.out.2.2.1.alloc _, HV.out.2.2.2.1.alloc _, own_more (HV.out.2.2.2.2.1.alloc _) (Nat.zero_le _), own_more (HV.out.2.2.2.2.2.alloc _) (Nat.zero_le _)⟩⟩ ?_
  rintro w6 ⟨hS, hB⟩
  have HU := Lib.hid (And.intro hS hB)
  clear hS hB HV
  generalize w5.heap.size = q9 at *
  go_upto_if 46 with (fail)
  go_cut [11] (fun _ wx => Hid (ThIn w (.slice A1 n1 c1) (.slice A2 n2 c2) (.slice B1 n1 d1) (.slice B2 m2 d2) (.slice C1 o1 f1) (.slice C2 o2 f2) wx ∧ NoSt q7 q9 (.slice M1 nm k1) (.slice M2 ns k2) (.slice J1 nj j1) (.slice J2 nk j2) nm ns nj nk ml jl ms js wx))
  case first =>
    by_cases hme : me = 0
    · obtain ⟨g1, g2, g3, g4, g5, g6⟩ := hM.out hme
      obtain rfl : n1 = nm := by have := HNM.out.1; omega
      replace g3 := g3.symm; subst g3 hme
      obtain rfl : n2 = ns := by have := HNM.out.2; have := HLN.out.2.2.2; omega
      have HG := Lib.hid (And.intro g1 (And.intro g2 (And.intro g4 (And.intro g5 g6))))
      clear g1 g2 g4 g5 g6
      have hmc : Hid (mayTwo l3 l1 s3 s1 = (may l3 s3 && decide (l3.length = n1)) ∧ mayTwo l3 l2 s3 s2 = (may l3 s3 && decide (l3.length = n1)) ∧ mayTwo l3 ml s3 s1 = (may l3 s3 && decide (l3.length = n1))) := ⟨by rw [mt_right HMM.out.1, HLN.out.1], by rw [mt_right HMM.out.2, HLN.out.2.1], by rw [mt_right HG.out.1, HNM.out.1]⟩
      have x0 : w6.cell? ⟨q7, 0, none⟩ = some (.slice M1 n1 k1) := HU.out.2.b13.cell 0
      have x1 : w6.cell? ⟨q7, 1, none⟩ = some (.slice M2 n2 k2) := HU.out.2.b13.cell 1
      have y0 : w6.cell? ⟨w.heap.size, 0, none⟩ = some (.slice A1 n1 c1) := HU.out.1.b0.cell 0
      have y1 : w6.cell? ⟨w.heap.size, 1, none⟩ = some (.slice A2 n2 c2) := HU.out.1.b0.cell 1
      go_wp2_with fail
      refine (within_ok M1 M2 A1 A2 n1 k1 n2 k2 c1 n2 c2 0 0 0 0 ml l1 s1 s1 w6 (own_rdm HU.out.2.o1) (own_rdm HU.out.2.o2) (H1.out.up HU.out.1.below HU.out.1.below.size) (H2.out.up HU.out.1.below HU.out.1.below.size) (by rw [mt_right HMM.out.1, HG.out.1, HNM.out.1, HLN.out.1]; simp)).mono ?_
      rw [HG.out.2.2.1]
      rintro e v1 ⟨rfl, hb⟩
      have HP1 := Lib.hid (And.intro (HU.out.1.on hb) (HU.out.2.on hb))
      clear hb x0 x1 y0 y1
      have x0 : v1.cell? ⟨q7, 0, none⟩ = some (.slice M1 n1 k1) := HP1.out.2.b13.cell 0
      have x1 : v1.cell? ⟨q7, 1, none⟩ = some (.slice M2 n2 k2) := HP1.out.2.b13.cell 1
      have y0 : v1.cell? ⟨w.heap.size + 1, 0, none⟩ = some (.slice B1 n1 d1) := HP1.out.1.b1.cell 0
      have y1 : v1.cell? ⟨w.heap.size + 1, 1, none⟩ = some (.slice B2 m2 d2) := HP1.out.1.b1.cell 1
      go_wp2_with fail
      refine (within_ok M1 M2 B1 B2 n1 k1 n2 k2 d1 m2 d2 0 0 0 0 ml l2 s1 s2 v1 (own_rdm HP1.out.2.o1) (own_rdm HP1.out.2.o2) (H3.out.up HP1.out.1.below HP1.out.1.below.size) (H4.out.up HP1.out.1.below HP1.out.1.below.size) (by rw [mt_right HMM.out.2, HG.out.1, HNM.out.1, HLN.out.2.1]; simp)).mono ?_
      rw [HG.out.2.2.2.1]
      rintro e v2 ⟨rfl, hb⟩
      have HP2 := Lib.hid (And.intro (HP1.out.1.on hb) (HP1.out.2.on hb))
      clear hb x0 x1 y0 y1
      rcases bool_or (may l3 s3 && decide (l3.length = n1)) with hcd | hcd
      ·
        have HCD := Lib.hid hcd
        clear hcd
        have x0 : v2.cell? ⟨w.heap.size + 2, 0, none⟩ = some (.slice C1 o1 f1) := HP2.out.1.b2.cell 0
        have x1 : v2.cell? ⟨w.heap.size + 2, 1, none⟩ = some (.slice C2 o2 f2) := HP2.out.1.b2.cell 1
        have y0 : v2.cell? ⟨w.heap.size, 0, none⟩ = some (.slice A1 n1 c1) := HP2.out.1.b0.cell 0
        have y1 : v2.cell? ⟨w.heap.size, 1, none⟩ = some (.slice A2 n2 c2) := HP2.out.1.b0.cell 1
        go_wp2_with fail
        refine (within_bad C1 C2 A1 A2 o1 f1 o2 f2 n1 c1 n2 c2 0 0 0 0 l3 l1 s3 s1 v2 (H5.out.up HP2.out.1.below HP2.out.1.below.size) (H6.out.up HP2.out.1.below HP2.out.1.below.size) (H1.out.up HP2.out.1.below HP2.out.1.below.size) (H2.out.up HP2.out.1.below HP2.out.1.below.size) (by assumption) (by assumption) (by assumption) (by assumption) (by rw [hmc.out.1, HCD.out])).mono ?_
        rintro e v3 ⟨rfl, hb⟩
        have HP3 := Lib.hid (And.intro (HP2.out.1.on hb) (HP2.out.2.on hb))
        clear hb x0 x1 y0 y1
        have x0 : v3.cell? ⟨w.heap.size + 2, 0, none⟩ = some (.slice C1 o1 f1) := HP3.out.1.b2.cell 0
        have x1 : v3.cell? ⟨w.heap.size + 2, 1, none⟩ = some (.slice C2 o2 f2) := HP3.out.1.b2.cell 1
        have y0 : v3.cell? ⟨w.heap.size + 1, 0, none⟩ = some (.slice B1 n1 d1) := HP3.out.1.b1.cell 0
        have y1 : v3.cell? ⟨w.heap.size + 1, 1, none⟩ = some (.slice B2 m2 d2) := HP3.out.1.b1.cell 1
        go_wp2_with fail
        refine (within_bad C1 C2 B1 B2 o1 f1 o2 f2 n1 d1 m2 d2 0 0 0 0 l3 l2 s3 s2 v3 (H5.out.up HP3.out.1.below HP3.out.1.below.size) (H6.out.up HP3.out.1.below HP3.out.1.below.size) (H3.out.up HP3.out.1.below HP3.out.1.below.size) (H4.out.up HP3.out.1.below HP3.out.1.below.size) (by assumption) (by assumption) (by assumption) (by assumption) (by rw [hmc.out.2.1, HCD.out])).mono ?_
        rintro e v4 ⟨rfl, hb⟩
        have HP4 := Lib.hid (And.intro (HP3.out.1.on hb) (HP3.out.2.on hb))
        clear hb x0 x1 y0 y1
        have x0 : v4.cell? ⟨w.heap.size + 2, 0, none⟩ = some (.slice C1 o1 f1) := HP4.out.1.b2.cell 0
        have x1 : v4.cell? ⟨w.heap.size + 2, 1, none⟩ = some (.slice C2 o2 f2) := HP4.out.1.b2.cell 1
        have y0 : v4.cell? ⟨q7, 0, none⟩ = some (.slice M1 n1 k1) := HP4.out.2.b13.cell 0
        have y1 : v4.cell? ⟨q7, 1, none⟩ = some (.slice M2 n2 k2) := HP4.out.2.b13.cell 1
        go_wp2_with fail
        refine (within_bad C1 C2 M1 M2 o1 f1 o2 f2 n1 k1 n2 k2 0 0 0 0 l3 ml s3 s1 v4 (H5.out.up HP4.out.1.below HP4.out.1.below.size) (H6.out.up HP4.out.1.below HP4.out.1.below.size) (own_rdm HP4.out.2.o1) (own_rdm HP4.out.2.o2) (by assumption) (by assumption) (by assumption) (by assumption) (by rw [hmc.out.2.2, HCD.out])).mono ?_
        rintro e v5 ⟨rfl, hb⟩
        have HP5 := Lib.hid (And.intro (HP4.out.1.on hb) (HP4.out.2.on hb))
        clear hb x0 x1 y0 y1
        go_wp2_with (fail)
        go_meet
        exact HP5
      ·
        have HCD := Lib.hid hcd
        have hon : n1 = o1 := by simp only [Bool.and_eq_true, decide_eq_true_eq] at hcd; have := HLN.out.2.2.1; omega
        clear hcd
        subst hon
        have x0 : v2.cell? ⟨w.heap.size + 2, 0, none⟩ = some (.slice C1 n1 f1) := HP2.out.1.b2.cell 0
        have x1 : v2.cell? ⟨w.heap.size + 2, 1, none⟩ = some (.slice C2 o2 f2) := HP2.out.1.b2.cell 1
        have y0 : v2.cell? ⟨w.heap.size, 0, none⟩ = some (.slice A1 n1 c1) := HP2.out.1.b0.cell 0
        have y1 : v2.cell? ⟨w.heap.size, 1, none⟩ = some (.slice A2 n2 c2) := HP2.out.1.b0.cell 1
        go_wp2_with fail
        refine (within_ok C1 C2 A1 A2 n1 f1 o2 f2 c1 n2 c2 0 0 0 0 l3 l1 s3 s1 v2 (H5.out.up HP2.out.1.below HP2.out.1.below.size) (H6.out.up HP2.out.1.below HP2.out.1.below.size) (H1.out.up HP2.out.1.below HP2.out.1.below.size) (H2.out.up HP2.out.1.below HP2.out.1.below.size) (by rw [hmc.out.1, HCD.out])).mono ?_
        rintro e v3 ⟨rfl, hb⟩
        have HP3 := Lib.hid (And.intro (HP2.out.1.on hb) (HP2.out.2.on hb))
        clear hb x0 x1 y0 y1
        have x0 : v3.cell? ⟨w.heap.size + 2, 0, none⟩ = some (.slice C1 n1 f1) := HP3.out.1.b2.cell 0
        have x1 : v3.cell? ⟨w.heap.size + 2, 1, none⟩ = some (.slice C2 o2 f2) := HP3.out.1.b2.cell 1
        have y0 : v3.cell? ⟨w.heap.size + 1, 0, none⟩ = some (.slice B1 n1 d1) := HP3.out.1.b1.cell 0
        have y1 : v3.cell? ⟨w.heap.size + 1, 1, none⟩ = some (.slice B2 m2 d2) := HP3.out.1.b1.cell 1
        go_wp2_with fail
        refine (within_ok C1 C2 B1 B2 n1 f1 o2 f2 d1 m2 d2 0 0 0 0 l3 l2 s3 s2 v3 (H5.out.up HP3.out.1.below HP3.out.1.below.size) (H6.out.up HP3.out.1.below HP3.out.1.below.size) (H3.out.up HP3.out.1.below HP3.out.1.below.size) (H4.out.up HP3.out.1.below HP3.out.1.below.size) (by rw [hmc.out.2.1, HCD.out])).mono ?_
        rintro e v4 ⟨rfl, hb⟩
        have HP4 := Lib.hid (And.intro (HP3.out.1.on hb) (HP3.out.2.on hb))
        clear hb x0 x1 y0 y1
        have x0 : v4.cell? ⟨w.heap.size + 2, 0, none⟩ = some (.slice C1 n1 f1) := HP4.out.1.b2.cell 0
        have x1 : v4.cell? ⟨w.heap.size + 2, 1, none⟩ = some (.slice C2 o2 f2) := HP4.out.1.b2.cell 1
        have y0 : v4.cell? ⟨q7, 0, none⟩ = some (.slice M1 n1 k1) := HP4.out.2.b13.cell 0
        have y1 : v4.cell? ⟨q7, 1, none⟩ = some (.slice M2 n2 k2) := HP4.out.2.b13.cell 1
        go_wp2_with fail
        refine (within_ok C1 C2 M1 M2 n1 f1 o2 f2 k1 n2 k2 0 0 0 0 l3 ml s3 s1 v4 (H5.out.up HP4.out.1.below HP4.out.1.below.size) (H6.out.up HP4.out.1.below HP4.out.1.below.size) (own_rdm HP4.out.2.o1) (own_rdm HP4.out.2.o2) (by rw [hmc.out.2.2, HCD.out])).mono ?_
        rintro e v5 ⟨rfl, hb⟩
        have HP5 := Lib.hid (And.intro (HP4.out.1.on hb) (HP4.out.2.on hb))
        clear hb x0 x1 y0 y1
        have HFN := Lib.hid (HG.out.2.2.2.2 HLN.out.2.2.1)
        generalize withinF l3 l1 = wp at *
        generalize withinF l3 l2 = wq at *
        generalize withinF l3 ml = wr' at *
        have hfn := HFN.out
        subst hfn
        clear HFN
        cases wp <;> cases wq
        all_goals
          go_wp2_with (fail)
          go_meet
          exact HP5
    · have hne : (me == 0) = false := by simpa using hme
      go_wp2_with (fail)
      go_meet
      exact HU
  case rest =>
    have HU2 := Lib.hid hcut.out
    clear HU hcut
    go_upto_if 102 with (fail)
    go_cut [21] (fun _ wx => Hid (ThIn w (.slice A1 n1 c1) (.slice A2 n2 c2) (.slice B1 n1 d1) (.slice B2 m2 d2) (.slice C1 o1 f1) (.slice C2 o2 f2) wx))
    case first =>
      by_cases hje : je = 0
      · obtain ⟨g1, g2, g3, g4, g5, g6⟩ := hJ.out hje
        obtain rfl : n1 = nj := by have := HNJ.out.1; omega
        replace g3 := g3.symm; subst g3 hje
        obtain rfl : n2 = nk := by have := HNJ.out.2; have := HLN.out.2.2.2; omega
        have HG := Lib.hid (And.intro g1 (And.intro g2 (And.intro g4 (And.intro g5 g6))))
        clear g1 g2 g4 g5 g6
        have hmc : Hid (mayTwo l1 l3 s1 s3 = (may l3 s3 && decide (n1 = l3.length)) ∧ mayTwo l2 l3 s2 s3 = (may l3 s3 && decide (n1 = l3.length)) ∧ mayTwo jl l3 s1 s3 = (may l3 s3 && decide (n1 = l3.length))) := ⟨by rw [mt_left HMM.out.1, HLN.out.1], by rw [mt_left HMM.out.2, HLN.out.2.1], by rw [mt_left HG.out.1, HNJ.out.1]⟩
        have x0 : wc.cell? ⟨w.heap.size, 0, none⟩ = some (.slice A1 n1 c1) := HU2.out.1.b0.cell 0
        have x1 : wc.cell? ⟨w.heap.size, 1, none⟩ = some (.slice A2 n2 c2) := HU2.out.1.b0.cell 1
        have y0 : wc.cell? ⟨q9, 0, none⟩ = some (.slice J1 n1 j1) := HU2.out.2.b15.cell 0
        have y1 : wc.cell? ⟨q9, 1, none⟩ = some (.slice J2 n2 j2) := HU2.out.2.b15.cell 1
        go_wp2_with fail
        refine (within_ok A1 A2 J1 J2 n1 c1 n2 c2 j1 n2 j2 0 0 0 0 l1 jl s1 s1 wc (H1.out.up HU2.out.1.below HU2.out.1.below.size) (H2.out.up HU2.out.1.below HU2.out.1.below.size) (own_rdm HU2.out.2.o3) (own_rdm HU2.out.2.o4) (by rw [mt_right HG.out.1, HMM.out.1, HNJ.out.1, HLN.out.1]; simp)).mono ?_
        rw [HG.out.2.2.1]
        rintro e v1 ⟨rfl, hb⟩
        have HP1 := Lib.hid (And.intro (HU2.out.1.on hb) (HU2.out.2.on hb))
        clear hb x0 x1 y0 y1
        have x0 : v1.cell? ⟨w.heap.size + 1, 0, none⟩ = some (.slice B1 n1 d1) := HP1.out.1.b1.cell 0
        have x1 : v1.cell? ⟨w.heap.size + 1, 1, none⟩ = some (.slice B2 m2 d2) := HP1.out.1.b1.cell 1
        have y0 : v1.cell? ⟨q9, 0, none⟩ = some (.slice J1 n1 j1) := HP1.out.2.b15.cell 0
        have y1 : v1.cell? ⟨q9, 1, none⟩ = some (.slice J2 n2 j2) := HP1.out.2.b15.cell 1
        go_wp2_with fail
        refine (within_ok B1 B2 J1 J2 n1 d1 m2 d2 j1 n2 j2 0 0 0 0 l2 jl s2 s1 v1 (H3.out.up HP1.out.1.below HP1.out.1.below.size) (H4.out.up HP1.out.1.below HP1.out.1.below.size) (own_rdm HP1.out.2.o3) (own_rdm HP1.out.2.o4) (by rw [mt_right HG.out.1, HMM.out.2, HNJ.out.1, HLN.out.2.1]; simp)).mono ?_
        rw [HG.out.2.2.2.1]
        rintro e v2 ⟨rfl, hb⟩
        have HP2 := Lib.hid (And.intro (HP1.out.1.on hb) (HP1.out.2.on hb))
        clear hb x0 x1 y0 y1
        rcases bool_or (may l3 s3 && decide (n1 = l3.length)) with hcd | hcd
        ·
          have HCD := Lib.hid hcd
          clear hcd
          have x0 : v2.cell? ⟨w.heap.size, 0, none⟩ = some (.slice A1 n1 c1) := HP2.out.1.b0.cell 0
          have x1 : v2.cell? ⟨w.heap.size, 1, none⟩ = some (.slice A2 n2 c2) := HP2.out.1.b0.cell 1
          have y0 : v2.cell? ⟨w.heap.size + 2, 0, none⟩ = some (.slice C1 o1 f1) := HP2.out.1.b2.cell 0
          have y1 : v2.cell? ⟨w.heap.size + 2, 1, none⟩ = some (.slice C2 o2 f2) := HP2.out.1.b2.cell 1
          go_wp2_with fail
          refine (within_bad A1 A2 C1 C2 n1 c1 n2 c2 o1 f1 o2 f2 0 0 0 0 l1 l3 s1 s3 v2 (H1.out.up HP2.out.1.below HP2.out.1.below.size) (H2.out.up HP2.out.1.below HP2.out.1.below.size) (H5.out.up HP2.out.1.below HP2.out.1.below.size) (H6.out.up HP2.out.1.below HP2.out.1.below.size) (by assumption) (by assumption) (by assumption) (by assumption) (by rw [hmc.out.1, HCD.out])).mono ?_
          rintro e v3 ⟨rfl, hb⟩
          have HP3 := Lib.hid (And.intro (HP2.out.1.on hb) (HP2.out.2.on hb))
          clear hb x0 x1 y0 y1
          have x0 : v3.cell? ⟨w.heap.size + 1, 0, none⟩ = some (.slice B1 n1 d1) := HP3.out.1.b1.cell 0
          have x1 : v3.cell? ⟨w.heap.size + 1, 1, none⟩ = some (.slice B2 m2 d2) := HP3.out.1.b1.cell 1
          have y0 : v3.cell? ⟨w.heap.size + 2, 0, none⟩ = some (.slice C1 o1 f1) := HP3.out.1.b2.cell 0
          have y1 : v3.cell? ⟨w.heap.size + 2, 1, none⟩ = some (.slice C2 o2 f2) := HP3.out.1.b2.cell 1
          go_wp2_with fail
          refine (within_bad B1 B2 C1 C2 n1 d1 m2 d2 o1 f1 o2 f2 0 0 0 0 l2 l3 s2 s3 v3 (H3.out.up HP3.out.1.below HP3.out.1.below.size) (H4.out.up HP3.out.1.below HP3.out.1.below.size) (H5.out.up HP3.out.1.below HP3.out.1.below.size) (H6.out.up HP3.out.1.below HP3.out.1.below.size) (by assumption) (by assumption) (by assumption) (by assumption) (by rw [hmc.out.2.1, HCD.out])).mono ?_
          rintro e v4 ⟨rfl, hb⟩
          have HP4 := Lib.hid (And.intro (HP3.out.1.on hb) (HP3.out.2.on hb))
          clear hb x0 x1 y0 y1
          have x0 : v4.cell? ⟨q9, 0, none⟩ = some (.slice J1 n1 j1) := HP4.out.2.b15.cell 0
          have x1 : v4.cell? ⟨q9, 1, none⟩ = some (.slice J2 n2 j2) := HP4.out.2.b15.cell 1
          have y0 : v4.cell? ⟨w.heap.size + 2, 0, none⟩ = some (.slice C1 o1 f1) := HP4.out.1.b2.cell 0
          have y1 : v4.cell? ⟨w.heap.size + 2, 1, none⟩ = some (.slice C2 o2 f2) := HP4.out.1.b2.cell 1
          go_wp2_with fail
          refine (within_bad J1 J2 C1 C2 n1 j1 n2 j2 o1 f1 o2 f2 0 0 0 0 jl l3 s1 s3 v4 (own_rdm HP4.out.2.o3) (own_rdm HP4.out.2.o4) (H5.out.up HP4.out.1.below HP4.out.1.below.size) (H6.out.up HP4.out.1.below HP4.out.1.below.size) (by assumption) (by assumption) (by assumption) (by assumption) (by rw [hmc.out.2.2, HCD.out])).mono ?_
          rintro e v5 ⟨rfl, hb⟩
          have HP5 := Lib.hid (And.intro (HP4.out.1.on hb) (HP4.out.2.on hb))
          clear hb x0 x1 y0 y1
          go_wp2_with (fail)
          go_meet
          exact Lib.hid HP5.out.1
        ·
          have HCD := Lib.hid hcd
          have hon : n1 = o1 := by simp only [Bool.and_eq_true, decide_eq_true_eq] at hcd; have := HLN.out.2.2.1; omega
          clear hcd
          subst hon
          have x0 : v2.cell? ⟨w.heap.size, 0, none⟩ = some (.slice A1 n1 c1) := HP2.out.1.b0.cell 0
          have x1 : v2.cell? ⟨w.heap.size, 1, none⟩ = some (.slice A2 n2 c2) := HP2.out.1.b0.cell 1
          have y0 : v2.cell? ⟨w.heap.size + 2, 0, none⟩ = some (.slice C1 n1 f1) := HP2.out.1.b2.cell 0
          have y1 : v2.cell? ⟨w.heap.size + 2, 1, none⟩ = some (.slice C2 o2 f2) := HP2.out.1.b2.cell 1
          go_wp2_with fail
          refine (within_ok A1 A2 C1 C2 n1 c1 n2 c2 f1 o2 f2 0 0 0 0 l1 l3 s1 s3 v2 (H1.out.up HP2.out.1.below HP2.out.1.below.size) (H2.out.up HP2.out.1.below HP2.out.1.below.size) (H5.out.up HP2.out.1.below HP2.out.1.below.size) (H6.out.up HP2.out.1.below HP2.out.1.below.size) (by rw [hmc.out.1, HCD.out])).mono ?_
          rintro e v3 ⟨rfl, hb⟩
          have HP3 := Lib.hid (And.intro (HP2.out.1.on hb) (HP2.out.2.on hb))
          clear hb x0 x1 y0 y1
          have x0 : v3.cell? ⟨w.heap.size + 1, 0, none⟩ = some (.slice B1 n1 d1) := HP3.out.1.b1.cell 0
          have x1 : v3.cell? ⟨w.heap.size + 1, 1, none⟩ = some (.slice B2 m2 d2) := HP3.out.1.b1.cell 1
          have y0 : v3.cell? ⟨w.heap.size + 2, 0, none⟩ = some (.slice C1 n1 f1) := HP3.out.1.b2.cell 0
          have y1 : v3.cell? ⟨w.heap.size + 2, 1, none⟩ = some (.slice C2 o2 f2) := HP3.out.1.b2.cell 1
          go_wp2_with fail
          refine (within_ok B1 B2 C1 C2 n1 d1 m2 d2 f1 o2 f2 0 0 0 0 l2 l3 s2 s3 v3 (H3.out.up HP3.out.1.below HP3.out.1.below.size) (H4.out.up HP3.out.1.below HP3.out.1.below.size) (H5.out.up HP3.out.1.below HP3.out.1.below.size) (H6.out.up HP3.out.1.below HP3.out.1.below.size) (by rw [hmc.out.2.1, HCD.out])).mono ?_
          rintro e v4 ⟨rfl, hb⟩
          have HP4 := Lib.hid (And.intro (HP3.out.1.on hb) (HP3.out.2.on hb))
          clear hb x0 x1 y0 y1
          have x0 : v4.cell? ⟨q9, 0, none⟩ = some (.slice J1 n1 j1) := HP4.out.2.b15.cell 0
          have x1 : v4.cell? ⟨q9, 1, none⟩ = some (.slice J2 n2 j2) := HP4.out.2.b15.cell 1
          have y0 : v4.cell? ⟨w.heap.size + 2, 0, none⟩ = some (.slice C1 n1 f1) := HP4.out.1.b2.cell 0
          have y1 : v4.cell? ⟨w.heap.size + 2, 1, none⟩ = some (.slice C2 o2 f2) := HP4.out.1.b2.cell 1
          go_wp2_with fail
          refine (within_ok J1 J2 C1 C2 n1 j1 n2 j2 f1 o2 f2 0 0 0 0 jl l3 s1 s3 v4 (own_rdm HP4.out.2.o3) (own_rdm HP4.out.2.o4) (H5.out.up HP4.out.1.below HP4.out.1.below.size) (H6.out.up HP4.out.1.below HP4.out.1.below.size) (by rw [hmc.out.2.2, HCD.out])).mono ?_
          rintro e v5 ⟨rfl, hb⟩
          have HP5 := Lib.hid (And.intro (HP4.out.1.on hb) (HP4.out.2.on hb))
          clear hb x0 x1 y0 y1
          have HFN := Lib.hid (HG.out.2.2.2.2)
          generalize withinF l1 l3 = wp at *
          generalize withinF l2 l3 = wq at *
          generalize withinF jl l3 = wr' at *
          have hfn := HFN.out
          subst hfn
          clear HFN
          cases wp <;> cases wq
          all_goals
            go_wp2_with (fail)
            go_meet
            exact Lib.hid HP5.out.1
      · have hne : (je == 0) = false := by simpa using hje
        go_wp2_with (fail)
        go_meet
        exact Lib.hid HU2.out.1
    case rest =>
      have HR := Lib.hid hcut.out
      clear HU2 hcut
      rename_i wd
      go_wp2_with fail
      refine (wakes_any _).mono ?_
      rintro e w7 ⟨rfl, hb⟩
      have HQ := Lib.hid (HR.out.on hb)
      clear hb HR
      go_wp2
      go_ret
      exact ⟨rfl, HQ.out.below⟩
end Go.Proofs.Ytbjfbmienlojkaa
