/- made: the scheme whose lines are alike by their marks (what it computes; words for memory; the counting of the marks).
   Meet, Join, Rank: refused schemes; none.
   Meet: the marks (no program in sight), and words for memory. -/
import Derived.Test.YtbjfbmienlojkaaT45
import Derived.Test.YtbjfbmienlojkaaT15
import Derived.Test.YtbjfbmienlojkaaT47
import Derived.WideKeyPair
import Derived.DeepKeys4
namespace Go.Proofs.Ytbjfbmienlojkaa
open Go.RowKit Go.Maps

/-- where an int first stands -/
def posI : List Int → Int → Option Nat
  | [], _ => none
  | a :: t, s => if a = s then some 0 else (posI t s).map (· + 1)
theorem posI_some {l : List Int} {s : Int} {p : Nat} (h : posI l s = some p) : l[p]? = some s ∧ ∀ q, q < p → l[q]? ≠ some s := by
  induction l generalizing p with
  | nil => cases h
  | cons a t ih =>
    unfold posI at h
    by_cases e : a = s
    · rw [if_pos e] at h
      injection h with h
      subst h e
      exact ⟨rfl, fun q hq => absurd hq (Nat.not_lt_zero _)⟩
    · rw [if_neg e] at h
      cases hp : posI t s with
      | none => rw [hp] at h; cases h
      | some r =>
        rw [hp] at h
        injection h with h
        subst h
        obtain ⟨h1, h2⟩ := ih hp
        refine ⟨h1, fun q hq => ?_⟩
        cases q with
        | zero => simpa using e
        | succ q => exact h2 q (Nat.lt_of_succ_lt_succ hq)
theorem posI_lt {l : List Int} {s : Int} {p : Nat} (h : posI l s = some p) : p < l.length := (List.getElem?_eq_some_iff.1 (posI_some h).1).1
theorem posI_snoc (l : List Int) (s x : Int) : posI (l ++ [x]) s = match posI l s with | some p => some p | none => if x = s then some l.length else none := by
  induction l with
  | nil => simp only [List.nil_append, posI]; split <;> rfl
  | cons a t ih =>
    simp only [List.cons_append, posI]
    by_cases e : a = s
    · rw [if_pos e, if_pos e]
    · rw [if_neg e, if_neg e, ih]
      cases posI t s with
      | some p => rfl
      | none =>
        simp only [Option.map_none]
        by_cases ex : x = s
        · rw [if_pos ex, if_pos ex]; rfl
        · rw [if_neg ex, if_neg ex]; rfl

/-- how often an int stands in a list -/
def cntI (l : List Int) (x : Int) : Nat := (l.filter (fun y => decide (y = x))).length
theorem cntI_snoc (l : List Int) (x y : Int) : cntI (l ++ [y]) x = if y = x then cntI l x + 1 else cntI l x := by
  unfold cntI
  rw [List.filter_append, List.length_append]
  by_cases h : y = x <;> simp [h]
theorem cntI_le (l : List Int) (x : Int) : cntI l x ≤ l.length := List.length_filter_le _ _

/-- is line i alone, and no line that rhymes? -/
def loneAt (l1 l2 : List (Int × Int)) (mk : List Int) (i : Nat) (m : Int) : Bool := decide (cntI mk m = 1) && (decide (clsAt l1 i < 0) && decide (clsAt l2 i < 0))
def mdStep (lone : Bool) (m : Int) (st : List Int × List (Int × Int)) : List Int × List (Int × Int) :=
  if lone then (st.1, st.2 ++ [(-1, 0)])
  else match posI st.1 m with
    | some p => (st.1, st.2 ++ [((p : Int), 0)])
    | none => (st.1 ++ [m], st.2 ++ [((st.1.length : Int), 0)])
def md (l1 l2 : List (Int × Int)) (mk : List Int) : Nat → List Int × List (Int × Int)
  | 0 => ([], [])
  | i + 1 => mdStep (loneAt l1 l2 mk i (mk.getD i 0)) (mk.getD i 0) (md l1 l2 mk i)
theorem md_len (l1 l2 : List (Int × Int)) (mk : List Int) : ∀ i, (md l1 l2 mk i).2.length = i ∧ (md l1 l2 mk i).1.length ≤ i := by
  intro i
  induction i with
  | zero => exact ⟨rfl, Nat.le_refl _⟩
  | succ i ih =>
    unfold md mdStep
    split
    · simp; omega
    · split <;> simp <;> omega
def madeE (l1 l2 : List (Int × Int)) (mk : List Int) : Int := if 25 < (md l1 l2 mk mk.length).1.length then 5 else 0
def madeL (l1 l2 : List (Int × Int)) (mk : List Int) : List (Int × Int) := if madeE l1 l2 mk = 0 then (md l1 l2 mk mk.length).2 else []
def madeS (l1 l2 : List (Int × Int)) (mk : List Int) (st : List Int) : List Int := if madeE l1 l2 mk = 0 then st else []

theorem lawI : Keyed Try.prog 3 := int_keyed Try.underlying3
def litI (x : Int) : Lit := .int .i64 x
theorem litI_inj {s t : Int} (h : litI s = litI t) : s = t := by injection h
theorem wf_small {x : Int} (h : -1000000 ≤ x ∧ x ≤ 1000000) : (Lit.int .i64 x).wf = true := by
  simp only [Lit.wf, Bool.and_eq_true, decide_eq_true_eq]
  have h1 : IntKind.i64.min = -9223372036854775808 := by decide
  have h2 : IntKind.i64.max = 9223372036854775807 := by decide
  rw [h1, h2]
  omega
theorem keyI {x : Int} (h : 0 ≤ x ∧ x ≤ 1000) : keyOf Try.prog 3 (.int .i64 x) = some (litI x) := keyOf_int_mk Try.underlying3 (wf_small (by omega))
/-- a map by ints holds how often each stands in a list -/
def CntIs (m : Lit → Option Int) (l : List Int) : Prop := ∀ x, m (litI x) = if cntI l x = 0 then none else some (cntI l x : Int)
theorem CntIs.put {m : Lit → Option Int} {l : List Int} (h : CntIs m l) (y : Int) : CntIs (updM m (litI y) ((cntI l y : Int) + 1)) (l ++ [y]) := by
  intro x
  rw [cntI_snoc]
  by_cases e : x = y
  · subst e
    rw [updM_same, if_pos rfl, if_neg (by omega)]
    simp
  · rw [updM_other _ _ (fun he => e (litI_inj he)), show (if y = x then cntI l x + 1 else cntI l x) = cntI l x from if_neg (fun he => e he.symm)]
    exact h x
theorem CntIs.look {m : Lit → Option Int} {l : List Int} (h : CntIs m l) (x : Int) : (m (litI x)).getD 0 = (cntI l x : Int) := by
  rw [h x]
  by_cases e : cntI l x = 0
  · rw [if_pos e, e]; rfl
  · rw [if_neg e]; rfl
/-- a map by ints holds the places in a list -/
def PosI (m : Lit → Option Int) (ds : List Int) : Prop := ∀ s, m (litI s) = (posI ds s).map fun p => (p : Int)
theorem PosI.put {m : Lit → Option Int} {ds : List Int} (h : PosI m ds) {s : Int} (hs : posI ds s = none) : PosI (updM m (litI s) (ds.length : Int)) (ds ++ [s]) := by
  intro t
  rw [posI_snoc]
  by_cases e : t = s
  · subst e
    rw [updM_same, hs]
    simp
  · rw [updM_other _ _ (fun he => e (litI_inj he)), h t]
    cases hp : posI ds t with
    | some p => rfl
    | none =>
      have : ¬ s = t := fun h => e h.symm
      simp [this]

/-- memory while made counts the marks -/
structure McSt (w0 : World) (a1 a2 b1 b2 : Value) (pre : List Int) (w : World) : Prop where
  b3 : Blk w w0.heap.size 26 #[a1, a2]
  b4 : Blk w (w0.heap.size + 1) 26 #[b1, b2]
  b6 : Blk w (w0.heap.size + 2) 26 #[.slice none 0 0, .slice none 0 0]
  mp : ∃ m N, MapIs Try.prog w 3 3 (w0.heap.size + 3) m N ∧ N ≤ pre.length ∧ CntIs m pre
  mq : MapIs Try.prog w 3 3 (w0.heap.size + 4) (fun _ => none) 0
  below : Below w0.heap.size w0 w
theorem McSt.put {w0 : World} {a1 a2 b1 b2 : Value} {pre pre' : List Int} {w w' : World} {m' : Lit → Option Int} {N : Nat} (h : McSt w0 a1 a2 b1 b2 pre w) (hm : MapIs Try.prog w' 3 3 (w0.heap.size + 3) m' N) (hN : N ≤ pre'.length) (hp : CntIs m' pre') (hg : w.grownBy w' (some (w0.heap.size + 3))) : McSt w0 a1 a2 b1 b2 pre' w' := by
  have ho : Only (fun k => k = w0.heap.size + 3) w w' := (Only.refl _ _).grown hg (fun _ hg => .inl (by injection hg with hg; exact hg.symm))
  exact ⟨h.b3.only ho (by omega), h.b4.only ho (by omega), h.b6.only ho (by omega), ⟨m', N, hm, hN, hp⟩, h.mq.only ho (by omega), h.below.trans (ho.below h.below.size (fun k hk he => by omega))⟩
theorem mc_init (w : World) (a1 a2 b1 b2 : Value) : McSt w a1 a2 b1 b2 [] (((((w.alloc (.cells #[a1, a2] 26)).alloc (.cells #[b1, b2] 26)).alloc (.cells #[.slice none 0 0, .slice none 0 0] 26)).alloc (.map #[] 0)).alloc (.map #[] 0)) := by
  have hb : ∀ (o1 o2 o3 o4 o5 : Obj), Below w.heap.size w (((((w.alloc o1).alloc o2).alloc o3).alloc o4).alloc o5) := fun o1 o2 o3 o4 o5 => (((((Below.refl _ _).alloc (Nat.le_refl _) _).alloc (by simp) _).alloc (by simp; omega) _).alloc (by simp; omega) _).alloc (by simp; omega) _
  have h1 := MapIs.made Try.prog (((w.alloc (.cells #[a1, a2] 26)).alloc (.cells #[b1, b2] 26)).alloc (.cells #[.slice none 0 0, .slice none 0 0] 26)) 3 3
  have h2 := MapIs.made Try.prog ((((w.alloc (.cells #[a1, a2] 26)).alloc (.cells #[b1, b2] 26)).alloc (.cells #[.slice none 0 0, .slice none 0 0] 26)).alloc (.map #[] 0)) 3 3
  simp only [World.size_alloc] at h1 h2
  exact ⟨((((Blk.new _ _ _).alloc _).alloc _).alloc _).alloc _, (((blk_new_eq (by simp)).alloc _).alloc _).alloc _, ((blk_new_eq (by simp)).alloc _).alloc _, ⟨_, 0, h1.alloc _, Nat.le_refl _, fun x => rfl⟩, h2, hb _ _ _ _ _⟩

/-- memory while made lays the lines -/
structure MdSt (w0 : World) (a1 a2 b1 b2 : Value) (q : Nat) (v sv : Value) (mk ds : List Int) (out : List (Int × Int)) (st : List Int) (w : World) : Prop where
  b3 : Blk w w0.heap.size 26 #[a1, a2]
  b4 : Blk w (w0.heap.size + 1) 26 #[b1, b2]
  b6 : Blk w (w0.heap.size + 2) 26 #[.slice none 0 0, .slice none 0 0]
  b12 : Blk w q 26 #[v, sv]
  mp : ∃ m N, MapIs Try.prog w 3 3 (w0.heap.size + 3) m N ∧ CntIs m mk
  mq : ∃ m, MapIs Try.prog w 3 3 (w0.heap.size + 4) m ds.length ∧ PosI m ds
  own : w.ownsRow (q + 1) 66 2 v out.length (prs out)
  os : w.ownsRow (w0.heap.size + 5) 3 1 sv st.length (st.map (Value.int .i64))
  below : Below w0.heap.size w0 w
  s1 : w0.heap.size + 5 ≤ q
  s2 : ∀ k, sv.ownBlock = some k → k < q
section
variable {w0 : World} {a1 a2 b1 b2 : Value} {q : Nat} {v v' sv : Value} {mk ds ds' : List Int} {out out' : List (Int × Int)} {st : List Int} {w w' : World}
theorem MdSt.on (h : MdSt w0 a1 a2 b1 b2 q v sv mk ds out st w) (hb : Below w.heap.size w w') : MdSt w0 a1 a2 b1 b2 q v sv mk ds out st w' :=
  ⟨h.b3.below hb h.b3.lt, h.b4.below hb h.b4.lt, h.b6.below hb h.b6.lt, h.b12.below hb h.b12.lt, let ⟨m, N, h1, h2⟩ := h.mp; ⟨m, N, h1.on hb, h2⟩, let ⟨m, h1, h2⟩ := h.mq; ⟨m, h1.on hb, h2⟩, own_stay h.own (Only.of_below hb _), own_stay h.os (Only.of_below hb _), h.below.trans (hb.mono h.below.size), h.s1, h.s2⟩
theorem MdSt.put {m' : Lit → Option Int} (h : MdSt w0 a1 a2 b1 b2 q v sv mk ds out st w) (hm : MapIs Try.prog w' 3 3 (w0.heap.size + 4) m' ds'.length) (hp : PosI m' ds') (hg : w.grownBy w' (some (w0.heap.size + 4))) : MdSt w0 a1 a2 b1 b2 q v sv mk ds' out st w' := by
  have hs := h.s1
  have ho : Only (fun k => k = w0.heap.size + 4) w w' := (Only.refl _ _).grown hg (fun _ hg => .inl (by injection hg with hg; exact hg.symm))
  exact ⟨h.b3.only ho (by omega), h.b4.only ho (by omega), h.b6.only ho (by omega), h.b12.only ho (by omega), let ⟨m, N, h1, h2⟩ := h.mp; ⟨m, N, h1.only ho (by omega), h2⟩, ⟨m', hm, hp⟩, own_only h.own ho (fun k hk _ _ he => by omega), own_only h.os ho (fun k hk _ _ he => by omega), h.below.trans (ho.below h.below.size (fun k hk he => by omega)), hs, h.s2⟩
theorem MdSt.app {n : Nat} {cs : List Value} (h : MdSt w0 a1 a2 b1 b2 q v sv mk ds out st w) (hown : w'.ownsRow (q + 1) 66 2 v' n cs) (hg : w.grownBy w' v.ownBlock) (hc : cs = prs out') :
    MdSt w0 a1 a2 b1 b2 q v' sv mk ds out' st (w'.setCell ⟨q, 0, none⟩ v') ∧ Blk w' q 26 #[v, sv] := by
  subst hc
  have hn : n = out'.length := by have := hown.1; rw [prs_len] at this; omega
  subst hn
  have hs := h.s1
  have ho : Only (fun k => v.ownBlock = some k) w w' := (Only.refl _ _).grown hg (fun _ hg => .inl hg)
  have hq : ∀ {k : Nat}, k ≤ q → ¬ (v.ownBlock = some k) := fun hk hh => by have := (h.own.lt _ hh).1; omega
  have hb12 := h.b12.only ho (hq (Nat.le_refl _))
  obtain ⟨m1, N1, p1, p2⟩ := h.mp
  obtain ⟨m2, p3, p4⟩ := h.mq
  have h3 : ∀ k, sv.ownBlock = some k → k ≠ q := fun k hk => by have := h.s2 k hk; omega
  refine ⟨⟨(h.b3.only ho (hq (by omega))).far (by simp; omega) _, (h.b4.only ho (hq (by omega))).far (by simp; omega) _, (h.b6.only ho (hq (by omega))).far (by simp; omega) _, hb12.set_ 0 v',
    ⟨m1, N1, (p1.only ho (hq (by omega))).heap (Below.heap_setCell _ _ _ _ (by simp; omega)), p2⟩, ⟨m2, (p3.only ho (hq (by omega))).heap (Below.heap_setCell _ _ _ _ (by simp; omega)), p4⟩,
    own_setCell hown (by simp) _, own_far (own_only h.os ho (fun k _ _ hk => hq (by have := h.s2 k hk; omega))) (fun hh => h3 _ hh rfl) _, (h.below.trans (ho.below h.below.size (fun k hk hh => by have := (h.own.lt _ hh).1; omega))).setCell (by simp; omega) _, hs, h.s2⟩, hb12⟩
end
end Go.Proofs.Ytbjfbmienlojkaa

namespace Go.Proofs.Ytbjfbmienlojkaa
open Go.RowKit

set_option maxHeartbeats 2000000 in
set_option maxRecDepth 100000 in
theorem meet_bad (A1 A2 B1 B2 : Option Addr) (n1 c1 n2 c2 m1 d1 m2 d2 L1 L2 L3 L4 : Nat) (l1 l2 : List (Int × Int)) (s1 s2 : List Int) (w : World)
    (h1 : Rd w L1 w.heap.size 2 A1 n1 (prs l1)) (h2 : Rd w L2 w.heap.size 1 A2 n2 (s1.map (Value.int .i64))) (h3 : Rd w L3 w.heap.size 2 B1 m1 (prs l2)) (h4 : Rd w L4 w.heap.size 1 B2 m2 (s2.map (Value.int .i64)))
    (e1 : n1 ≤ maxLen) (e2 : n2 ≤ maxLen) (e3 : m1 ≤ maxLen) (e4 : m2 ≤ maxLen) (hm : mayTwo l1 l2 s1 s2 = false) :
    Calls Try.prog 45 #[.agg #[.slice A1 n1 c1, .slice A2 n2 c2], .agg #[.slice B1 m1 d1, .slice B2 m2 d2]] w fun e w' => e = .returned (.tuple #[.agg #[.slice none 0 0, .slice none 0 0], .int .i64 2]) ∧ Below w.heap.size w w' := by
  have H1 := Lib.hid h1
  have H2 := Lib.hid h2
  have H3 := Lib.hid h3
  have H4 := Lib.hid h4
  have HM := Lib.hid hm
  clear h1 h2 h3 h4 hm
  go_enter Try.func45, Try.ntmps45
  go_upto_region 1 with (fail)
  refine wp_abs (fun wx => TwoIn w (.slice A1 n1 c1) (.slice A2 n2 c2) (.slice B1 m1 d1) (.slice B2 m2 d2) wx ∧ Blk wx (w.heap.size + 2) 26 #[.slice none 0 0, .slice none 0 0]) ⟨(TwoIn.init w _ _ _ _).on ((Below.refl _ _).alloc (Nat.le_refl _) _), blk_new_eq (by simp)⟩ ?_
  rintro w1 ⟨hw, hq⟩
  have c0 : w1.cell? ⟨w.heap.size, 0, none⟩ = some (.slice A1 n1 c1) := hw.b0.cell 0
  have c1' : w1.cell? ⟨w.heap.size, 1, none⟩ = some (.slice A2 n2 c2) := hw.b0.cell 1
  have d0 : w1.cell? ⟨w.heap.size + 1, 0, none⟩ = some (.slice B1 m1 d1) := hw.b1.cell 0
  have d1' : w1.cell? ⟨w.heap.size + 1, 1, none⟩ = some (.slice B2 m2 d2) := hw.b1.cell 1
  have HW := Lib.hid (And.intro hw hq)
  clear hw hq
  go_wp2_with fail
  refine (mayTwo_any A1 A2 B1 B2 n1 c1 n2 c2 m1 d1 m2 d2 L1 L2 L3 L4 l1 l2 s1 s2 w1 (H1.out.up HW.out.1.below HW.out.1.below.size) (H2.out.up HW.out.1.below HW.out.1.below.size) (H3.out.up HW.out.1.below HW.out.1.below.size) (H4.out.up HW.out.1.below HW.out.1.below.size) e1 e2 e3 e4).mono ?_
  rw [HM.out]
  rintro e w2 ⟨rfl, hb2⟩
  have HX := Lib.hid (And.intro (HW.out.1.on hb2) (HW.out.2.below hb2 HW.out.2.lt))
  clear c0 c1' d0 d1' hb2 HW
  have g0 : w2.cell? ⟨w.heap.size + 2, 0, none⟩ = some (.slice none 0 0) := HX.out.2.cell 0
  have g1 : w2.cell? ⟨w.heap.size + 2, 1, none⟩ = some (.slice none 0 0) := HX.out.2.cell 1
  have f0 : w2.frozen? ⟨w.heap.size + 2, 0, none⟩ = false := HX.out.2.frozen 0
  have f1 : w2.frozen? ⟨w.heap.size + 2, 1, none⟩ = false := HX.out.2.frozen 1
  simp only [errOf]
  go_wp2
  have HF := (HX.out.2.set_ 0 (.slice none 0 0)).set_ 1 (.slice none 0 0)
  have t0 := HF.cell 0
  have t1 := HF.cell 1
  simp at t0 t1
  exact bodyPost_ret (v := .tuple #[.agg #[.slice none 0 0, .slice none 0 0], .int .i64 2]) (by simp [results, Try.results45, go_sem, t0, t1]) rfl ⟨rfl, (HX.out.1.below.setCell (by simp; omega) _).setCell (by simp; omega) _⟩

set_option maxHeartbeats 2000000 in
set_option maxRecDepth 100000 in
theorem join_bad (A1 A2 B1 B2 : Option Addr) (n1 c1 n2 c2 m1 d1 m2 d2 L1 L2 L3 L4 : Nat) (l1 l2 : List (Int × Int)) (s1 s2 : List Int) (w : World)
    (h1 : Rd w L1 w.heap.size 2 A1 n1 (prs l1)) (h2 : Rd w L2 w.heap.size 1 A2 n2 (s1.map (Value.int .i64))) (h3 : Rd w L3 w.heap.size 2 B1 m1 (prs l2)) (h4 : Rd w L4 w.heap.size 1 B2 m2 (s2.map (Value.int .i64)))
    (e1 : n1 ≤ maxLen) (e2 : n2 ≤ maxLen) (e3 : m1 ≤ maxLen) (e4 : m2 ≤ maxLen) (hm : mayTwo l1 l2 s1 s2 = false) :
    Calls Try.prog 46 #[.agg #[.slice A1 n1 c1, .slice A2 n2 c2], .agg #[.slice B1 m1 d1, .slice B2 m2 d2]] w fun e w' => e = .returned (.tuple #[.agg #[.slice none 0 0, .slice none 0 0], .int .i64 2]) ∧ Below w.heap.size w w' := by
  have H1 := Lib.hid h1
  have H2 := Lib.hid h2
  have H3 := Lib.hid h3
  have H4 := Lib.hid h4
  have HM := Lib.hid hm
  clear h1 h2 h3 h4 hm
  go_enter Try.func46, Try.ntmps46
  go_upto_region 1 with (fail)
  refine wp_abs (fun wx => TwoIn w (.slice A1 n1 c1) (.slice A2 n2 c2) (.slice B1 m1 d1) (.slice B2 m2 d2) wx ∧ Blk wx (w.heap.size + 2) 26 #[.slice none 0 0, .slice none 0 0]) ⟨(TwoIn.init w _ _ _ _).on ((Below.refl _ _).alloc (Nat.le_refl _) _), blk_new_eq (by simp)⟩ ?_
  rintro w1 ⟨hw, hq⟩
  have c0 : w1.cell? ⟨w.heap.size, 0, none⟩ = some (.slice A1 n1 c1) := hw.b0.cell 0
  have c1' : w1.cell? ⟨w.heap.size, 1, none⟩ = some (.slice A2 n2 c2) := hw.b0.cell 1
  have d0 : w1.cell? ⟨w.heap.size + 1, 0, none⟩ = some (.slice B1 m1 d1) := hw.b1.cell 0
  have d1' : w1.cell? ⟨w.heap.size + 1, 1, none⟩ = some (.slice B2 m2 d2) := hw.b1.cell 1
  have HW := Lib.hid (And.intro hw hq)
  clear hw hq
  go_wp2_with fail
  refine (mayTwo_any A1 A2 B1 B2 n1 c1 n2 c2 m1 d1 m2 d2 L1 L2 L3 L4 l1 l2 s1 s2 w1 (H1.out.up HW.out.1.below HW.out.1.below.size) (H2.out.up HW.out.1.below HW.out.1.below.size) (H3.out.up HW.out.1.below HW.out.1.below.size) (H4.out.up HW.out.1.below HW.out.1.below.size) e1 e2 e3 e4).mono ?_
  rw [HM.out]
  rintro e w2 ⟨rfl, hb2⟩
  have HX := Lib.hid (And.intro (HW.out.1.on hb2) (HW.out.2.below hb2 HW.out.2.lt))
  clear c0 c1' d0 d1' hb2 HW
  have g0 : w2.cell? ⟨w.heap.size + 2, 0, none⟩ = some (.slice none 0 0) := HX.out.2.cell 0
  have g1 : w2.cell? ⟨w.heap.size + 2, 1, none⟩ = some (.slice none 0 0) := HX.out.2.cell 1
  have f0 : w2.frozen? ⟨w.heap.size + 2, 0, none⟩ = false := HX.out.2.frozen 0
  have f1 : w2.frozen? ⟨w.heap.size + 2, 1, none⟩ = false := HX.out.2.frozen 1
  simp only [errOf]
  go_wp2
  have HF := (HX.out.2.set_ 0 (.slice none 0 0)).set_ 1 (.slice none 0 0)
  have t0 := HF.cell 0
  have t1 := HF.cell 1
  simp at t0 t1
  exact bodyPost_ret (v := .tuple #[.agg #[.slice none 0 0, .slice none 0 0], .int .i64 2]) (by simp [results, Try.results46, go_sem, t0, t1]) rfl ⟨rfl, (HX.out.1.below.setCell (by simp; omega) _).setCell (by simp; omega) _⟩

set_option maxHeartbeats 2000000 in
set_option maxRecDepth 100000 in
theorem rank_bad (A1 A2 : Option Addr) (n1 c1 n2 c2 L1 L2 : Nat) (ls : List (Int × Int)) (st : List Int) (w : World)
    (h1 : Rd w L1 w.heap.size 2 A1 n1 (prs ls)) (h2 : Rd w L2 w.heap.size 1 A2 n2 (st.map (Value.int .i64))) (hn2 : n2 ≤ maxLen) (hn1 : n1 ≤ maxLen) (hm : may ls st = false) :
    Calls Try.prog 41 #[.agg #[.slice A1 n1 c1, .slice A2 n2 c2]] w fun e w' => e = .returned (.tuple #[.int .i64 0, .int .i64 2]) ∧ Below w.heap.size w w' := by
  have H1 := Lib.hid h1
  have H2 := Lib.hid h2
  have HM := Lib.hid hm
  clear h1 h2 hm
  go_enter Try.func41, Try.ntmps41
  go_upto_region 1 with (fail)
  refine wp_abs (fun wx => Blk wx w.heap.size 26 #[.slice A1 n1 c1, .slice A2 n2 c2] ∧ Below w.heap.size w wx) ⟨Blk.new _ _ _, (Below.refl _ _).alloc (Nat.le_refl _) _⟩ ?_
  rintro wx ⟨k0, hb⟩
  have c00 : wx.cell? ⟨w.heap.size, 0, none⟩ = some (.slice A1 n1 c1) := k0.cell 0
  have c01 : wx.cell? ⟨w.heap.size, 1, none⟩ = some (.slice A2 n2 c2) := k0.cell 1
  have HK := Lib.hid (And.intro k0 hb)
  clear k0 hb
  go_wp2_with fail
  refine (check_any A1 A2 n1 c1 n2 c2 L1 L2 ls st wx (H1.out.up HK.out.2 HK.out.2.size) (H2.out.up HK.out.2 HK.out.2.size) hn2 hn1).mono ?_
  rintro e w1 ⟨rfl, hb1⟩
  have HA := Lib.hid (HK.out.2.trans (hb1.mono HK.out.2.size))
  rw [HM.out]
  clear hb1
  show _
  simp only [errOf]
  go_wp2
  go_ret2
  exact ⟨rfl, HA.out⟩

set_option maxRecDepth 100000 in
theorem none_any (c1 c2 : Nat) (w : World) : Calls Try.prog 40 #[.agg #[.slice none 0 c1, .slice none 0 c2]] w fun e w' => e = .returned (.bool true) ∧ Below w.heap.size w w' := by
  go_enter Try.func40, Try.ntmps40
  go_upto_region 1 with (fail)
  refine wp_abs (fun wx => Blk wx w.heap.size 26 #[.slice none 0 c1, .slice none 0 c2] ∧ Below w.heap.size w wx) ⟨Blk.new _ _ _, (Below.refl _ _).alloc (Nat.le_refl _) _⟩ ?_
  rintro wx ⟨k0, hb⟩
  have c00 : wx.cell? ⟨w.heap.size, 0, none⟩ = some (.slice none 0 c1) := k0.cell 0
  have c01 : wx.cell? ⟨w.heap.size, 1, none⟩ = some (.slice none 0 c2) := k0.cell 1
  have HK := Lib.hid hb
  clear k0 hb
  go_wp2
  go_ret
  exact ⟨rfl, HK.out⟩
end Go.Proofs.Ytbjfbmienlojkaa

namespace Go.Proofs.Ytbjfbmienlojkaa
open Go.RowKit Go.Maps Go.WideMaps

/-- where a pair first stands -/
def posX : List (Int × Int) → Int × Int → Option Nat
  | [], _ => none
  | a :: t, s => if a = s then some 0 else (posX t s).map (· + 1)
theorem posX_some {l : List (Int × Int)} {s : Int × Int} {p : Nat} (h : posX l s = some p) : l[p]? = some s ∧ ∀ q, q < p → l[q]? ≠ some s := by
  induction l generalizing p with
  | nil => cases h
  | cons a t ih =>
    unfold posX at h
    by_cases e : a = s
    · rw [if_pos e] at h
      injection h with h
      subst h e
      exact ⟨rfl, fun q hq => absurd hq (Nat.not_lt_zero _)⟩
    · rw [if_neg e] at h
      cases hp : posX t s with
      | none => rw [hp] at h; cases h
      | some r =>
        rw [hp] at h
        injection h with h
        subst h
        obtain ⟨h1, h2⟩ := ih hp
        refine ⟨h1, fun q hq => ?_⟩
        cases q with
        | zero => simpa using e
        | succ q => exact h2 q (Nat.lt_of_succ_lt_succ hq)
theorem posX_none {l : List (Int × Int)} {s : Int × Int} : posX l s = none ↔ ∀ q : Nat, l[q]? ≠ some s := by
  induction l with
  | nil => simp [posX]
  | cons a t ih =>
    unfold posX
    by_cases e : a = s
    · rw [if_pos e]
      constructor
      · intro h; cases h
      · intro h; exact absurd (by simp [e]) (h 0)
    · rw [if_neg e, Option.map_eq_none_iff, ih]
      constructor
      · intro h q
        cases q with
        | zero => simpa using e
        | succ q => exact h q
      · intro h q; exact h (q + 1)
theorem posX_lt {l : List (Int × Int)} {s : Int × Int} {p : Nat} (h : posX l s = some p) : p < l.length := (List.getElem?_eq_some_iff.1 (posX_some h).1).1
theorem posX_snoc (l : List (Int × Int)) (s x : Int × Int) : posX (l ++ [x]) s = match posX l s with | some p => some p | none => if x = s then some l.length else none := by
  induction l with
  | nil => simp only [List.nil_append, posX]; split <;> rfl
  | cons a t ih =>
    simp only [List.cons_append, posX]
    by_cases e : a = s
    · rw [if_pos e, if_pos e]
    · rw [if_neg e, if_neg e, ih]
      cases posX t s with
      | some p => rfl
      | none =>
        simp only [Option.map_none]
        by_cases ex : x = s
        · rw [if_pos ex, if_pos ex]; rfl
        · rw [if_neg ex, if_neg ex]; rfl

def pairAt (l1 l2 : List (Int × Int)) (i : Nat) : Int × Int := (clsAt l1 i, clsAt l2 i)
def pairs (l1 l2 : List (Int × Int)) (i : Nat) : List (Int × Int) := (List.range i).map (pairAt l1 l2)
theorem pairs_len (l1 l2 : List (Int × Int)) (i : Nat) : (pairs l1 l2 i).length = i := by simp [pairs]
theorem pairs_succ (l1 l2 : List (Int × Int)) (i : Nat) : pairs l1 l2 (i + 1) = pairs l1 l2 i ++ [pairAt l1 l2 i] := by simp [pairs, List.range_succ]
/-- Meet's mark of line i -/
def mtAt (l1 l2 : List (Int × Int)) (i : Nat) : Nat :=
  if clsAt l1 i < 0 ∨ clsAt l2 i < 0 then i else match posX (pairs l1 l2 i) (pairAt l1 l2 i) with | some p => p | none => i
def mtF (l1 l2 : List (Int × Int)) (i : Nat) : List Int := (List.range i).map fun j => (mtAt l1 l2 j : Int)
theorem mtF_len (l1 l2 : List (Int × Int)) (i : Nat) : (mtF l1 l2 i).length = i := by simp [mtF]
theorem mtF_succ (l1 l2 : List (Int × Int)) (i : Nat) : mtF l1 l2 (i + 1) = mtF l1 l2 i ++ [(mtAt l1 l2 i : Int)] := by simp [mtF, List.range_succ]
theorem mtAt_le (l1 l2 : List (Int × Int)) (i : Nat) : mtAt l1 l2 i ≤ i := by
  unfold mtAt
  split
  · exact Nat.le_refl _
  · split
    · rename_i p h
      have := posX_lt h
      rw [pairs_len] at this
      omega
    · exact Nat.le_refl _

theorem arr67 : ArrKey Try.prog 67 3 2 := ⟨Try.underlying67, by kernel_rfl, by kernel_rfl, by kernel_rfl⟩
theorem law67 : Keyed Try.prog 67 := Keyed.of_law (deep_law_laid (by kernel_rfl) (m := 2) (by omega) (of_decide_eq_true (by kernel_rfl)) (by kernel_rfl) (by rw [Try.underlying67]))
def litP (x : Int × Int) : Lit := .string (keyBytes [.int .i64 x.1, .int .i64 x.2])
def smallP (x : Int × Int) : Prop := (-1000 ≤ x.1 ∧ x.1 ≤ 1000) ∧ (-1000 ≤ x.2 ∧ x.2 ≤ 1000)
theorem row67 : (67 : Nat) < Try.prog.types.size := of_decide_eq_true (by kernel_rfl)
theorem pred_of {z : Nat} (h : 67 < z) : ∃ m, z = m + 1 := ⟨z - 1, by omega⟩
set_option maxRecDepth 100000 in
theorem keyP {x : Int × Int} (h : smallP x) : keyOf Try.prog 67 (.agg #[.int .i64 x.1, .int .i64 x.2]) = some (litP x) :=
by
  have a1 : (Lit.int .i64 x.1).wf = true := wf_small (by have := h.1; omega)
  have a2 : (Lit.int .i64 x.2).wf = true := wf_small (by have := h.2; omega)
  have a3 := pred_of row67
  unfold litP
  have a4 := keyOf_pair (a := x.1) (b := x.2) (q := .i64) arr67 Try.underlying3 a3 a1 a2
  exact a4
theorem litP_inj {x y : Int × Int} (hx : smallP x) (hy : smallP y) (h : litP x = litP y) : x = y := by
  have h1 := keyP hx
  rw [h] at h1
  have e := law67.inj h1 (keyP hy)
  have e0 := congrArg (fun v : Value => v.cells[0]?) e
  have e1 := congrArg (fun v : Value => v.cells[1]?) e
  simp [Value.cells] at e0 e1
  exact Prod.ext e0 e1
/-- the map holds where each pair of classes first stands -/
def PairsIs (m : Lit → Option Int) (l : List (Int × Int)) : Prop := ∀ s, smallP s → 0 ≤ s.1 → 0 ≤ s.2 → m (litP s) = (posX l s).map fun p => (p : Int)
theorem PairsIs.put {m : Lit → Option Int} {l : List (Int × Int)} (h : PairsIs m l) {x : Int × Int} (hx : smallP x) (hn : (x.1 < 0 ∨ x.2 < 0) ∨ posX l x = none) : PairsIs (updM m (litP x) (l.length : Int)) (l ++ [x]) := by
  intro t ht h0 h1
  rw [posX_snoc]
  by_cases e : t = x
  · subst e
    have hn2 : posX l t = none := by
      rcases hn with h | h
      · omega
      · exact h
    rw [updM_same, hn2]
    simp
  · rw [updM_other _ _ (fun he => e (litP_inj ht hx he)), h t ht h0 h1]
    cases hp : posX l t with
    | some p => rfl
    | none =>
      have : ¬ x = t := fun h => e h.symm
      simp [this]
theorem PairsIs.keep {m : Lit → Option Int} {l : List (Int × Int)} (h : PairsIs m l) {x : Int × Int} {p : Nat} (hp : posX l x = some p) : PairsIs m (l ++ [x]) := by
  intro t ht h0 h1
  rw [posX_snoc, h t ht h0 h1]
  by_cases e : t = x
  · subst e
    rw [hp]
  · cases posX l t with
    | some p => rfl
    | none =>
      have : ¬ x = t := fun h => e h.symm
      simp [this]

/-- memory while Meet runs -/
structure MtSt (w0 : World) (a1 a2 b1 b2 : Value) (q : Nat) (v : Value) (ps : List (Int × Int)) (mk : List Int) (w : World) : Prop where
  two : TwoIn w0 a1 a2 b1 b2 w
  b4 : Blk w (w0.heap.size + 2) 26 #[.slice none 0 0, .slice none 0 0]
  mp : ∃ m N, MapIs Try.prog w 67 3 q m N ∧ N ≤ ps.length ∧ PairsIs m ps
  own : w.ownsRow (q + 1) 3 1 v mk.length (mk.map (Value.int .i64))
  s1 : w0.heap.size + 3 ≤ q
section
variable {w0 : World} {a1 a2 b1 b2 : Value} {q : Nat} {v v' : Value} {ps ps' : List (Int × Int)} {mk mk' : List Int} {w w' : World}
theorem MtSt.on (h : MtSt w0 a1 a2 b1 b2 q v ps mk w) (hb : Below w.heap.size w w') : MtSt w0 a1 a2 b1 b2 q v ps mk w' :=
  ⟨h.two.on hb, h.b4.below hb h.b4.lt, let ⟨m, N, h1, h2⟩ := h.mp; ⟨m, N, h1.on hb, h2⟩, own_stay h.own (Only.of_below hb _), h.s1⟩
theorem MtSt.with (h : MtSt w0 a1 a2 b1 b2 q v ps mk w) (hm : ∃ m N, MapIs Try.prog w 67 3 q m N ∧ N ≤ ps'.length ∧ PairsIs m ps') : MtSt w0 a1 a2 b1 b2 q v ps' mk w := ⟨h.two, h.b4, hm, h.own, h.s1⟩
theorem MtSt.put {m' : Lit → Option Int} {N : Nat} (h : MtSt w0 a1 a2 b1 b2 q v ps mk w) (hm : MapIs Try.prog w' 67 3 q m' N) (hN : N ≤ ps'.length) (hp : PairsIs m' ps') (hg : w.grownBy w' (some q)) : MtSt w0 a1 a2 b1 b2 q v ps' mk w' := by
  have hs := h.s1
  have ho : Only (fun k => k = q) w w' := (Only.refl _ _).grown hg (fun _ hg => .inl (by injection hg with hg; exact hg.symm))
  exact ⟨⟨h.two.b0.only ho (by omega), h.two.b1.only ho (by omega), h.two.below.trans (ho.below h.two.below.size (fun k hk he => by omega))⟩, h.b4.only ho (by omega), ⟨m', N, hm, hN, hp⟩, own_only h.own ho (fun k hk _ _ he => by omega), hs⟩
theorem MtSt.app {n : Nat} {cs : List Value} (h : MtSt w0 a1 a2 b1 b2 q v ps mk w) (hown : w'.ownsRow (q + 1) 3 1 v' n cs) (hg : w.grownBy w' v.ownBlock) (hc : cs = mk'.map (Value.int .i64)) : MtSt w0 a1 a2 b1 b2 q v' ps mk' w' := by
  subst hc
  have hn : n = mk'.length := by have := hown.1; simp at this; omega
  subst hn
  have ho : Only (fun k => v.ownBlock = some k) w w' := (Only.refl _ _).grown hg (fun _ hg => .inl hg)
  obtain ⟨m, N, h1, h2⟩ := h.mp
  have hs := h.s1
  have hq : ∀ {k : Nat}, k < q + 1 → ¬ (v.ownBlock = some k) := fun hk hh => by have := (h.own.lt _ hh).1; omega
  exact ⟨⟨h.two.b0.only ho (hq (by omega)), h.two.b1.only ho (hq (by omega)), h.two.below.trans (ho.below h.two.below.size (fun k hk hh => by have := (h.own.lt _ hh).1; omega))⟩, h.b4.only ho (hq (by omega)), ⟨m, N, h1.only ho (hq (by omega)), h2⟩, hown, hs⟩
end
end Go.Proofs.Ytbjfbmienlojkaa
