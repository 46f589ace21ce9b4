/- Found: the scheme that keys have (no program in sight; then the walk). -/
import Derived.Test.YtbjfbmienlojkaaT44
import Derived.Deep.DeepMust
namespace Go.Proofs.Ytbjfbmienlojkaa
open Go.RowKit Go.Maps

/-- where a string first stands -/
def posB : List ByteArray → ByteArray → Option Nat
  | [], _ => none
  | a :: t, s => if a = s then some 0 else (posB t s).map (· + 1)
theorem posB_some {l : List ByteArray} {s : ByteArray} {p : Nat} (h : posB l s = some p) : l[p]? = some s ∧ ∀ q, q < p → l[q]? ≠ some s := by
  induction l generalizing p with
  | nil => cases h
  | cons a t ih =>
    unfold posB at h
    by_cases e : a = s
    · rw [if_pos e] at h
      injection h with h
      subst h e
      exact ⟨rfl, fun q hq => absurd hq (Nat.not_lt_zero _)⟩
    · rw [if_neg e] at h
      cases hp : posB t s with
      | none => rw [hp] at h; cases h
      | some r =>
        rw [hp] at h
        injection h with h
        subst h
        obtain ⟨h1, h2⟩ := ih hp
        refine ⟨h1, fun q hq => ?_⟩
        cases q with
        | zero => simpa using e
        | succ q => exact h2 q (Nat.lt_of_succ_lt_succ hq)
theorem posB_none {l : List ByteArray} {s : ByteArray} : posB l s = none ↔ ∀ q : Nat, l[q]? ≠ some s := by
  induction l with
  | nil => simp [posB]
  | cons a t ih =>
    unfold posB
    by_cases e : a = s
    · rw [if_pos e]
      constructor
      · intro h; cases h
      · intro h; exact absurd (by simp [e]) (h 0)
    · rw [if_neg e, Option.map_eq_none_iff, ih]
      constructor
      · intro h q
        cases q with
        | zero => simpa using e
        | succ q => exact h q
      · intro h q; exact h (q + 1)
theorem posB_lt {l : List ByteArray} {s : ByteArray} {p : Nat} (h : posB l s = some p) : p < l.length := (List.getElem?_eq_some_iff.1 (posB_some h).1).1
theorem posB_snoc (l : List ByteArray) (s x : ByteArray) : posB (l ++ [x]) s = match posB l s with | some p => some p | none => if x = s then some l.length else none := by
  induction l with
  | nil => simp only [List.nil_append, posB]; split <;> rfl
  | cons a t ih =>
    simp only [List.cons_append, posB]
    by_cases e : a = s
    · rw [if_pos e, if_pos e]
    · rw [if_neg e, if_neg e, ih]
      cases posB t s with
      | some p => rfl
      | none =>
        simp only [Option.map_none]
        by_cases ex : x = s
        · rw [if_pos ex, if_pos ex]; rfl
        · rw [if_neg ex, if_neg ex]; rfl

/-- one key more: the strings that were met, in order; the lines so far -/
def fndStep (st : List ByteArray × List (Int × Int)) (s : ByteArray) : List ByteArray × List (Int × Int) :=
  match posB st.1 s with
  | some p => (st.1, st.2 ++ [((p : Int), 0)])
  | none => (st.1 ++ [s], st.2 ++ [((st.1.length : Int), 0)])
def fnd (ks : List ByteArray) (i : Nat) : List ByteArray × List (Int × Int) := (ks.take i).foldl fndStep ([], [])
theorem fnd_zero (ks : List ByteArray) : fnd ks 0 = ([], []) := rfl
theorem fnd_succ (ks : List ByteArray) {i : Nat} (h : i < ks.length) : fnd ks (i + 1) = fndStep (fnd ks i) ks[i] := by
  unfold fnd
  rw [List.take_succ_eq_append_getElem h, List.foldl_append]
  rfl
theorem fnd_len (ks : List ByteArray) : ∀ i, i ≤ ks.length → (fnd ks i).2.length = i ∧ (fnd ks i).1.length ≤ i := by
  intro i
  induction i with
  | zero => intro _; exact ⟨rfl, Nat.le_refl _⟩
  | succ i ih =>
    intro h
    obtain ⟨h1, h2⟩ := ih (by omega)
    rw [fnd_succ ks (by omega)]
    unfold fndStep
    split <;> simp <;> omega
def foundE (ks : List ByteArray) : Int := if 512 < ks.length then 3 else if 25 < (fnd ks ks.length).1.length then 5 else 0
def foundL (ks : List ByteArray) : List (Int × Int) := if foundE ks = 0 then (fnd ks ks.length).2 else []
def foundS (ks : List ByteArray) : List Int := if foundE ks = 0 then plainS ks.length else []

theorem lawS : Keyed Try.prog 9 := string_keyed Try.underlying9
theorem zero3 (w : World) : (zeroValue 3).run Try.prog w = .ok (.int .i64 0) w := by kernel_rfl
def litS (s : ByteArray) : Lit := .string s.data.toList
theorem litS_inj {s t : ByteArray} (h : litS s = litS t) : s = t := by
  injection h with h
  exact ByteArray.ext (Array.toList_inj.1 h)
theorem keyS {s : ByteArray} (h : s.size ≤ maxLen) : keyOf Try.prog 9 (.string s) = some (litS s) := Go.WideMaps.keyOf_string_mk Try.underlying9 h
theorem rd_newP (w : World) (t : TypeId) (v u : Value) : Rd (w.alloc (.cells #[v, u] t)) w.heap.size (w.heap.size + 1) 2 (some ⟨w.heap.size, 0, none⟩) 1 [v, u] := by
  refine ⟨rfl, fun _ => ⟨w.heap.size, 0, rfl, Nat.le_refl _, Nat.lt_succ_self _, fun j x hu => ?_⟩⟩
  rw [Nat.zero_add, (Blk.new w t #[v, u]).cell]
  simpa using hu
theorem wf_nat (n : Nat) (h : n ≤ 1000000) : (Lit.int .i64 (n : Int)).wf = true := by
  simp only [Lit.wf, Bool.and_eq_true, decide_eq_true_eq]
  have h1 : IntKind.i64.min = -9223372036854775808 := by decide
  have h2 : IntKind.i64.max = 9223372036854775807 := by decide
  rw [h1, h2]
  omega
/-- a map by strings holds the places in a list -/
def PosIs (m : Lit → Option Int) (ds : List ByteArray) : Prop := ∀ s, m (litS s) = (posB ds s).map fun p => (p : Int)
theorem PosIs.put {m : Lit → Option Int} {ds : List ByteArray} (h : PosIs m ds) {s : ByteArray} (hs : posB ds s = none) : PosIs (updM m (litS s) (ds.length : Int)) (ds ++ [s]) := by
  intro t
  rw [posB_snoc]
  by_cases e : t = s
  · subst e
    rw [updM_same, hs]
    simp
  · rw [updM_other _ _ (fun he => e (litS_inj he)), h t]
    cases hp : posB ds t with
    | some p => rfl
    | none =>
      have : ¬ s = t := fun h => e h.symm
      simp [this]

/-- memory while Found runs -/
structure FdSt (w0 : World) (v : Value) (ds : List ByteArray) (out : List (Int × Int)) (w : World) : Prop where
  b0 : Blk w w0.heap.size 26 #[.slice none 0 0, .slice none 0 0]
  mp : ∃ m, MapIs Try.prog w 9 3 (w0.heap.size + 1) m ds.length ∧ PosIs m ds
  own : w.ownsRow (w0.heap.size + 2) 66 2 v out.length (prs out)
  below : Below w0.heap.size w0 w
section
variable {w0 : World} {v v' : Value} {ds ds' : List ByteArray} {out out' : List (Int × Int)} {w w' : World}
theorem FdSt.on (h : FdSt w0 v ds out w) (hb : Below w.heap.size w w') : FdSt w0 v ds out w' :=
  ⟨h.b0.below hb h.b0.lt, let ⟨m, h1, h2⟩ := h.mp; ⟨m, h1.on hb, h2⟩, own_stay h.own (Only.of_below hb _), h.below.trans (hb.mono h.below.size)⟩
theorem FdSt.app {n : Nat} {cs : List Value} (h : FdSt w0 v ds out w) (hown : w'.ownsRow (w0.heap.size + 2) 66 2 v' n cs) (hg : w.grownBy w' v.ownBlock) (hc : cs = prs out') : FdSt w0 v' ds out' w' := by
  subst hc
  have hn : n = out'.length := by have := hown.1; rw [prs_len] at this; omega
  subst hn
  have ho : Only (fun k => v.ownBlock = some k) w w' := (Only.refl _ _).grown hg (fun _ hg => .inl hg)
  obtain ⟨m, h1, h2⟩ := h.mp
  refine ⟨h.b0.only ho (fun hk => by have := (h.own.lt _ hk).1; omega), ⟨m, h1.only ho (fun hk => by have := (h.own.lt _ hk).1; omega), h2⟩, hown, h.below.trans (ho.below h.below.size (fun k hk hh => by have := (h.own.lt _ hh).1; omega))⟩
theorem FdSt.put {m' : Lit → Option Int} (h : FdSt w0 v ds out w) (hm : MapIs Try.prog w' 9 3 (w0.heap.size + 1) m' ds'.length) (hp : PosIs m' ds') (hg : w.grownBy w' (some (w0.heap.size + 1))) : FdSt w0 v ds' out w' := by
  have ho : Only (fun k => k = w0.heap.size + 1) w w' := (Only.refl _ _).grown hg (fun _ hg => .inl (by injection hg with hg; exact hg.symm))
  exact ⟨h.b0.only ho (by omega), ⟨m', hm, hp⟩, own_only h.own ho (fun k hk _ _ he => by omega), h.below.trans (ho.below h.below.size (fun k hk he => by omega))⟩
end

set_option maxHeartbeats 4000000 in
set_option maxRecDepth 100000 in
theorem found_any (A : Option Addr) (n c L : Nat) (ks : List ByteArray) (w : World) (h : Rd w L w.heap.size 1 A n (strs ks)) (hfit : ∀ k ∈ ks, k.size ≤ maxLen) (hnm : n ≤ maxLen) :
    Calls Try.prog 33 #[.slice A n c] w fun e w' => ∃ B1 d1 B2 d2, e = .returned (.tuple #[.agg #[.slice B1 (foundL ks).length d1, .slice B2 (foundS ks).length d2], .int .i64 (foundE ks)]) ∧
      w'.ownsRow w.heap.size 66 2 (.slice B1 (foundL ks).length d1) (foundL ks).length (prs (foundL ks)) ∧ w'.ownsRow w.heap.size 3 1 (.slice B2 (foundS ks).length d2) (foundS ks).length ((foundS ks).map (Value.int .i64)) ∧ Below w.heap.size w w' := by
  have hq := hnm
  unfold maxLen at hq
  have hl := h.slen
  have HL := Lib.hid hl
  have HF := Lib.hid hfit
  have H := Lib.hid h
  clear h hl hfit hnm
  by_cases hbig : 512 < n
  · have hE : foundE ks = 3 := if_pos (by rw [HL.out]; exact hbig)
    have hLL : foundL ks = [] := if_neg (by rw [hE]; decide)
    have hSS : foundS ks = [] := if_neg (by rw [hE]; decide)
    rw [hE, hLL, hSS]
    clear hE hLL hSS
    go_enter Try.func33, Try.ntmps33
    go_wp2
    refine bodyPost_ret (v := .tuple #[.agg #[.slice none 0 0, .slice none 0 0], .int .i64 3]) (by simp [results, Try.results33, go_sem]) rfl ?_
    exact ⟨none, 0, none, 0, rfl, World.ownsRow_nil _ _ _ _, World.ownsRow_nil _ _ _ _, (Below.refl _ _).alloc (Nat.le_refl _) _⟩
  · have hmm := @run_makeMap Try.prog
    have hinfo : (Try.prog.info? 66).map (fun i => (i.zero, i.size, i.bytes)) = some (some (.agg #[.int .i64 0, .int .i64 0]), 2, 16) := by kernel_rfl
    obtain ⟨i0, hi, hz0, hz1, hz2⟩ := info_parts hinfo
    have HI := Lib.hid (And.intro hi (And.intro hz0 (And.intro hz1 hz2)))
    clear hi hz0 hz1 hz2 hinfo
    go_enter Try.func33, Try.ntmps33
    go_upto_region 5 with (fail)
    refine wp_abs (FdSt w (.slice none 0 0) [] []) ⟨(Blk.new _ _ _).alloc _, ⟨fun _ => none, by simpa using MapIs.made Try.prog (w.alloc (.cells #[.slice none 0 0, .slice none 0 0] 26)) 9 3, fun s => rfl⟩, World.ownsRow_nil _ _ _ _, ((Below.refl _ _).alloc (Nat.le_refl _) _).alloc (by simp) _⟩ ?_
    intro w1 hS
    have HS := Lib.hid hS
    clear hS hmm
    go_wp2
    go_loopw [5, 17] (fun lv iv wr => ∃ i : Nat, i ≤ n ∧ iv = .int .i64 i ∧ Hid (FdSt w lv (fnd ks i).1 (fnd ks i).2 wr)) (fun _ iv _ => n - (intOf iv).toNat)
    case atStart => exact ⟨0, by omega, rfl, HS⟩
    case round =>
      obtain ⟨i, hi, rfl, HS⟩ := hrel
      by_cases hlt : i < n
      · obtain ⟨b, o, hil, rfl, hL, hB, hc⟩ := (H.out.below HS.out.below (Nat.le_refl _)).str hlt
        have hks := HF.out _ (List.getElem_mem hil)
        have hsu := fnd_succ ks hil
        obtain ⟨fl1, fl2⟩ := fnd_len ks i (by omega)
        generalize ks[i] = s at hc hks hsu
        generalize hst : fnd ks i = st at *
        obtain ⟨ds, out⟩ := st
        simp only at fl1 fl2
        have hSt : FdSt w _ ds out wr := HS.out
        obtain ⟨m, hm, hp⟩ := hSt.mp
        have hml := hp s
        obtain ⟨XV, XC, rfl⟩ := own_slice hSt.own
        have HX := Lib.hid (And.intro hSt (And.intro hm hp))
        have HSU := Lib.hid hsu
        have HST := Lib.hid hst
        have HK := Lib.hid hks
        have bw := hSt.below.size
        have bw2 := hm.lt
        have fl3 : out.length ≤ 512 := by omega
        clear hst hsu HS hSt hm hp fl1 hks
        cases hpos : posB ds s with
        | some p =>
          have hpl := posB_lt hpos
          have hml2 : m (litS s) = some (p : Int) := by rw [hml, hpos]; rfl
          have HM := Lib.hid hml2
          have HP := Lib.hid hpos
          clear hml hml2 hpos
          go_wp2_with (first
            | (at_lookup; refine wpList_look_ok _ rfl _ _ 103 rfl 9 3 lawS Try.underlying103 Try.underlying3 (zero3 _) (w.heap.size + 1) _ m rfl HX.out.2.1 _ _ rfl (keyS HK.out) ?_; rw [HM.out])
            | (at_builtin; go_must (refine wpList_append_rd _ rfl _ _ 23 rfl (w.heap.size + 2) 66 i0 (.agg #[.int .i64 0, .int .i64 0]) 2 16 Try.underlying23 HI.out.1 HI.out.2.1 HI.out.2.2.1 HI.out.2.2.2 rfl (by decide) _ _ _ rfl (HX.out.1.own.alloc _) _ _ _ 1 1 _ rfl (rd_newP _ _ _ _) (by simp [Value.oneCell']) (by unfold maxLen; omega) (by omega) (by simp; omega) ?_; intro v4 w4 _ hown hgrow _; have HN := Lib.hid ((HX.out.1.on ((Below.refl _ _).alloc (Nat.le_refl _) _)).app (out' := out ++ [((p : Int), 0)]) hown hgrow (by rw [prs_append]; rfl)); clear hown hgrow)))
          go_roundw
          case rel => exact ⟨i + 1, by omega, by go_num, Lib.hid (by rw [HSU.out]; unfold fndStep; simp only [HP.out]; exact HN.out)⟩
          case measure => simp [intOf]; omega
        | none =>
          have hml2 : m (litS s) = none := by rw [hml, hpos]; rfl
          have HM := Lib.hid hml2
          have HP := Lib.hid hpos
          clear hml hml2 hpos
          go_wp2_with (first
            | (at_lookup; refine wpList_look_ok _ rfl _ _ 103 rfl 9 3 lawS Try.underlying103 Try.underlying3 (zero3 _) (w.heap.size + 1) _ m rfl HX.out.2.1 _ _ rfl (keyS HK.out) ?_; rw [HM.out])
            | (at_len; refine wpList_lenM _ rfl _ 103 rfl 9 3 Try.underlying103 (w.heap.size + 1) _ m rfl HX.out.2.1 ?_)
            | (at_mapUpdate; refine wpList_put _ rfl _ _ _ 103 rfl 9 3 lawS Try.underlying103 Try.underlying3 (w.heap.size + 1) _ m rfl HX.out.2.1 (by unfold maxLen; omega) _ _ rfl _ rfl (keyS HK.out) (wf_nat _ (by omega)) ?_; rw [HM.out]; intro wq hmq hgq; have HQ := Lib.hid (HX.out.1.put (ds' := ds ++ [s]) (by rw [List.length_append]; exact hmq) (HX.out.2.2.put HP.out) hgq); have bq := hgq.size; clear hmq hgq)
            | (at_builtin; go_must (refine wpList_append_rd _ rfl _ _ 23 rfl (w.heap.size + 2) 66 i0 (.agg #[.int .i64 0, .int .i64 0]) 2 16 Try.underlying23 HI.out.1 HI.out.2.1 HI.out.2.2.1 HI.out.2.2.2 rfl (by decide) _ _ _ rfl (HQ.out.own.alloc _) _ _ _ 1 1 _ rfl (rd_newP _ _ _ _) (by simp [Value.oneCell']) (by unfold maxLen; omega) (by omega) (by simp; omega) ?_; intro v4 w4 _ hown hgrow _; have HN := Lib.hid ((HQ.out.on ((Below.refl _ _).alloc (Nat.le_refl _) _)).app (out' := out ++ [((ds.length : Int), 0)]) hown hgrow (by rw [prs_append]; rfl)); clear hown hgrow)))
          go_roundw
          case rel => exact ⟨i + 1, by omega, by go_num, Lib.hid (by rw [HSU.out]; unfold fndStep; simp only [HP.out]; exact HN.out)⟩
          case measure => simp [intOf]; omega
      · have hin : i = ks.length := by rw [HL.out]; omega
        subst hin
        obtain ⟨fl1, fl2⟩ := fnd_len ks ks.length (Nat.le_refl _)
        have hE : foundE ks = if 25 < (fnd ks ks.length).1.length then 5 else 0 := if_neg (by rw [HL.out]; exact hbig)
        have hLL : foundL ks = if foundE ks = 0 then (fnd ks ks.length).2 else [] := rfl
        have hSS : foundS ks = if foundE ks = 0 then plainS ks.length else [] := rfl
        generalize fnd ks ks.length = st at *
        obtain ⟨ds, out⟩ := st
        simp only at fl1 fl2 hE hLL
        have hSt : FdSt w _ ds out wr := HS.out
        obtain ⟨m, hm, hp⟩ := hSt.mp
        obtain ⟨XV, XC, rfl⟩ := own_slice hSt.own
        have HX := Lib.hid (And.intro hSt hm)
        have f0 : wr.frozen? ⟨w.heap.size, 0, none⟩ = false := hSt.b0.frozen 0
        have f1 : wr.frozen? ⟨w.heap.size, 1, none⟩ = false := hSt.b0.frozen 1
        have e0 : wr.cell? ⟨w.heap.size, 0, none⟩ = some (.slice none 0 0) := hSt.b0.cell 0
        have e1 : wr.cell? ⟨w.heap.size, 1, none⟩ = some (.slice none 0 0) := hSt.b0.cell 1
        clear hm hp hSt HS
        by_cases h25 : 25 < ds.length
        · rw [if_pos h25] at hE
          rw [hE, if_neg (by decide)] at hLL hSS
          have HE := Lib.hid (And.intro hE (And.intro hLL hSS))
          have hd : decide ((25 : Int) < (ds.length : Int)) = true := by simp; omega
          have hd2 : decide (25 < ds.length) = true := by simpa using h25
          clear hE hLL hSS
          go_wp2_with (at_len; refine wpList_lenM _ rfl _ 103 rfl 9 3 Try.underlying103 (w.heap.size + 1) _ m rfl HX.out.2 ?_)
          have HF2 := (HX.out.1.b0.set_ 0 (.slice none 0 0)).set_ 1 (.slice none 0 0)
          have g0 := HF2.cell 0
          have g1 := HF2.cell 1
          simp at g0 g1
          refine bodyPost_ret (v := .tuple #[.agg #[.slice none 0 0, .slice none 0 0], .int .i64 5]) (by simp [results, Try.results33, go_sem, g0, g1]) rfl ?_
          rw [HE.out.1, HE.out.2.1, HE.out.2.2]
          exact ⟨none, 0, none, 0, rfl, World.ownsRow_nil _ _ _ _, World.ownsRow_nil _ _ _ _, (HX.out.1.below.setCell (by simp) _).setCell (by simp) _⟩
        · rw [if_neg h25] at hE
          rw [hE, if_pos rfl] at hLL hSS
          have HE := Lib.hid (And.intro hE (And.intro hLL hSS))
          have hd : decide ((25 : Int) < (ds.length : Int)) = false := by simp; omega
          have hd2 : decide (25 < ds.length) = false := by simpa using h25
          have FL := Lib.hid fl1
          clear hE hLL hSS e0 e1 f0 f1
          have fl3 : out.length ≤ 512 := by omega
          clear fl1
          go_wp2_with (first
            | (at_len; refine wpList_lenM _ rfl _ 103 rfl 9 3 Try.underlying103 (w.heap.size + 1) _ m rfl HX.out.2 ?_)
            | fail)
          refine (plain_any XV out.length XC wr (by omega)).mono ?_
          rintro e w5 ⟨B, d, rfl, o5, hb5⟩
          have HY := Lib.hid (And.intro (HX.out.1.on hb5) o5)
          have f0 : w5.frozen? ⟨w.heap.size, 0, none⟩ = false := HY.out.1.b0.frozen 0
          have f1 : w5.frozen? ⟨w.heap.size, 1, none⟩ = false := HY.out.1.b0.frozen 1
          have e0 : w5.cell? ⟨w.heap.size, 0, none⟩ = some (.slice none 0 0) := HY.out.1.b0.cell 0
          have e1 : w5.cell? ⟨w.heap.size, 1, none⟩ = some (.slice none 0 0) := HY.out.1.b0.cell 1
          have bw := HX.out.1.below.size
          have bw2 := HX.out.2.lt
          clear o5 hb5
          go_wp2
          have HF2 := (HY.out.1.b0.set_ 0 (.slice XV out.length XC)).set_ 1 (.slice B (plainS out.length).length d)
          have g0 := HF2.cell 0
          have g1 := HF2.cell 1
          simp at g0 g1
          refine bodyPost_ret (v := .tuple #[.agg #[.slice XV out.length XC, .slice B (plainS out.length).length d], .int .i64 0]) (by simp [results, Try.results33, go_sem, g0, g1]) rfl ?_
          rw [HE.out.1, HE.out.2.1, HE.out.2.2, ← FL.out]
          exact ⟨XV, XC, B, d, rfl, own_more (own_setCell (own_setCell HY.out.1.own (by simp) _) (by simp) _) (by omega), own_more (own_setCell (own_setCell HY.out.2 (by simp; omega) _) (by simp; omega) _) (by omega), (HY.out.1.below.setCell (by simp) _).setCell (by simp) _⟩
end Go.Proofs.Ytbjfbmienlojkaa
