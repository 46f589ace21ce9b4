/- Faults: the lines that do not stand as a scheme says (no program in sight; then the walk).
   may and Within: two schemes held against each other.
   The reference's Within: the walk; it answers as Within does. -/
import Derived.Test.YtbjfbmienlojkaaSteps
import Derived.Test.YtbjfbmienlojkaaT45
import Derived.Test.YtbjfbmienlojkaaT31
import Derived.Deep.DeepMust
namespace Go.Proofs.Ytbjfbmienlojkaa
open Go.RowKit Go.Maps

theorem first_min (ls : List (Int × Int)) (i : Nat) : ∀ f k q, k ≤ q → q < firstFrom ls i f k → q < i → i ≤ k + f → alikeB ls q i = false := by
  intro f
  induction f with
  | zero => intro k q h1 h2 h3 h4; omega
  | succ f ih =>
    intro k q h1 h2 h3 h4
    unfold firstFrom at h2
    by_cases hk : k < i
    · rw [if_pos hk] at h2
      cases ha : alikeB ls k i with
      | true => rw [ha, if_pos rfl] at h2; omega
      | false =>
        rw [ha, if_neg (by simp)] at h2
        rcases Nat.lt_or_ge k q with h5 | h5
        · exact ih (k + 1) q h5 h2 h3 (by omega)
        · have : q = k := by omega
          subst this
          exact ha
    · omega
theorem firstF_le (ls : List (Int × Int)) (i : Nat) : firstF ls i ≤ i := first_le ls i i 0
theorem first_frst (ls : List (Int × Int)) {i n : Nat} (hi : i < n) (h0 : 0 ≤ clsAt ls i) : frst ls n (clsAt ls i) = firstF ls i + 1 := by
  cases hf : frst ls n (clsAt ls i) with
  | zero => exact absurd rfl ((frst_zero ls n _).1 hf i hi)
  | succ j =>
    obtain ⟨h1, h2, h3⟩ := frst_pos ls n _ j hf
    have hle := firstF_le ls i
    have hfi : clsAt ls (firstF ls i) = clsAt ls i := by
      rcases Nat.lt_or_ge (firstF ls i) i with h | h
      · exact (firstF_cls ls h).2
      · rw [show firstF ls i = i by omega]
    have hji : ¬ firstF ls i < j := fun h => h3 _ h hfi
    have hij : ¬ j < firstF ls i := fun h => by
      have := first_min ls i i 0 j (by omega) h (by omega) (by omega)
      unfold alikeB at this
      simp only [Bool.or_eq_false_iff, Bool.and_eq_false_iff, decide_eq_false_iff_not] at this
      rcases this.2 with h4 | h4
      · omega
      · exact h4 h2
    omega
theorem firstF_neg (ls : List (Int × Int)) {i : Nat} (h : clsAt ls i < 0) : firstF ls i = i := by
  have hle := firstF_le ls i
  rcases Nat.lt_or_ge (firstF ls i) i with h1 | h1
  · have := (firstF_cls ls h1).1; omega
  · omega

def faultAs (i f : Nat) (same : Bool) (tw : Option Nat) : List (Int × Int × Int) :=
  if f < i then (if same then [] else [((i : Int), (f : Int), 161)]) else match tw with
    | some j => [((i : Int), (j : Int), 162)]
    | none => []
def faultAt (ls : List (Int × Int)) (ks : List ByteArray) (i : Nat) : List (Int × Int × Int) :=
  match ks[i]? with
  | none => []
  | some s => faultAs i (firstF ls i) (decide (ks[firstF ls i]? = some s)) (posB (ks.take i) s)
theorem faultAt_eq (ls : List (Int × Int)) (ks : List ByteArray) (i : Nat) (s : ByteArray) (h : ks[i]? = some s) : faultAt ls ks i = faultAs i (firstF ls i) (decide (ks[firstF ls i]? = some s)) (posB (ks.take i) s) := by
  unfold faultAt
  rw [h]
def faultsPre (ls : List (Int × Int)) (ks : List ByteArray) (i : Nat) : List (Int × Int × Int) := (List.range i).flatMap (faultAt ls ks)
theorem faultsPre_succ (ls : List (Int × Int)) (ks : List ByteArray) (i : Nat) : faultsPre ls ks (i + 1) = faultsPre ls ks i ++ faultAt ls ks i := by
  unfold faultsPre
  rw [List.range_succ, List.flatMap_append]
  simp
theorem faultAt_len (ls : List (Int × Int)) (ks : List ByteArray) (i : Nat) : (faultAt ls ks i).length ≤ 1 := by
  unfold faultAt
  split
  · simp
  · unfold faultAs
    split
    · split <;> simp
    · split <;> simp
theorem faultsPre_len (ls : List (Int × Int)) (ks : List ByteArray) : ∀ i, (faultsPre ls ks i).length ≤ i := by
  intro i
  induction i with
  | zero => exact Nat.le_refl _
  | succ i ih =>
    rw [faultsPre_succ, List.length_append]
    have := faultAt_len ls ks i
    omega
def faultsOk (ls : List (Int × Int)) (st : List Int) (ks : List ByteArray) : Bool := may ls st && decide (ks.length = ls.length)
def faultsL (ls : List (Int × Int)) (st : List Int) (ks : List ByteArray) : List (Int × Int × Int) := if faultsOk ls st ks then faultsPre ls ks ks.length else []

def tps (l : List (Int × Int × Int)) : List Value := l.flatMap fun p => [.int .i64 p.1, .int .i64 p.2.1, .int .i64 p.2.2]
theorem tps_len (l : List (Int × Int × Int)) : (tps l).length = l.length * 3 := by
  induction l with
  | nil => rfl
  | cons a l ih => simp only [tps, List.flatMap_cons, List.length_append, List.length_cons, List.length_nil] at ih ⊢; omega
theorem tps_append (a b : List (Int × Int × Int)) : tps (a ++ b) = tps a ++ tps b := by simp [tps]
theorem rd_newT (w : World) (t : TypeId) (v u x : Value) : Rd (w.alloc (.cells #[v, u, x] t)) w.heap.size (w.heap.size + 1) 3 (some ⟨w.heap.size, 0, none⟩) 1 [v, u, x] := by
  refine ⟨rfl, fun _ => ⟨w.heap.size, 0, rfl, Nat.le_refl _, Nat.lt_succ_self _, fun j y hu => ?_⟩⟩
  rw [Nat.zero_add, (Blk.new w t #[v, u, x]).cell]
  simpa using hu
theorem PosIs.keep {m : Lit → Option Int} {ds : List ByteArray} (h : PosIs m ds) {s : ByteArray} {p : Nat} (hs : posB ds s = some p) : PosIs m (ds ++ [s]) := by
  intro t
  rw [posB_snoc, h t]
  cases hp : posB ds t with
  | some p => rfl
  | none =>
    have : ¬ s = t := by rintro rfl; rw [hp] at hs; cases hs
    simp [this]

/-- memory while Faults runs behind the first lines -/
structure FlSt (w0 : World) (a1 a2 : Value) (q : Nat) (cs : Array Value) (ds : List ByteArray) (v : Value) (out : List (Int × Int × Int)) (w : World) : Prop where
  b0 : Blk w w0.heap.size 26 #[a1, a2]
  b6 : Blk w q 100 cs
  mp : ∃ m N, MapIs Try.prog w 9 3 (q + 1) m N ∧ N ≤ ds.length ∧ PosIs m ds
  own : w.ownsRow (q + 2) 63 3 v out.length (tps out)
  below : Below w0.heap.size w0 w
  s1 : w0.heap.size < q
section
variable {w0 : World} {a1 a2 : Value} {q : Nat} {cs : Array Value} {ds ds' : List ByteArray} {v v' : Value} {out out' : List (Int × Int × Int)} {w w' : World}
theorem FlSt.on (h : FlSt w0 a1 a2 q cs ds v out w) (hb : Below w.heap.size w w') : FlSt w0 a1 a2 q cs ds v out w' :=
  ⟨h.b0.below hb h.b0.lt, h.b6.below hb h.b6.lt, let ⟨m, N, h1, h2, h3⟩ := h.mp; ⟨m, N, h1.on hb, h2, h3⟩, own_stay h.own (Only.of_below hb _), h.below.trans (hb.mono h.below.size), h.s1⟩
theorem FlSt.app {n : Nat} {xs : List Value} (h : FlSt w0 a1 a2 q cs ds v out w) (hown : w'.ownsRow (q + 2) 63 3 v' n xs) (hg : w.grownBy w' v.ownBlock) (hc : xs = tps out') : FlSt w0 a1 a2 q cs ds v' out' w' := by
  subst hc
  have hn : n = out'.length := by have := hown.1; rw [tps_len] at this; omega
  subst hn
  have hs := h.s1
  have ho : Only (fun k => v.ownBlock = some k) w w' := (Only.refl _ _).grown hg (fun _ hg => .inl hg)
  obtain ⟨m, N, h1, h2, h3⟩ := h.mp
  exact ⟨h.b0.only ho (fun hk => by have := (h.own.lt _ hk).1; omega), h.b6.only ho (fun hk => by have := (h.own.lt _ hk).1; omega), ⟨m, N, h1.only ho (fun hk => by have := (h.own.lt _ hk).1; omega), h2, h3⟩, hown,
    h.below.trans (ho.below h.below.size (fun k hk hh => by have := (h.own.lt _ hh).1; omega)), hs⟩
theorem FlSt.put {m' : Lit → Option Int} {N : Nat} (h : FlSt w0 a1 a2 q cs ds v out w) (hm : MapIs Try.prog w' 9 3 (q + 1) m' N) (hN : N ≤ ds'.length) (hp : PosIs m' ds') (hg : w.grownBy w' (some (q + 1))) : FlSt w0 a1 a2 q cs ds' v out w' := by
  have hs := h.s1
  have ho : Only (fun k => k = q + 1) w w' := (Only.refl _ _).grown hg (fun _ hg => .inl (by injection hg with hg; exact hg.symm))
  exact ⟨h.b0.only ho (by omega), h.b6.only ho (by omega), ⟨m', N, hm, hN, hp⟩, own_only h.own ho (fun k hk _ _ he => by omega), h.below.trans (ho.below h.below.size (fun k hk he => by omega)), hs⟩
theorem FlSt.met (h : FlSt w0 a1 a2 q cs ds v out w) {s : ByteArray} {p : Nat} (hs : posB ds s = some p) : FlSt w0 a1 a2 q cs (ds ++ [s]) v out w :=
  ⟨h.b0, h.b6, let ⟨m, N, h1, h2, h3⟩ := h.mp; ⟨m, N, h1, by rw [List.length_append]; omega, h3.keep hs⟩, h.own, h.below, h.s1⟩
end
theorem fl_init {w0 w : World} {a1 a2 : Value} {cs : Array Value} (h0 : Blk w w0.heap.size 26 #[a1, a2]) (hb : Below w0.heap.size w0 w) (z : Array Value) (_hz : z.size = cs.size) : FlSt w0 a1 a2 w.heap.size cs [] (.slice none 0 0) [] (((w.alloc (.cells z 100)).setRow w.heap.size cs).alloc (.map #[] 0)) := by
  have hB : Below w.heap.size w (((w.alloc (.cells z 100)).setRow w.heap.size cs).alloc (.map #[] 0)) := ((below_setRow ((Below.refl _ _).alloc (Nat.le_refl _) _) (Nat.le_refl _) cs)).alloc (by simp) _
  have hm := MapIs.made Try.prog ((w.alloc (.cells z 100)).setRow w.heap.size cs) 9 3
  rw [show ((w.alloc (.cells z 100)).setRow w.heap.size cs).heap.size = w.heap.size + 1 by simp] at hm
  exact ⟨h0.below hB h0.lt, Blk.alloc (setRow_heap _ _ _ _ _ _ (Blk.new w 100 z)) _, ⟨fun _ => none, 0, hm, Nat.le_refl _, fun s => rfl⟩, World.ownsRow_nil _ _ _ _, hb.trans (hB.mono hb.size), h0.lt⟩

set_option maxHeartbeats 4000000 in
set_option maxRecDepth 100000 in
theorem faults_bad (A1 A2 A : Option Addr) (n1 c1 n2 c2 n c L1 L2 : Nat) (ls : List (Int × Int)) (st : List Int) (w : World)
    (h1 : Rd w L1 w.heap.size 2 A1 n1 (prs ls)) (h2 : Rd w L2 w.heap.size 1 A2 n2 (st.map (Value.int .i64))) (hn2 : n2 ≤ maxLen) (hn1 : n1 ≤ maxLen) (hbad : may ls st = false ∨ n ≠ n1) :
    Calls Try.prog 36 #[.agg #[.slice A1 n1 c1, .slice A2 n2 c2], .slice A n c] w fun e w' => e = .returned (.tuple #[.slice none 0 0, .int .i64 2]) ∧ Below w.heap.size w w' := by
  have H1 := Lib.hid h1
  have H2 := Lib.hid h2
  clear h1 h2
  go_enter Try.func36, Try.ntmps36
  go_upto_region 1 with (fail)
  refine wp_abs (fun wx => Blk wx w.heap.size 26 #[.slice A1 n1 c1, .slice A2 n2 c2] ∧ Below w.heap.size w wx) ⟨Blk.new _ _ _, (Below.refl _ _).alloc (Nat.le_refl _) _⟩ ?_
  rintro wx ⟨k0, hb⟩
  have c00 : wx.cell? ⟨w.heap.size, 0, none⟩ = some (.slice A1 n1 c1) := k0.cell 0
  have c01 : wx.cell? ⟨w.heap.size, 1, none⟩ = some (.slice A2 n2 c2) := k0.cell 1
  have HK := Lib.hid (And.intro k0 hb)
  clear k0 hb
  go_wp2_with fail
  refine (check_any A1 A2 n1 c1 n2 c2 L1 L2 ls st wx (H1.out.up HK.out.2 HK.out.2.size) (H2.out.up HK.out.2 HK.out.2.size) hn2 hn1).mono ?_
  rintro e w1 ⟨rfl, hb1⟩
  have HA := Lib.hid (And.intro (HK.out.1.below hb1 HK.out.1.lt) (HK.out.2.trans (hb1.mono HK.out.2.size)))
  clear c00 c01 hb1
  cases hm : may ls st with
  | false =>
    clear hbad hm
    simp only [errOf]
    go_wp2
    go_ret2
    exact ⟨rfl, HA.out.2⟩
  | true =>
    have hne : n ≠ n1 := by
      rcases hbad with h | h
      · rw [hm] at h; cases h
      · exact h
    have hb : ((n : Int) != (n1 : Int)) = true := by simp; omega
    have c00 : w1.cell? ⟨w.heap.size, 0, none⟩ = some (.slice A1 n1 c1) := HA.out.1.cell 0
    clear hbad hm hne
    simp only [errOf]
    go_wp2
    go_ret2
    exact ⟨rfl, HA.out.2⟩
end Go.Proofs.Ytbjfbmienlojkaa

namespace Go.Proofs.Ytbjfbmienlojkaa
open Go.RowKit

def mayTwo (l1 l2 : List (Int × Int)) (s1 s2 : List Int) : Bool := may l1 s1 && (may l2 s2 && decide (l1.length = l2.length))

set_option maxHeartbeats 2000000 in
set_option maxRecDepth 100000 in
theorem mayTwo_any (A1 A2 B1 B2 : Option Addr) (n1 c1 n2 c2 m1 d1 m2 d2 L1 L2 L3 L4 : Nat) (l1 l2 : List (Int × Int)) (s1 s2 : List Int) (w : World)
    (h1 : Rd w L1 w.heap.size 2 A1 n1 (prs l1)) (h2 : Rd w L2 w.heap.size 1 A2 n2 (s1.map (Value.int .i64))) (h3 : Rd w L3 w.heap.size 2 B1 m1 (prs l2)) (h4 : Rd w L4 w.heap.size 1 B2 m2 (s2.map (Value.int .i64)))
    (e1 : n1 ≤ maxLen) (e2 : n2 ≤ maxLen) (e3 : m1 ≤ maxLen) (e4 : m2 ≤ maxLen) :
    Calls Try.prog 71 #[.agg #[.slice A1 n1 c1, .slice A2 n2 c2], .agg #[.slice B1 m1 d1, .slice B2 m2 d2]] w fun e w' => e = .returned (.int .i64 (errOf (mayTwo l1 l2 s1 s2))) ∧ Below w.heap.size w w' := by
  have q1 : l1.length = n1 := by have := h1.1; rw [prs_len] at this; omega
  have q2 : l2.length = m1 := by have := h3.1; rw [prs_len] at this; omega
  have H1 := Lib.hid h1
  have H2 := Lib.hid h2
  have H3 := Lib.hid h3
  have H4 := Lib.hid h4
  have HQ := Lib.hid (And.intro q1 q2)
  clear h1 h2 h3 h4 q1 q2
  go_enter Try.func71, Try.ntmps71
  go_upto_region 1 with (fail)
  refine wp_abs (TwoIn w (.slice A1 n1 c1) (.slice A2 n2 c2) (.slice B1 m1 d1) (.slice B2 m2 d2)) (TwoIn.init w _ _ _ _) ?_
  intro w1 hw
  have c0 : w1.cell? ⟨w.heap.size, 0, none⟩ = some (.slice A1 n1 c1) := hw.b0.cell 0
  have c1' : w1.cell? ⟨w.heap.size, 1, none⟩ = some (.slice A2 n2 c2) := hw.b0.cell 1
  have HW := Lib.hid hw
  clear hw
  go_wp2_with fail
  refine (check_any A1 A2 n1 c1 n2 c2 L1 L2 l1 s1 w1 (H1.out.up HW.out.below HW.out.below.size) (H2.out.up HW.out.below HW.out.below.size) e2 e1).mono ?_
  rintro e w2 ⟨rfl, hb2⟩
  have HX := Lib.hid (HW.out.on hb2)
  clear c0 c1' hb2 HW
  cases hm1 : may l1 s1 with
  | false =>
    have HM1 := Lib.hid hm1
    clear hm1
    simp only [errOf]
    go_wp2
    go_ret
    exact ⟨ret_int (by unfold mayTwo; rw [HM1.out]; rfl), HX.out.below⟩
  | true =>
    have HM1 := Lib.hid hm1
    clear hm1
    simp only [errOf]
    have c0 : w2.cell? ⟨w.heap.size + 1, 0, none⟩ = some (.slice B1 m1 d1) := HX.out.b1.cell 0
    have c1' : w2.cell? ⟨w.heap.size + 1, 1, none⟩ = some (.slice B2 m2 d2) := HX.out.b1.cell 1
    go_wp2_with fail
    refine (check_any B1 B2 m1 d1 m2 d2 L3 L4 l2 s2 w2 (H3.out.up HX.out.below HX.out.below.size) (H4.out.up HX.out.below HX.out.below.size) e4 e3).mono ?_
    rintro e w3 ⟨rfl, hb3⟩
    have HY := Lib.hid (HX.out.on hb3)
    clear c0 c1' hb3 HX
    cases hm2 : may l2 s2 with
    | false =>
      have HM2 := Lib.hid hm2
      clear hm2
      simp only [errOf]
      go_wp2
      go_ret
      exact ⟨ret_int (by unfold mayTwo; rw [HM1.out, HM2.out]; rfl), HY.out.below⟩
    | true =>
      have HM2 := Lib.hid hm2
      clear hm2
      simp only [errOf]
      have c0 : w3.cell? ⟨w.heap.size, 0, none⟩ = some (.slice A1 n1 c1) := HY.out.b0.cell 0
      have d0 : w3.cell? ⟨w.heap.size + 1, 0, none⟩ = some (.slice B1 m1 d1) := HY.out.b1.cell 0
      by_cases hn : n1 = m1
      · subst hn
        have hb : ((n1 : Int) != (n1 : Int)) = false := by simp
        go_wp2
        go_ret
        exact ⟨ret_int (by unfold mayTwo; rw [HM1.out, HM2.out, HQ.out.1, HQ.out.2]; simp [errOf]), HY.out.below⟩
      · have hb : ((n1 : Int) != (m1 : Int)) = true := by simp; omega
        go_wp2
        go_ret
        exact ⟨ret_int (by unfold mayTwo; rw [HM1.out, HM2.out, HQ.out.1, HQ.out.2, decide_eq_false hn]; rfl), HY.out.below⟩

theorem mayTwo_parts {l1 l2 : List (Int × Int)} {s1 s2 : List Int} (h : mayTwo l1 l2 s1 s2 = true) : may l1 s1 = true ∧ may l2 s2 = true ∧ l1.length = l2.length := by
  unfold mayTwo at h
  simp only [Bool.and_eq_true, decide_eq_true_eq] at h
  exact h

/-- line i keeps within -/
def withinAt (l1 l2 : List (Int × Int)) (i : Nat) : Bool := !decide (firstF l1 i < i) || (decide (0 ≤ clsAt l2 i) && decide (clsAt l2 i = clsAt l2 (firstF l1 i)))
def withinF (l1 l2 : List (Int × Int)) : Bool := (List.range l1.length).all (withinAt l1 l2)
theorem withinF_true {l1 l2 : List (Int × Int)} {n : Nat} (hn : l1.length = n) (h : ∀ i, i < n → withinAt l1 l2 i = true) : withinF l1 l2 = true := by
  unfold withinF
  rw [List.all_eq_true]
  intro i hi
  exact h i (by have := List.mem_range.1 hi; omega)
theorem withinF_false {l1 l2 : List (Int × Int)} {n i : Nat} (hn : l1.length = n) (hi : i < n) (h : withinAt l1 l2 i = false) : withinF l1 l2 = false := by
  unfold withinF
  rw [List.all_eq_false]
  exact ⟨i, List.mem_range.2 (by omega), by rw [h]; simp⟩

/-- two boxes of schemes, and the first lines of one -/
structure WnSt (w0 : World) (a1 a2 b1 b2 : Value) (q : Nat) (cs : Array Value) (w : World) : Prop where
  two : TwoIn w0 a1 a2 b1 b2 w
  b7 : Blk w q 100 cs
theorem WnSt.on {w0 : World} {a1 a2 b1 b2 : Value} {q : Nat} {cs : Array Value} {w w' : World} (h : WnSt w0 a1 a2 b1 b2 q cs w) (hb : Below w.heap.size w w') : WnSt w0 a1 a2 b1 b2 q cs w' := ⟨h.two.on hb, h.b7.below hb h.b7.lt⟩
theorem wn_init {w0 w : World} {a1 a2 b1 b2 : Value} {cs : Array Value} (h : TwoIn w0 a1 a2 b1 b2 w) (z : Array Value) : WnSt w0 a1 a2 b1 b2 w.heap.size cs ((w.alloc (.cells z 100)).setRow w.heap.size cs) := by
  have hB : Below w.heap.size w ((w.alloc (.cells z 100)).setRow w.heap.size cs) := below_setRow ((Below.refl _ _).alloc (Nat.le_refl _) _) (Nat.le_refl _) cs
  exact ⟨h.on hB, setRow_heap _ _ _ _ _ _ (Blk.new w 100 z)⟩
theorem cells_one {cs : Array Value} {f : Int → Nat} (h1 : cs.size = 25) (h2 : ∀ c : Nat, c < 25 → cs[c]? = some (.int .i64 (f c))) : cs.all (·.oneCell') = true := by
  rw [Array.all_eq_true_iff_forall_mem]
  intro u hu
  obtain ⟨q, hq, rfl⟩ := Array.mem_iff_getElem.1 hu
  have hc := h2 q (by omega)
  rw [Array.getElem?_eq_getElem hq] at hc
  injection hc with hc
  rw [hc]; rfl

set_option maxHeartbeats 2000000 in
set_option maxRecDepth 100000 in
theorem within_bad (A1 A2 B1 B2 : Option Addr) (n1 c1 n2 c2 m1 d1 m2 d2 L1 L2 L3 L4 : Nat) (l1 l2 : List (Int × Int)) (s1 s2 : List Int) (w : World)
    (h1 : Rd w L1 w.heap.size 2 A1 n1 (prs l1)) (h2 : Rd w L2 w.heap.size 1 A2 n2 (s1.map (Value.int .i64))) (h3 : Rd w L3 w.heap.size 2 B1 m1 (prs l2)) (h4 : Rd w L4 w.heap.size 1 B2 m2 (s2.map (Value.int .i64)))
    (e1 : n1 ≤ maxLen) (e2 : n2 ≤ maxLen) (e3 : m1 ≤ maxLen) (e4 : m2 ≤ maxLen) (hm : mayTwo l1 l2 s1 s2 = false) :
    Calls Try.prog 44 #[.agg #[.slice A1 n1 c1, .slice A2 n2 c2], .agg #[.slice B1 m1 d1, .slice B2 m2 d2]] w fun e w' => e = .returned (.tuple #[.bool false, .int .i64 2]) ∧ Below w.heap.size w w' := by
  have H1 := Lib.hid h1
  have H2 := Lib.hid h2
  have H3 := Lib.hid h3
  have H4 := Lib.hid h4
  have HM := Lib.hid hm
  clear h1 h2 h3 h4 hm
  go_enter Try.func44, Try.ntmps44
  go_upto_region 1 with (fail)
  refine wp_abs (TwoIn w (.slice A1 n1 c1) (.slice A2 n2 c2) (.slice B1 m1 d1) (.slice B2 m2 d2)) (TwoIn.init w _ _ _ _) ?_
  intro w1 hw
  have c0 : w1.cell? ⟨w.heap.size, 0, none⟩ = some (.slice A1 n1 c1) := hw.b0.cell 0
  have c1' : w1.cell? ⟨w.heap.size, 1, none⟩ = some (.slice A2 n2 c2) := hw.b0.cell 1
  have d0 : w1.cell? ⟨w.heap.size + 1, 0, none⟩ = some (.slice B1 m1 d1) := hw.b1.cell 0
  have d1' : w1.cell? ⟨w.heap.size + 1, 1, none⟩ = some (.slice B2 m2 d2) := hw.b1.cell 1
  have HW := Lib.hid hw
  clear hw
  go_wp2_with fail
  refine (mayTwo_any A1 A2 B1 B2 n1 c1 n2 c2 m1 d1 m2 d2 L1 L2 L3 L4 l1 l2 s1 s2 w1 (H1.out.up HW.out.below HW.out.below.size) (H2.out.up HW.out.below HW.out.below.size) (H3.out.up HW.out.below HW.out.below.size) (H4.out.up HW.out.below HW.out.below.size) e1 e2 e3 e4).mono ?_
  rw [HM.out]
  rintro e w2 ⟨rfl, hb2⟩
  have HX := Lib.hid (HW.out.on hb2)
  clear c0 c1' d0 d1' hb2 HW
  simp only [errOf]
  go_wp2
  go_ret2
  exact ⟨rfl, HX.out.below⟩

set_option maxHeartbeats 4000000 in
set_option maxRecDepth 100000 in
theorem within_ok (A1 A2 B1 B2 : Option Addr) (n c1 n2 c2 d1 m2 d2 L1 L2 L3 L4 : Nat) (l1 l2 : List (Int × Int)) (s1 s2 : List Int) (w : World)
    (h1 : Rd w L1 w.heap.size 2 A1 n (prs l1)) (h2 : Rd w L2 w.heap.size 1 A2 n2 (s1.map (Value.int .i64))) (h3 : Rd w L3 w.heap.size 2 B1 n (prs l2)) (h4 : Rd w L4 w.heap.size 1 B2 m2 (s2.map (Value.int .i64)))
    (hm : mayTwo l1 l2 s1 s2 = true) :
    Calls Try.prog 44 #[.agg #[.slice A1 n c1, .slice A2 n2 c2], .agg #[.slice B1 n d1, .slice B2 m2 d2]] w fun e w' => e = .returned (.tuple #[.bool (withinF l1 l2), .int .i64 0]) ∧ Below w.heap.size w w' := by
  have hln : l1.length = n := by have := h1.1; rw [prs_len] at this; omega
  obtain ⟨hm1, hm2, _⟩ := mayTwo_parts hm
  have hn : n ≤ 512 := by rw [← hln]; exact mayLen hm1
  have e2 : n2 ≤ 512 := by have := mayStan hm1; have := h2.1; simp at this; omega
  have e4 : m2 ≤ 512 := by have := mayStan hm2; have := h4.1; simp at this; omega
  have H1 := Lib.hid h1
  have H2 := Lib.hid h2
  have H3 := Lib.hid h3
  have H4 := Lib.hid h4
  have HM := Lib.hid hm
  have HLN := Lib.hid hln
  have HOK := Lib.hid (mayLine hm1)
  have hinf : (Try.prog.info? 100).map (·.size) = some 25 := by kernel_rfl
  have HI100 := Lib.hid hinf
  clear h1 h2 h3 h4 hm hm1 hm2 hln hinf
  go_enter Try.func44, Try.ntmps44
  go_upto_region 1 with (fail)
  refine wp_abs (TwoIn w (.slice A1 n c1) (.slice A2 n2 c2) (.slice B1 n d1) (.slice B2 m2 d2)) (TwoIn.init w _ _ _ _) ?_
  intro w1 hw
  have c0 : w1.cell? ⟨w.heap.size, 0, none⟩ = some (.slice A1 n c1) := hw.b0.cell 0
  have c1' : w1.cell? ⟨w.heap.size, 1, none⟩ = some (.slice A2 n2 c2) := hw.b0.cell 1
  have d0 : w1.cell? ⟨w.heap.size + 1, 0, none⟩ = some (.slice B1 n d1) := hw.b1.cell 0
  have d1' : w1.cell? ⟨w.heap.size + 1, 1, none⟩ = some (.slice B2 m2 d2) := hw.b1.cell 1
  have HW := Lib.hid hw
  clear hw
  go_wp2_with fail
  refine (mayTwo_any A1 A2 B1 B2 n c1 n2 c2 n d1 m2 d2 L1 L2 L3 L4 l1 l2 s1 s2 w1 (H1.out.up HW.out.below HW.out.below.size) (H2.out.up HW.out.below HW.out.below.size) (H3.out.up HW.out.below HW.out.below.size) (H4.out.up HW.out.below HW.out.below.size) (by unfold maxLen; omega) (by unfold maxLen; omega) (by unfold maxLen; omega) (by unfold maxLen; omega)).mono ?_
  rw [HM.out]
  rintro e w2 ⟨rfl, hb2⟩
  have HX := Lib.hid (HW.out.on hb2)
  clear c0 c1' d0 d1' hb2 HW
  simp only [errOf]
  have c0 : w2.cell? ⟨w.heap.size, 0, none⟩ = some (.slice A1 n c1) := HX.out.b0.cell 0
  have c1' : w2.cell? ⟨w.heap.size, 1, none⟩ = some (.slice A2 n2 c2) := HX.out.b0.cell 1
  go_wp2_with fail
  refine (firsts_any A1 A2 n c1 n2 c2 L1 l1 w2 (H1.out.up HX.out.below HX.out.below.size) hn HOK.out).mono ?_
  rintro e w3 ⟨cs, rfl, hcs1, hcs2, hb3⟩
  have hu := Try.underlying100
  have HB := Lib.hid (And.intro (HX.out.on hb3) (And.intro hcs1 (And.intro hcs2 (cells_one hcs1 hcs2))))
  clear c0 c1' hb3 HX hcs1 hcs2
  go_upto_region 5 with (refine wpList_store_row rfl 100 _ _ rfl w3.heap.size cs rfl rfl 100 _ (heap_alloc_new w3 _) (by rw [HI100.out, HB.out.2.1]) (by rw [HB.out.2.1]; rfl) HB.out.2.2.2 ?_)
  refine wp_abs (WnSt w (.slice A1 n c1) (.slice A2 n2 c2) (.slice B1 n d1) (.slice B2 m2 d2) w3.heap.size cs) (wn_init HB.out.1 _) ?_
  intro w4 hS
  have HS := Lib.hid hS
  have c0 : w4.cell? ⟨w.heap.size, 0, none⟩ = some (.slice A1 n c1) := hS.two.b0.cell 0
  clear hS hu
  go_wp2
  clear c0
  go_loopw [23] (fun iv wr => ∃ i : Nat, i ≤ n ∧ iv = .int .i64 i ∧ Hid (WnSt w (.slice A1 n c1) (.slice A2 n2 c2) (.slice B1 n d1) (.slice B2 m2 d2) w3.heap.size cs wr ∧ ∀ j, j < i → withinAt l1 l2 j = true)) (fun iv _ => n - (intOf iv).toNat)
  case atStart => exact ⟨0, by omega, rfl, Lib.hid ⟨HS.out, fun j hj => absurd hj (Nat.not_lt_zero _)⟩⟩
  case round =>
    obtain ⟨i, hi, rfl, HR⟩ := hrel
    clear HS
    by_cases hlt : i < n
    · have hbw := HR.out.1.two.below
      obtain ⟨b, o, hl, rfl, hL, hB, p1, p2⟩ := (H1.out.up hbw hbw.size).two hlt
      obtain ⟨b', o', hl', rfl, hL', hB', p3, p4⟩ := (H3.out.up hbw hbw.size).two hlt
      have hok := HOK.out _ (List.getElem_mem hl)
      have hce : clsAt l1 i = l1[i].1 := clsAt_get hl
      have hde : clsAt l2 i = l2[i].1 := clsAt_get hl'
      generalize l1[i] = x at p1 p2 hok hce
      generalize l2[i].1 = y at p3 hde
      obtain ⟨cl, rf⟩ := x
      have hbb := (lineOk_iff (cl, rf)).1 hok
      simp only at hbb p1 p2 hce
      have g1 := hbb.1
      have g2 := hbb.2.1
      have HCE := Lib.hid (And.intro hce hde)
      clear hok hbb hce hde hL hB hL' hB' p4
      go_upto_region 8 with (fail)
      refine wp_abs (fun wx => WnSt w (.slice (some ⟨b, o, none⟩) n c1) (.slice A2 n2 c2) (.slice (some ⟨b', o', none⟩) n d1) (.slice B2 m2 d2) w3.heap.size cs wx ∧ Blk wx wr.heap.size 66 #[.int .i64 cl, .int .i64 rf]) ⟨HR.out.1.on ((Below.refl _ _).alloc (Nat.le_refl _) _), Blk.new _ _ _⟩ ?_
      rintro wx ⟨hS, h9⟩
      have q3 : wx.cell? ⟨b', o' + i * 2, none⟩ = some (.int .i64 y) := by
        have := (H3.out.up hS.two.below hS.two.below.size).two hlt
        obtain ⟨b'', o'', _, hA, _, _, q, _⟩ := this
        injection hA with hA
        injection hA with hA1 hA2
        subst hA1 hA2
        rw [q]
        have := HCE.out.2
        rw [clsAt_get hl'] at this
        rw [this]
      have n0 : wx.cell? ⟨wr.heap.size, 0, none⟩ = some (.int .i64 cl) := h9.cell 0
      have d0 : wx.cell? ⟨w.heap.size + 1, 0, none⟩ = some (.slice (some ⟨b', o', none⟩) n d1) := hS.two.b1.cell 0
      have HX := Lib.hid (And.intro hS HR.out.2)
      clear p1 p2 p3 hS h9 HR hbw
      have hfle := firstF_le l1 i
      generalize hfg : firstF l1 i = ff at hfle
      have HFG := Lib.hid hfg
      clear hfg
      by_cases hneg : cl < 0
      · have hwa : withinAt l1 l2 i = true := by unfold withinAt; rw [firstF_neg l1 (by rw [HCE.out.1]; exact hneg)]; simp
        have HWA := Lib.hid hwa
        clear hwa
        go_wp2
        go_roundw
        case rel => exact ⟨i + 1, by omega, by go_num, Lib.hid ⟨HX.out.1, fun j hj => by
            rcases Nat.lt_or_ge j i with h | h
            · exact HX.out.2 j h
            · rw [show j = i by omega]; exact HWA.out⟩⟩
        case measure => simp [intOf]; omega
      · obtain ⟨cn, rfl⟩ : ∃ cn : Nat, cl = cn := ⟨cl.toNat, by omega⟩
        have hcn : cn < 25 := by omega
        have hfr : frst l1 n (cn : Int) = ff + 1 := by
          have := first_frst l1 (i := i) (n := n) hlt (by rw [HCE.out.1]; omega)
          rw [HCE.out.1, HFG.out] at this
          exact this
        have hcell : wx.cell? ⟨w3.heap.size, cn, none⟩ = some (.int .i64 ((ff : Int) + 1)) := by
          rw [HX.out.1.b7.cell, HB.out.2.2.1 cn hcn, hfr]
          simp
        have hw1 : IntKind.i64.wrap ((ff : Int) + 1 - 1) = (ff : Int) := by rw [show (ff : Int) + 1 - 1 = (ff : Int) by omega]; exact IntWalk.i64_in _ (by omega)
        clear hfr
        by_cases hfi : ff = i
        · have hwa : withinAt l1 l2 i = true := by unfold withinAt; rw [HFG.out, hfi]; simp
          have HWA := Lib.hid hwa
          have hfb : ((ff : Int) == (i : Int)) = true := by simp; omega
          clear hwa
          go_wp2
          go_roundw
          case rel => exact ⟨i + 1, by omega, by go_num, Lib.hid ⟨HX.out.1, fun j hj => by
              rcases Nat.lt_or_ge j i with h | h
              · exact HX.out.2 j h
              · rw [show j = i by omega]; exact HWA.out⟩⟩
          case measure => simp [intOf]; omega
        · have hfb : ((ff : Int) == (i : Int)) = false := by simp; omega
          obtain ⟨b'', o'', hlf, hA, _, _, q5, q6⟩ := (H3.out.up HX.out.1.two.below HX.out.1.two.below.size).two (k := ff) (by omega)
          injection hA with hA
          injection hA with hA1 hA2
          subst hA1 hA2
          have hze : clsAt l2 ff = l2[ff].1 := clsAt_get hlf
          generalize l2[ff].1 = z at q5 hze
          have hwa : withinAt l1 l2 i = (decide (0 ≤ y) && decide (y = z)) := by unfold withinAt; rw [HFG.out, HCE.out.2, hze, decide_eq_true (by omega : ff < i)]; rfl
          have HWA := Lib.hid hwa
          have j1 : (0 : Int) ≤ (i : Int) := by omega
          have j2 : (i : Int) < (n : Int) := by omega
          have j3 : (0 : Int) ≤ (ff : Int) := by omega
          have j4 : (ff : Int) < (n : Int) := by omega
          have j5 : (0 : Int) ≤ (cn : Int) := by omega
          have j6 : (cn : Int) < 25 := by omega
          clear hwa hze q6 hlf
          go_upto_region 9 with (fail)
          go_quiet (fail)
          by_cases hy : y < 0
          · go_wp2
            go_ret2
            exact ⟨by rw [withinF_false HLN.out hlt (by rw [HWA.out]; simp; omega)]; rfl, bdrawn HX.out.1.two.below _⟩
          · by_cases hyz : y = z
            · subst hyz
              go_wp2
              go_roundw
              case rel => exact ⟨i + 1, by omega, by go_num, Lib.hid ⟨HX.out.1.on (bdrawn (Below.refl _ _) _), fun j hj => by
                  rcases Nat.lt_or_ge j i with h | h
                  · exact HX.out.2 j h
                  · rw [show j = i by omega, HWA.out]; simp; omega⟩⟩
              case measure => simp [intOf]; omega
            · have hyb : (y != z) = true := by simpa using hyz
              go_wp2
              go_ret2
              exact ⟨by rw [withinF_false HLN.out hlt (by rw [HWA.out]; simp [hyz])]; rfl, bdrawn HX.out.1.two.below _⟩
    · go_wp2
      go_ret2
      exact ⟨by rw [withinF_true HLN.out (fun j hj => HR.out.2 j (by omega))]; rfl, HR.out.1.two.below⟩
end Go.Proofs.Ytbjfbmienlojkaa

namespace Go.Proofs.Ytbjfbmienlojkaa
open Go.RowKit

theorem alikeB_iff (ls : List (Int × Int)) (i k : Nat) : alikeB ls i k = true ↔ i = k ∨ (0 ≤ clsAt ls i ∧ clsAt ls i = clsAt ls k) := by unfold alikeB; simp
theorem first_not (ls : List (Int × Int)) {i q : Nat} (hq : q < firstF ls i) : ¬ (0 ≤ clsAt ls q ∧ clsAt ls q = clsAt ls i) := by
  have hle := firstF_le ls i
  have := first_min ls i i 0 q (by omega) hq (by omega) (by omega)
  intro h
  have h2 := (alikeB_iff ls q i).2 (.inr h)
  rw [this] at h2
  cases h2
theorem firstF_self (ls : List (Int × Int)) (i : Nat) : clsAt ls (firstF ls i) = clsAt ls i := by
  have hle := firstF_le ls i
  rcases Nat.lt_or_ge (firstF ls i) i with h1 | h1
  · exact (firstF_cls ls h1).2
  · rw [show firstF ls i = i by omega]
theorem firstF_same (ls : List (Int × Int)) {i k : Nat} (hk : k < i) (h0 : 0 ≤ clsAt ls i) (hc : clsAt ls i = clsAt ls k) : firstF ls i = firstF ls k ∧ firstF ls i < i := by
  have c1 := firstF_self ls i
  have c2 := firstF_self ls k
  have l2 := firstF_le ls k
  have m0 : firstF ls i < i := by
    have hle := firstF_le ls i
    rcases Nat.lt_or_ge (firstF ls i) i with h | h
    · exact h
    · exact absurd ⟨by omega, hc.symm⟩ (first_not ls (i := i) (q := k) (by omega))
  have m1 : ¬ firstF ls i < firstF ls k := fun h => first_not ls h ⟨by omega, by omega⟩
  have m2 : ¬ firstF ls k < firstF ls i := fun h => first_not ls h ⟨by omega, by omega⟩
  exact ⟨by omega, m0⟩

def refOk (l1 l2 : List (Int × Int)) (i k : Nat) : Bool := !alikeB l1 i k || alikeB l2 i k
def refWithinF (l1 l2 : List (Int × Int)) : Bool := (List.range l1.length).all fun i => (List.range i).all (refOk l1 l2 i)
theorem within_same (l1 l2 : List (Int × Int)) : refWithinF l1 l2 = withinF l1 l2 := by
  rw [Bool.eq_iff_iff]
  unfold refWithinF withinF
  simp only [List.all_eq_true, List.mem_range]
  constructor
  · intro h i hi
    unfold withinAt
    by_cases hf : firstF l1 i < i
    · have h1 := h i hi (firstF l1 i) hf
      obtain ⟨c0, c1⟩ := firstF_cls l1 hf
      unfold refOk at h1
      rw [(alikeB_iff l1 i (firstF l1 i)).2 (.inr ⟨c0, c1.symm⟩)] at h1
      have h2 := (alikeB_iff l2 i (firstF l1 i)).1 (by simpa using h1)
      rcases h2 with h2 | h2
      · omega
      · rw [decide_eq_true hf]
        simp [h2.1, h2.2.symm]
    · rw [decide_eq_false hf]; rfl
  · intro h i hi k hk
    unfold refOk
    by_cases ha : alikeB l1 i k = true
    · rw [ha]
      rcases (alikeB_iff l1 i k).1 ha with h1 | ⟨h0, hc⟩
      · omega
      · obtain ⟨hs, hl⟩ := firstF_same l1 hk h0 hc
        have hwi := h i hi
        have hwk := h k (by omega)
        unfold withinAt at hwi hwk
        rw [decide_eq_true hl] at hwi
        simp only [Bool.not_true, Bool.false_or, Bool.and_eq_true, decide_eq_true_eq] at hwi
        have hlk := firstF_le l1 k
        rcases Nat.lt_or_ge (firstF l1 k) k with h2 | h2
        · rw [decide_eq_true h2] at hwk
          simp only [Bool.not_true, Bool.false_or, Bool.and_eq_true, decide_eq_true_eq] at hwk
          simp only [Bool.not_true, Bool.false_or]
          exact (alikeB_iff l2 i k).2 (.inr ⟨hwi.1, by rw [hwi.2, hwk.2, hs]⟩)
        · have : firstF l1 k = k := by omega
          simp only [Bool.not_true, Bool.false_or]
          exact (alikeB_iff l2 i k).2 (.inr ⟨hwi.1, by rw [hwi.2, hs, this]⟩)
    · simp only [Bool.not_eq_true] at ha
      rw [ha]; rfl

set_option maxHeartbeats 4000000 in
set_option maxRecDepth 100000 in
theorem refWithin_any (A1 A2 B1 B2 : Option Addr) (n c1 n2 c2 d1 m2 d2 L1 L3 : Nat) (l1 l2 : List (Int × Int)) (w : World)
    (h1 : Rd w L1 w.heap.size 2 A1 n (prs l1)) (h3 : Rd w L3 w.heap.size 2 B1 n (prs l2)) (hn : n ≤ 512) (hnc : n ≤ c1) :
    Calls Try.prog 49 #[.agg #[.slice A1 n c1, .slice A2 n2 c2], .agg #[.slice B1 n d1, .slice B2 m2 d2]] w fun e w' => e = .returned (.bool (withinF l1 l2)) ∧ Below w.heap.size w w' := by
  have hln : l1.length = n := by have := h1.1; rw [prs_len] at this; omega
  rw [← within_same]
  have H1 := Lib.hid h1
  have H3 := Lib.hid h3
  have HLN := Lib.hid hln
  clear h1 h3 hln
  go_enter Try.func49, Try.ntmps49
  go_upto_region 1 with (fail)
  refine wp_abs (TwoIn w (.slice A1 n c1) (.slice A2 n2 c2) (.slice B1 n d1) (.slice B2 m2 d2)) (TwoIn.init w _ _ _ _) ?_
  intro w1 hw
  have c0 : w1.cell? ⟨w.heap.size, 0, none⟩ = some (.slice A1 n c1) := hw.b0.cell 0
  have HW := Lib.hid hw
  clear hw
  go_wp2
  clear c0
  go_loopw [10] (fun iv wr => ∃ i : Nat, i ≤ n ∧ iv = .int .i64 i ∧ Hid (TwoIn w (.slice A1 n c1) (.slice A2 n2 c2) (.slice B1 n d1) (.slice B2 m2 d2) wr ∧ ∀ j, j < i → ∀ k, k < j → refOk l1 l2 j k = true)) (fun iv _ => n - (intOf iv).toNat)
  case atStart => exact ⟨0, by omega, rfl, Lib.hid ⟨HW.out, fun j hj => absurd hj (Nat.not_lt_zero _)⟩⟩
  case round =>
    obtain ⟨i, hi, rfl, HR⟩ := hrel
    clear HW
    by_cases hlt : i < n
    · have c0 : wr.cell? ⟨w.heap.size, 0, none⟩ = some (.slice A1 n c1) := HR.out.1.b0.cell 0
      have j3 : (i : Int) ≤ (c1 : Int) := by omega
      have j4 : i ≤ c1 := by omega
      go_wp2
      clear c0
      go_loopw [18] (fun kv wq => ∃ k : Nat, k ≤ i ∧ kv = .int .i64 k ∧ Hid (TwoIn w (.slice A1 n c1) (.slice A2 n2 c2) (.slice B1 n d1) (.slice B2 m2 d2) wq ∧ ∀ q, q < k → refOk l1 l2 i q = true)) (fun kv _ => i - (intOf kv).toNat)
      case atStart => exact ⟨0, by omega, rfl, Lib.hid ⟨HR.out.1, fun j hj => absurd hj (Nat.not_lt_zero _)⟩⟩
      case round =>
        rename_i wq
        obtain ⟨k, hk, rfl, HS⟩ := hrel
        by_cases hki : k < i
        · have c0 : wr.cell? ⟨w.heap.size, 0, none⟩ = some (.slice A1 n c1) := HS.out.1.b0.cell 0
          have c1' : wr.cell? ⟨w.heap.size, 1, none⟩ = some (.slice A2 n2 c2) := HS.out.1.b0.cell 1
          go_wp2_with fail
          refine (alike_any A1 A2 n c1 n2 c2 L1 l1 i k wr (H1.out.up HS.out.1.below HS.out.1.below.size) (by unfold maxLen; omega) hlt (by omega)).mono ?_
          rintro e w2 ⟨rfl, hb2⟩
          have HT := Lib.hid (HS.out.1.on hb2)
          clear hb2 c0 c1'
          cases ha : alikeB l1 i k with
          | false =>
            have HOK := Lib.hid (show refOk l1 l2 i k = true by unfold refOk; rw [ha]; rfl)
            clear ha
            go_wp2
            go_roundw
            case rel => exact ⟨k + 1, by omega, by go_num, Lib.hid ⟨HT.out, fun q hq => by
                rcases Nat.lt_or_ge q k with h | h
                · exact HS.out.2 q h
                · rw [show q = k by omega]; exact HOK.out⟩⟩
            case measure => simp [intOf]; omega
          | true =>
            have HA := Lib.hid ha
            have d0 : w2.cell? ⟨w.heap.size + 1, 0, none⟩ = some (.slice B1 n d1) := HT.out.b1.cell 0
            have d1' : w2.cell? ⟨w.heap.size + 1, 1, none⟩ = some (.slice B2 m2 d2) := HT.out.b1.cell 1
            clear ha
            go_wp2_with fail
            refine (alike_any B1 B2 n d1 m2 d2 L3 l2 i k w2 (H3.out.up HT.out.below HT.out.below.size) (by unfold maxLen; omega) hlt (by omega)).mono ?_
            rintro e w3 ⟨rfl, hb3⟩
            have HU := Lib.hid (HT.out.on hb3)
            clear hb3 d0 d1'
            cases hb : alikeB l2 i k with
            | false =>
              have HOK := Lib.hid (show refOk l1 l2 i k = false by unfold refOk; rw [HA.out, hb]; rfl)
              clear hb
              go_wp2
              go_ret
              have hf : refWithinF l1 l2 = false := by
                unfold refWithinF
                rw [List.all_eq_false]
                refine ⟨i, List.mem_range.2 (by rw [HLN.out]; exact hlt), ?_⟩
                simp only [Bool.not_eq_true, List.all_eq_false]
                exact ⟨k, List.mem_range.2 hki, HOK.out⟩
              exact ⟨ret_bool hf.symm, HU.out.below⟩
            | true =>
              have HOK := Lib.hid (show refOk l1 l2 i k = true by unfold refOk; rw [hb]; simp)
              clear hb
              go_wp2
              go_roundw
              case rel => exact ⟨k + 1, by omega, by go_num, Lib.hid ⟨HU.out, fun q hq => by
                  rcases Nat.lt_or_ge q k with h | h
                  · exact HS.out.2 q h
                  · rw [show q = k by omega]; exact HOK.out⟩⟩
              case measure => simp [intOf]; omega
        · go_wp2
          go_roundw
          case rel => exact ⟨i + 1, by omega, by go_num, Lib.hid ⟨HS.out.1, fun j hj q hq => by
              rcases Nat.lt_or_ge j i with h | h
              · exact HR.out.2 j h q hq
              · have : j = i := by omega
                subst this
                exact HS.out.2 q (by omega)⟩⟩
          case measure => simp [intOf]; omega
    · go_wp2
      go_ret
      have hf : refWithinF l1 l2 = true := by
        unfold refWithinF
        rw [List.all_eq_true]
        intro j hj
        rw [List.all_eq_true]
        intro k hk
        exact HR.out.2 j (by have := List.mem_range.1 hj; rw [HLN.out] at this; omega) k (List.mem_range.1 hk)
      exact ⟨ret_bool hf.symm, HR.out.1.below⟩
end Go.Proofs.Ytbjfbmienlojkaa
