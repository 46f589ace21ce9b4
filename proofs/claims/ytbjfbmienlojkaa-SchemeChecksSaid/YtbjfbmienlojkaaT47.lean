/- Faults: the lines that do not stand as a scheme says (no program in sight; then the walk). -/
import Derived.Test.YtbjfbmienlojkaaT36
import Derived.Test.YtbjfbmienlojkaaT45
namespace Go.Proofs.Ytbjfbmienlojkaa
open Go.RowKit Go.Maps

theorem first_min (ls : List (Int × Int)) (i : Nat) : ∀ f k q, k ≤ q → q < firstFrom ls i f k → q < i → i ≤ k + f → alikeB ls q i = false := by
  intro f
  induction f with
  | zero => intro k q h1 h2 h3 h4; omega
  | succ f ih =>
    intro k q h1 h2 h3 h4
    unfold firstFrom at h2
    by_cases hk : k < i
    · rw [if_pos hk] at h2
      cases ha : alikeB ls k i with
      | true => rw [ha, if_pos rfl] at h2; omega
      | false =>
        rw [ha, if_neg (by simp)] at h2
        rcases Nat.lt_or_ge k q with h5 | h5
        · exact ih (k + 1) q h5 h2 h3 (by omega)
        · have : q = k := by omega
          subst this
          exact ha
    · omega
theorem firstF_le (ls : List (Int × Int)) (i : Nat) : firstF ls i ≤ i := first_le ls i i 0
theorem first_frst (ls : List (Int × Int)) {i n : Nat} (hi : i < n) (h0 : 0 ≤ clsAt ls i) : frst ls n (clsAt ls i) = firstF ls i + 1 := by
  cases hf : frst ls n (clsAt ls i) with
  | zero => exact absurd rfl ((frst_zero ls n _).1 hf i hi)
  | succ j =>
    obtain ⟨h1, h2, h3⟩ := frst_pos ls n _ j hf
    have hle := firstF_le ls i
    have hfi : clsAt ls (firstF ls i) = clsAt ls i := by
      rcases Nat.lt_or_ge (firstF ls i) i with h | h
      · exact (firstF_cls ls h).2
      · rw [show firstF ls i = i by omega]
    have hji : ¬ firstF ls i < j := fun h => h3 _ h hfi
    have hij : ¬ j < firstF ls i := fun h => by
      have := first_min ls i i 0 j (by omega) h (by omega) (by omega)
      unfold alikeB at this
      simp only [Bool.or_eq_false_iff, Bool.and_eq_false_iff, decide_eq_false_iff_not] at this
      rcases this.2 with h4 | h4
      · omega
      · exact h4 h2
    omega
theorem firstF_neg (ls : List (Int × Int)) {i : Nat} (h : clsAt ls i < 0) : firstF ls i = i := by
  have hle := firstF_le ls i
  rcases Nat.lt_or_ge (firstF ls i) i with h1 | h1
  · have := (firstF_cls ls h1).1; omega
  · omega

def faultAs (i f : Nat) (same : Bool) (tw : Option Nat) : List (Int × Int × Int) :=
  if f < i then (if same then [] else [((i : Int), (f : Int), 161)]) else match tw with
    | some j => [((i : Int), (j : Int), 162)]
    | none => []
def faultAt (ls : List (Int × Int)) (ks : List ByteArray) (i : Nat) : List (Int × Int × Int) :=
  match ks[i]? with
  | none => []
  | some s => faultAs i (firstF ls i) (decide (ks[firstF ls i]? = some s)) (posB (ks.take i) s)
theorem faultAt_eq (ls : List (Int × Int)) (ks : List ByteArray) (i : Nat) (s : ByteArray) (h : ks[i]? = some s) : faultAt ls ks i = faultAs i (firstF ls i) (decide (ks[firstF ls i]? = some s)) (posB (ks.take i) s) := by
  unfold faultAt
  rw [h]
def faultsPre (ls : List (Int × Int)) (ks : List ByteArray) (i : Nat) : List (Int × Int × Int) := (List.range i).flatMap (faultAt ls ks)
theorem faultsPre_succ (ls : List (Int × Int)) (ks : List ByteArray) (i : Nat) : faultsPre ls ks (i + 1) = faultsPre ls ks i ++ faultAt ls ks i := by
  unfold faultsPre
  rw [List.range_succ, List.flatMap_append]
  simp
theorem faultAt_len (ls : List (Int × Int)) (ks : List ByteArray) (i : Nat) : (faultAt ls ks i).length ≤ 1 := by
  unfold faultAt
  split
  · simp
  · unfold faultAs
    split
    · split <;> simp
    · split <;> simp
theorem faultsPre_len (ls : List (Int × Int)) (ks : List ByteArray) : ∀ i, (faultsPre ls ks i).length ≤ i := by
  intro i
  induction i with
  | zero => exact Nat.le_refl _
  | succ i ih =>
    rw [faultsPre_succ, List.length_append]
    have := faultAt_len ls ks i
    omega
def faultsOk (ls : List (Int × Int)) (st : List Int) (ks : List ByteArray) : Bool := may ls st && decide (ks.length = ls.length)
def faultsL (ls : List (Int × Int)) (st : List Int) (ks : List ByteArray) : List (Int × Int × Int) := if faultsOk ls st ks then faultsPre ls ks ks.length else []

def tps (l : List (Int × Int × Int)) : List Value := l.flatMap fun p => [.int .i64 p.1, .int .i64 p.2.1, .int .i64 p.2.2]
theorem tps_len (l : List (Int × Int × Int)) : (tps l).length = l.length * 3 := by
  induction l with
  | nil => rfl
  | cons a l ih => simp only [tps, List.flatMap_cons, List.length_append, List.length_cons, List.length_nil] at ih ⊢; omega
theorem tps_append (a b : List (Int × Int × Int)) : tps (a ++ b) = tps a ++ tps b := by simp [tps]
theorem rd_newT (w : World) (t : TypeId) (v u x : Value) : Rd (w.alloc (.cells #[v, u, x] t)) w.heap.size (w.heap.size + 1) 3 (some ⟨w.heap.size, 0, none⟩) 1 [v, u, x] := by
  refine ⟨rfl, fun _ => ⟨w.heap.size, 0, rfl, Nat.le_refl _, Nat.lt_succ_self _, fun j y hu => ?_⟩⟩
  rw [Nat.zero_add, (Blk.new w t #[v, u, x]).cell]
  simpa using hu
theorem PosIs.keep {m : Lit → Option Int} {ds : List ByteArray} (h : PosIs m ds) {s : ByteArray} {p : Nat} (hs : posB ds s = some p) : PosIs m (ds ++ [s]) := by
  intro t
  rw [posB_snoc, h t]
  cases hp : posB ds t with
  | some p => rfl
  | none =>
    have : ¬ s = t := by rintro rfl; rw [hp] at hs; cases hs
    simp [this]

/-- memory while Faults runs behind the first lines -/
structure FlSt (w0 : World) (a1 a2 : Value) (q : Nat) (cs : Array Value) (ds : List ByteArray) (v : Value) (out : List (Int × Int × Int)) (w : World) : Prop where
  b0 : Blk w w0.heap.size 26 #[a1, a2]
  b6 : Blk w q 100 cs
  mp : ∃ m N, MapIs Try.prog w 9 3 (q + 1) m N ∧ N ≤ ds.length ∧ PosIs m ds
  own : w.ownsRow (q + 2) 63 3 v out.length (tps out)
  below : Below w0.heap.size w0 w
  s1 : w0.heap.size < q
section
variable {w0 : World} {a1 a2 : Value} {q : Nat} {cs : Array Value} {ds ds' : List ByteArray} {v v' : Value} {out out' : List (Int × Int × Int)} {w w' : World}
theorem FlSt.on (h : FlSt w0 a1 a2 q cs ds v out w) (hb : Below w.heap.size w w') : FlSt w0 a1 a2 q cs ds v out w' :=
  ⟨h.b0.below hb h.b0.lt, h.b6.below hb h.b6.lt, let ⟨m, N, h1, h2, h3⟩ := h.mp; ⟨m, N, h1.on hb, h2, h3⟩, own_stay h.own (Only.of_below hb _), h.below.trans (hb.mono h.below.size), h.s1⟩
theorem FlSt.app {n : Nat} {xs : List Value} (h : FlSt w0 a1 a2 q cs ds v out w) (hown : w'.ownsRow (q + 2) 63 3 v' n xs) (hg : w.grownBy w' v.ownBlock) (hc : xs = tps out') : FlSt w0 a1 a2 q cs ds v' out' w' := by
  subst hc
  have hn : n = out'.length := by have := hown.1; rw [tps_len] at this; omega
  subst hn
  have hs := h.s1
  have ho : Only (fun k => v.ownBlock = some k) w w' := (Only.refl _ _).grown hg (fun _ hg => .inl hg)
  obtain ⟨m, N, h1, h2, h3⟩ := h.mp
  exact ⟨h.b0.only ho (fun hk => by have := (h.own.lt _ hk).1; omega), h.b6.only ho (fun hk => by have := (h.own.lt _ hk).1; omega), ⟨m, N, h1.only ho (fun hk => by have := (h.own.lt _ hk).1; omega), h2, h3⟩, hown,
    h.below.trans (ho.below h.below.size (fun k hk hh => by have := (h.own.lt _ hh).1; omega)), hs⟩
theorem FlSt.put {m' : Lit → Option Int} {N : Nat} (h : FlSt w0 a1 a2 q cs ds v out w) (hm : MapIs Try.prog w' 9 3 (q + 1) m' N) (hN : N ≤ ds'.length) (hp : PosIs m' ds') (hg : w.grownBy w' (some (q + 1))) : FlSt w0 a1 a2 q cs ds' v out w' := by
  have hs := h.s1
  have ho : Only (fun k => k = q + 1) w w' := (Only.refl _ _).grown hg (fun _ hg => .inl (by injection hg with hg; exact hg.symm))
  exact ⟨h.b0.only ho (by omega), h.b6.only ho (by omega), ⟨m', N, hm, hN, hp⟩, own_only h.own ho (fun k hk _ _ he => by omega), h.below.trans (ho.below h.below.size (fun k hk he => by omega)), hs⟩
theorem FlSt.met (h : FlSt w0 a1 a2 q cs ds v out w) {s : ByteArray} {p : Nat} (hs : posB ds s = some p) : FlSt w0 a1 a2 q cs (ds ++ [s]) v out w :=
  ⟨h.b0, h.b6, let ⟨m, N, h1, h2, h3⟩ := h.mp; ⟨m, N, h1, by rw [List.length_append]; omega, h3.keep hs⟩, h.own, h.below, h.s1⟩
end
theorem fl_init {w0 w : World} {a1 a2 : Value} {cs : Array Value} (h0 : Blk w w0.heap.size 26 #[a1, a2]) (hb : Below w0.heap.size w0 w) (z : Array Value) (_hz : z.size = cs.size) : FlSt w0 a1 a2 w.heap.size cs [] (.slice none 0 0) [] (((w.alloc (.cells z 100)).setRow w.heap.size cs).alloc (.map #[] 0)) := by
  have hB : Below w.heap.size w (((w.alloc (.cells z 100)).setRow w.heap.size cs).alloc (.map #[] 0)) := ((below_setRow ((Below.refl _ _).alloc (Nat.le_refl _) _) (Nat.le_refl _) cs)).alloc (by simp) _
  have hm := MapIs.made Try.prog ((w.alloc (.cells z 100)).setRow w.heap.size cs) 9 3
  rw [show ((w.alloc (.cells z 100)).setRow w.heap.size cs).heap.size = w.heap.size + 1 by simp] at hm
  exact ⟨h0.below hB h0.lt, Blk.alloc (setRow_heap _ _ _ _ _ _ (Blk.new w 100 z)) _, ⟨fun _ => none, 0, hm, Nat.le_refl _, fun s => rfl⟩, World.ownsRow_nil _ _ _ _, hb.trans (hB.mono hb.size), h0.lt⟩

set_option maxHeartbeats 4000000 in
set_option maxRecDepth 100000 in
theorem faults_bad (A1 A2 A : Option Addr) (n1 c1 n2 c2 n c L1 L2 : Nat) (ls : List (Int × Int)) (st : List Int) (w : World)
    (h1 : Rd w L1 w.heap.size 2 A1 n1 (prs ls)) (h2 : Rd w L2 w.heap.size 1 A2 n2 (st.map (Value.int .i64))) (hn2 : n2 ≤ maxLen) (hn1 : n1 ≤ maxLen) (hbad : may ls st = false ∨ n ≠ n1) :
    Calls Try.prog 36 #[.agg #[.slice A1 n1 c1, .slice A2 n2 c2], .slice A n c] w fun e w' => e = .returned (.tuple #[.slice none 0 0, .int .i64 2]) ∧ Below w.heap.size w w' := by
  have H1 := Lib.hid h1
  have H2 := Lib.hid h2
  clear h1 h2
  go_enter Try.func36, Try.ntmps36
  go_upto_region 1 with (fail)
  refine wp_abs (fun wx => Blk wx w.heap.size 26 #[.slice A1 n1 c1, .slice A2 n2 c2] ∧ Below w.heap.size w wx) ⟨Blk.new _ _ _, (Below.refl _ _).alloc (Nat.le_refl _) _⟩ ?_
  rintro wx ⟨k0, hb⟩
  have c00 : wx.cell? ⟨w.heap.size, 0, none⟩ = some (.slice A1 n1 c1) := k0.cell 0
  have c01 : wx.cell? ⟨w.heap.size, 1, none⟩ = some (.slice A2 n2 c2) := k0.cell 1
  have HK := Lib.hid (And.intro k0 hb)
  clear k0 hb
  go_wp2_with fail
  refine (check_any A1 A2 n1 c1 n2 c2 L1 L2 ls st wx (H1.out.up HK.out.2 HK.out.2.size) (H2.out.up HK.out.2 HK.out.2.size) hn2 hn1).mono ?_
  rintro e w1 ⟨rfl, hb1⟩
  have HA := Lib.hid (And.intro (HK.out.1.below hb1 HK.out.1.lt) (HK.out.2.trans (hb1.mono HK.out.2.size)))
  clear c00 c01 hb1
  cases hm : may ls st with
  | false =>
    clear hbad hm
    simp only [errOf]
    go_wp2
    go_ret2
    exact ⟨rfl, HA.out.2⟩
  | true =>
    have hne : n ≠ n1 := by
      rcases hbad with h | h
      · rw [hm] at h; cases h
      · exact h
    have hb : ((n : Int) != (n1 : Int)) = true := by simp; omega
    have c00 : w1.cell? ⟨w.heap.size, 0, none⟩ = some (.slice A1 n1 c1) := HA.out.1.cell 0
    clear hbad hm hne
    simp only [errOf]
    go_wp2
    go_ret2
    exact ⟨rfl, HA.out.2⟩
end Go.Proofs.Ytbjfbmienlojkaa
