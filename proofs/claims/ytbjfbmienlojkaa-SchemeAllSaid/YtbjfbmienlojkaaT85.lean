/- scheme.All: the walk of its closures. -/
import Derived.Test.YtbjfbmienlojkaaT84
import Derived.Test.YtbjfbmienlojkaaT22
import Derived.Test.YtbjfbmienlojkaaT44
import Derived.Stop.RegionWithIn
import Derived.RangeFuncCalls
import Derived.RangeFuncBound
namespace Go.Proofs.Ytbjfbmienlojkaa
open Go.RowKit

/-- tell, as a value -/
def tellV (B nb : Nat) : Value := .func (.func 56) #[] #[.pointer (some ⟨B + 2, 0, none⟩), .pointer (some ⟨nb, 0, none⟩), .pointer (some ⟨B, 0, none⟩), .pointer (some ⟨B + 3, 0, none⟩)]

/-- memory while tell runs -/
structure TlSt (B nb n l : Nat) (lv : Value) (p : List (Int × Int)) (W : World) : Prop where
  b0 : Blk W B 42 #[.func (.yield l) #[] #[]]
  b2 : Blk W (B + 2) 23 #[lv]
  b3 : Blk W (B + 3) 41 #[tellV B nb]
  own : W.ownsRow (B + 1) 66 2 lv p.length (prs p)
  bn : Blk W nb 3 #[.int .i64 n]
  ne : nb < B

theorem own_blk_ne {w : World} {base : Nat} {e t : TypeId} {size n g : Nat} {v : Value} {xs : List Value} {cs : Array Value} (h : w.ownsRow base e size v n xs) (hb : Blk w g t cs) (ht : t ≠ e) : v.ownBlock ≠ some g := by
  intro hv
  rcases h.2 with ⟨rfl, _⟩ | ⟨g', cap, cur, rfl, _, hg, _⟩
  · simp [Value.ownBlock] at hv
  · have : g' = g := by simpa [Value.ownBlock] using hv
    subst this
    unfold Blk at hb
    rw [hb] at hg
    injection hg with hg
    injection hg with _ h2
    exact ht h2
theorem TlSt.on {B nb n l : Nat} {lv : Value} {p : List (Int × Int)} {w w' : World} (h : TlSt B nb n l lv p w) (hb : Below w.heap.size w w') : TlSt B nb n l lv p w' :=
  ⟨h.b0.below hb h.b0.lt, h.b2.below hb h.b2.lt, h.b3.below hb h.b3.lt, own_stay h.own (Only.of_below hb _), h.bn.below hb h.bn.lt, h.ne⟩
theorem TlSt.round {B nb n l : Nat} {lv : Value} {p : List (Int × Int)} {w w1 w' : World} {T : Nat → Prop} (h : TlSt B nb n l lv p w) (hb : Below w.heap.size w w1) (ho : Only (fun b => (b < B ∧ ¬ b = nb) ∨ T b) w1 w') (hT : ∀ b, T b → w.heap.size ≤ b) : TlSt B nb n l lv p w' := by
  have h1 := h.on hb
  have l0 := h.b0.lt
  have l2 := h.b2.lt
  have l3 := h.b3.lt
  have ln := h.bn.lt
  have key : ∀ k, B ≤ k → k < w.heap.size → ¬ ((k < B ∧ ¬ k = nb) ∨ T k) := fun k h1 h2 hk => by
    rcases hk with hk | hk
    · omega
    · have := hT _ hk; omega
  refine ⟨h1.b0.only ho (key _ (Nat.le_refl _) l0), h1.b2.only ho (key _ (by omega) l2), h1.b3.only ho (key _ (by omega) l3), own_only h1.own ho (fun k _ _ hk => ?_), h1.bn.only ho (fun hk => ?_), h.ne⟩
  · obtain ⟨a, b⟩ := h.own.lt k hk
    exact key k (by omega) b
  · rcases hk with hk | hk
    · exact hk.2 rfl
    · have := hT _ hk; omega
theorem TlSt.app {B nb n l : Nat} {lv lv' : Value} {p : List (Int × Int)} {w w' : World} (h : TlSt B nb n l lv p w) (x : Int × Int) (ho : w'.ownsRow (B + 1) 66 2 lv' (p.length + 1) (prs p ++ [.int .i64 x.1, .int .i64 x.2])) (hg : w.grownBy w' lv.ownBlock) :
    TlSt B nb n l lv' (p ++ [x]) (w'.setCell ⟨B + 2, 0, none⟩ lv') ∧ Blk w' (B + 2) 23 #[lv] ∧ Below B w (w'.setCell ⟨B + 2, 0, none⟩ lv') := by
  have hO : Only (fun k => lv.ownBlock = some k) w w' := (Only.refl _ _).grown hg (fun _ hg => .inl hg)
  have a0 := h.b0.only hO (own_blk_ne h.own h.b0 (by decide))
  have a2 := h.b2.only hO (own_blk_ne h.own h.b2 (by decide))
  have a3 := h.b3.only hO (own_blk_ne h.own h.b3 (by decide))
  have an := h.bn.only hO (own_blk_ne h.own h.bn (by decide))
  have hne := h.ne
  have l0 := h.b0.lt
  have hB : Below B w w' := hO.below (by omega) (fun k hk hh => by have := (h.own.lt _ hh).1; omega)
  refine ⟨⟨a0.far (by simp) _, by simpa using a2.set_ 0 lv', a3.far (by simp) _, ?_, an.far (by simp; omega) _, hne⟩, a2, hB.setCell (by simp) _⟩
  rw [prs_append, List.length_append]
  refine own_only ho (Only.setCell (S := fun b => b = B + 2) (p := ⟨B + 2, 0, none⟩) (Only.refl _ _) (.inl rfl) _) (fun k _ _ hk e => ?_)
  subst e
  exact own_blk_ne ho a2 (by decide) hk
theorem TlSt.cut {B nb n l g m cap : Nat} {p : List (Int × Int)} {x : Int × Int} {w : World} (h : TlSt B nb n l (.slice (some ⟨g, 0, none⟩) (m + 1) cap) (p ++ [x]) w) (hm : p.length = m) :
    TlSt B nb n l (.slice (some ⟨g, 0, none⟩) m cap) p (w.setCell ⟨B + 2, 0, none⟩ (.slice (some ⟨g, 0, none⟩) m cap)) := by
  subst hm
  have hne := h.ne
  have ho := h.own
  have hk : w.ownsRow (B + 1) 66 2 (.slice (some ⟨g, 0, none⟩) p.length cap) p.length (prs p) := by
    rw [prs_append, List.length_append] at ho
    refine ⟨prs_len p, ?_⟩
    rcases ho.2 with ⟨h1, _⟩ | ⟨g', cap', cur, hv, hb, hg, hn, hc, hs, ht⟩
    · cases h1
    · injection hv with e1 e2 e3
      injection e1 with e1
      injection e1 with e1
      subst e1 e3
      refine .inr ⟨g, cap, cur, rfl, hb, hg, by simp at hn; omega, hc, hs, ?_⟩
      have h2 : cur.toList.take (p.length * 2) = (cur.toList.take ((p.length + [x].length) * 2)).take (p.length * 2) := by
        rw [List.take_take]; congr 1; simp <;> omega
      rw [h2, ht, ← prs_len p, List.take_left]
  refine ⟨h.b0.far (by simp) _, by simpa using h.b2.set_ 0 (.slice (some ⟨g, 0, none⟩) p.length cap), h.b3.far (by simp) _, ?_, h.bn.far (by simp; omega) _, hne⟩
  refine own_only hk (Only.setCell (S := fun b => b = B + 2) (p := ⟨B + 2, 0, none⟩) (Only.refl _ _) (.inl rfl) _) (fun k _ _ hk' e => ?_)
  subst e
  exact own_blk_ne hk h.b2 (by decide) hk'

/-- what All says of a scheme that it hands over -/
def AllX (n : Nat) (B k : Nat) (args : Array Value) (W : World) : Prop := ∃ A c D d, args = #[.agg #[.slice A n c, .slice D (plainS n).length d]] ∧ W.ownsRow (B + 4) 66 2 (.slice A n c) n (prs (unL n k n)) ∧ W.ownsRow (B + 4) 3 1 (.slice D (plainS n).length d) (plainS n).length ((plainS n).map (Value.int .i64))
/-- the blocks of a scheme -/
def AllT (args : Array Value) (b : Nat) : Prop := ∃ v1 v2, args = #[.agg #[v1, v2]] ∧ (v1.ownBlock = some b ∨ v2.ownBlock = some b)

/-- how tell ends -/
def TellQ (B nb n l : Nat) (J Jx : Nat → World → Prop) (p : List (Int × Int)) (r' : Nat) (b : Bool) (W : World) : Prop := (∃ lv, TlSt B nb n l lv p W) ∧ if b then J r' W else ∃ k, 0 < k ∧ k ≤ tN n 0 ∧ Jx k W
def TellR (B nb n l : Nat) (J Jx : Nat → World → Prop) (p : List (Int × Int)) (r' : Nat) (e : Ending) (W : World) : Prop := ∃ b : Bool, e = .returned (.bool b) ∧ TellQ B nb n l J Jx p r' b W

theorem leaf_round {B nb n l : Nat} {J Jx : Nat → World → Prop} {r : Nat} {p : List (Int × Int)} {lv : Value} {A' D : Option Addr} {C' d : Nat} {W w1 w2 : World}
    (hY : ∀ k args W1, k < tN n 0 → J k W1 → B ≤ W1.heap.size → AllX n B k args W1 → YieldAt Fence.wide 0 Try.prog l args W1 fun e W' => (e = .returned (.bool true) ∧ J (k + 1) W' ∧ Only (fun b => (b < B ∧ ¬ b = nb) ∨ AllT args b) W1 W') ∨ (e = .returned (.bool false) ∧ Jx (k + 1) W' ∧ Only (fun b => (b < B ∧ ¬ b = nb) ∨ AllT args b) W1 W'))
    (hJ : Abide B J) (hS : TlSt B nb n l lv p W) (h0 : J r W) (hp : p = unL n r n) (hr : r < tN n 0)
    (o1 : w1.ownsRow W.heap.size 66 2 (.slice A' n C') n (prs p)) (hb1 : Below W.drew.heap.size W.drew w1)
    (o2 : w2.ownsRow w1.heap.size 3 1 (.slice D (plainS n).length d) (plainS n).length ((plainS n).map (Value.int .i64))) (hb2 : Below w1.heap.size w1 w2) :
    YieldAt Fence.wide 0 Try.prog l #[.agg #[.slice A' n C', .slice D (plainS n).length d]] w2 (TellR B nb n l J Jx p (r + 1)) := by
  have hb1' : Below W.heap.size W w1 := ⟨hb1.os, hb1.tape, hb1.output, hb1.size, hb1.block⟩
  have hsz := hb1'.size
  have hsz2 := hb2.size
  have h3 := hS.b3.lt
  have hbW : Below W.heap.size W w2 := hb1'.trans (hb2.mono hsz)
  have o1' := own_stay o1 (Only.of_below hb2 (fun _ => False))
  have hy := hY r #[.agg #[.slice A' n C', .slice D (plainS n).length d]] w2 hr (hJ _ _ _ h0 (hbW.mono (by omega))) (by omega)
    ⟨A', C', D, d, rfl, by rw [← hp]; exact own_more o1' (by omega), own_more o2 (by omega)⟩
  have hT : ∀ b, AllT #[.agg #[.slice A' n C', .slice D (plainS n).length d]] b → W.heap.size ≤ b := by
    rintro b ⟨v1, v2, hargs, hb⟩
    have h1 : (Value.slice A' n C') = v1 ∧ (Value.slice D (plainS n).length d) = v2 := by
      have := congrArg (fun a : Array Value => a[0]?) hargs
      simp at this
      exact this
    obtain ⟨rfl, rfl⟩ := h1
    rcases hb with hb | hb
    · exact (o1'.lt b hb).1
    · exact Nat.le_trans hsz (o2.lt b hb).1
  refine hy.mono fun e W' h => ?_
  rcases h with ⟨he, hj, ho⟩ | ⟨he, hx, ho⟩
  · refine ⟨true, he, ⟨lv, hS.round hbW ho hT⟩, ?_⟩
    rw [if_pos rfl]
    exact hj
  · refine ⟨false, he, ⟨lv, hS.round hbW ho hT⟩, ?_⟩
    rw [if_neg (by decide)]
    exact ⟨r + 1, by omega, by omega, hx⟩

set_option maxHeartbeats 4000000 in
set_option maxRecDepth 100000 in
theorem tell_leaf {B nb n l : Nat} {J Jx : Nat → World → Prop} (hn : n ≤ 25) (hJ : Abide B J)
    (hY : ∀ k args W1, k < tN n 0 → J k W1 → B ≤ W1.heap.size → AllX n B k args W1 → YieldAt Fence.wide 0 Try.prog l args W1 fun e W' => (e = .returned (.bool true) ∧ J (k + 1) W' ∧ Only (fun b => (b < B ∧ ¬ b = nb) ∨ AllT args b) W1 W') ∨ (e = .returned (.bool false) ∧ Jx (k + 1) W' ∧ Only (fun b => (b < B ∧ ¬ b = nb) ∨ AllT args b) W1 W'))
    (c r : Nat) (p : List (Int × Int)) (hp : Pre n n c p r) (lv : Value) (W : World) (hS : TlSt B nb n l lv p W) (h0 : J r W) :
    Calls Try.prog 56 #[.int .i64 c, .pointer (some ⟨B + 2, 0, none⟩), .pointer (some ⟨nb, 0, none⟩), .pointer (some ⟨B, 0, none⟩), .pointer (some ⟨B + 3, 0, none⟩)] W (TellR B nb n l J Jx p (r + 1)) := by
  obtain ⟨hf1, hf2, _⟩ := hp.full
  have hl := hp.1
  have hs := hS.own
  rw [hl] at hs
  obtain ⟨A, C, rfl⟩ := own_slice hs
  have c0 : W.cell? ⟨B, 0, none⟩ = some (.func (.yield l) #[] #[]) := hS.b0.cell 0
  have c2 : W.cell? ⟨B + 2, 0, none⟩ = some (.slice A n C) := hS.b2.cell 0
  have cn : W.cell? ⟨nb, 0, none⟩ = some (.int .i64 n) := hS.bn.cell 0
  have HS := Lib.hid (And.intro hS (And.intro hs h0))
  have HF := Lib.hid (And.intro hf1 hf2)
  have HY := Lib.hid hY
  have HJ := Lib.hid hJ
  have HP := Lib.hid hl
  have h3 := hS.b3.lt
  clear hS hs h0 hf1 hf2 hY hJ hl hp
  go_enter Try.func56, Try.ntmps56
  go_upto_region 2 with (fail)
  refine (wpIn_wide (n := 0)).1 ?_
  have wf : ∀ k, Fence.wide.fn k := fun _ => trivial
  have wd : Fence.wide.depth = none := rfl
  gi_region_with (first
    | (gi_at_call 58
       refine (callsIn_wide.2 (cloneP_any A n C (B + 1) _ p _ (own_rd (HS.out.2.1.drew)) (by omega))).mono ?_
       rintro e w1 ⟨A', C', rfl, o1, hb1⟩
       have HC := Lib.hid (And.intro o1 hb1)
       have HC2 := Lib.hid (HS.out.1.on ⟨hb1.os, hb1.tape, hb1.output, hb1.size, hb1.block⟩)
       have c0a : w1.cell? ⟨B, 0, none⟩ = some (.func (.yield l) #[] #[]) := HC2.out.b0.cell 0
       clear o1 hb1)
    | (gi_at_call 57
       refine (callsIn_wide.2 (plain_any A' n C' w1 (by omega))).mono ?_
       rintro e w2 ⟨D, d, rfl, o2, hb2⟩
       obtain ⟨fn, tmps, assign, body, hy, hR⟩ := leaf_round HY.out HJ.out HS.out.1 HS.out.2.2 HF.out.1 HF.out.2 HC.out.1 HC.out.2 o2 hb2
       have HR := Lib.hid hR
       have c0b : w2.cell? ⟨B, 0, none⟩ = some (.func (.yield l) #[] #[]) := (HC2.out.on hb2).b0.cell 0
       clear o2 hb2 hR)
    | (refine HR.out.mono ?_
       rintro e w3 ⟨b, rfl, hq⟩
       have HQ := Lib.hid hq
       clear hq)
    | fail)
  all_goals
    go_simp
    go_wp2
    go_ret
    exact ⟨b, rfl, HQ.out⟩

theorem own_some {w : World} {base : Nat} {e : TypeId} {size n : Nat} {v : Value} {xs : List Value} (h : w.ownsRow base e size v (n + 1) xs) : ∃ g cap, v = .slice (some ⟨g, 0, none⟩) (n + 1) cap ∧ n + 1 ≤ cap := by
  rcases h.2 with ⟨_, h0⟩ | ⟨g, cap, cur, hv, _, _, hn, _⟩
  · omega
  · exact ⟨g, cap, hv, hn⟩

/-- the rank ahead of child x -/
def rkX (n m c r x : Nat) : Nat := if x ≤ c then r + x * tN (n - 1 - m) c else r + tN (n - m) c

set_option maxHeartbeats 4000000 in
set_option maxRecDepth 100000 in
theorem tell_any {B nb n l : Nat} {J Jx : Nat → World → Prop} (hn : n ≤ 25) (hJ : Abide B J) (hJx : Abide B Jx)
    (hY : ∀ k args W1, k < tN n 0 → J k W1 → B ≤ W1.heap.size → AllX n B k args W1 → YieldAt Fence.wide 0 Try.prog l args W1 fun e W' => (e = .returned (.bool true) ∧ J (k + 1) W' ∧ Only (fun b => (b < B ∧ ¬ b = nb) ∨ AllT args b) W1 W') ∨ (e = .returned (.bool false) ∧ Jx (k + 1) W' ∧ Only (fun b => (b < B ∧ ¬ b = nb) ∨ AllT args b) W1 W')) :
    ∀ (f m c : Nat) (p : List (Int × Int)) (r : Nat) (lv : Value) (W : World), n - m = f → Pre n m c p r → TlSt B nb n l lv p W → J r W →
    Calls Try.prog 56 #[.int .i64 c, .pointer (some ⟨B + 2, 0, none⟩), .pointer (some ⟨nb, 0, none⟩), .pointer (some ⟨B, 0, none⟩), .pointer (some ⟨B + 3, 0, none⟩)] W (TellR B nb n l J Jx p (r + tN (n - m) c)) := by
  obtain ⟨i0, hi, hz0, hz1, hz2⟩ := info_parts info66
  have HI := Lib.hid (And.intro hi (And.intro hz0 (And.intro hz1 hz2)))
  have HJ := Lib.hid (And.intro hJ hJx)
  clear hi hz0 hz1 hz2
  intro f
  induction f with
  | zero =>
    intro m c p r lv W hf hp hS h0
    obtain rfl : m = n := by have := hp.2.1; omega
    rw [hp.full.2.2]
    exact tell_leaf hn hJ hY c r p hp lv W hS h0
  | succ f ih =>
    intro m c p r lv W hf hp hS h0
    have hm : m < n := by omega
    have hl := hp.1
    have IH := Lib.hid ih
    have hs := hS.own
    rw [hl] at hs
    obtain ⟨A, C, rfl⟩ := own_slice hs
    have c2 : W.cell? ⟨B + 2, 0, none⟩ = some (.slice A m C) := hS.b2.cell 0
    have cn : W.cell? ⟨nb, 0, none⟩ = some (.int .i64 n) := hS.bn.cell 0
    have hb : ((m : Int) == (n : Int)) = false := by simp; omega
    have hcm := hp.2.2.1
    have HS := Lib.hid (And.intro (show J (rkX n m c r 0) W by unfold rkX; rw [if_pos (Nat.zero_le _), Nat.zero_mul, Nat.add_zero]; exact h0) (Exists.intro _ hS : ∃ lv, TlSt B nb n l lv p W))
    have HP := Lib.hid hp
    have HL := Lib.hid hl
    have HF := Lib.hid hf
    clear hS hs h0 hp hl ih hJ hJx hY hf
    go_enter Try.func56, Try.ntmps56
    go_wp2
    clear c2 cn hb
    go_loopw [7] (fun xv wr => ∃ x : Nat, x ≤ c + 1 ∧ xv = .int .i64 x ∧ Hid (J (rkX n m c r x) wr ∧ ∃ lv, TlSt B nb n l lv p wr)) (fun xv _ => c + 1 - (intOf xv).toNat)
    case atStart => exact ⟨0, by omega, rfl, HS⟩
    case round =>
      obtain ⟨x, hx, rfl, HR⟩ := hrel
      clear HS
      by_cases hxc : x ≤ c
      · obtain ⟨lx, hS⟩ := HR.out.2
        have hj := HR.out.1
        have hrx : rkX n m c r x = r + x * tN (n - 1 - m) c := if_pos hxc
        rw [hrx] at hj
        have hs := hS.own
        obtain ⟨X, CX, rfl⟩ := own_slice hs
        have c2 : wr.cell? ⟨B + 2, 0, none⟩ = some (.slice X p.length CX) := hS.b2.cell 0
        have hch := HP.out.child hm hxc
        have hpl : p.length ≤ 25 := by have := HL.out; omega
        have h3 := hS.b3.lt
        have hdl : decide ((x : Int) ≤ (c : Int)) = true := by simp; omega
        have HX := Lib.hid (And.intro hS hj)
        have HC := Lib.hid hch
        clear hS hj hs hch hrx HR
        go_upto_region 7 with (at_builtin; go_must (refine wpList_append_rd _ rfl _ _ 23 rfl (B + 1) 66 i0 (.agg #[.int .i64 0, .int .i64 0]) 2 16 Try.underlying23 HI.out.1 HI.out.2.1 HI.out.2.2.1 HI.out.2.2.2 rfl (by decide) _ _ _ rfl (HX.out.1.own.alloc _) _ _ _ 1 1 _ rfl (rd_newP _ _ _ _) (by simp [Value.oneCell']) (by unfold maxLen; omega) (by omega) (by simp; omega) ?_; intro v4 w4 _ hown hgrow _; have HN := Lib.hid (And.intro ((HX.out.1.on ((Below.refl _ _).alloc (Nat.le_refl _) _)).app ((x : Int), 0) hown hgrow) hown); have d0 : w4.cell? ⟨B + 2, 0, none⟩ = some (.slice X p.length CX) := HN.out.1.2.1.cell 0; have d1 : w4.frozen? ⟨B + 2, 0, none⟩ = false := HN.out.1.2.1.frozen 0; obtain ⟨X4, C4, rfl⟩ := own_slice hown; clear hown hgrow))
        refine wp_abs (fun wx => TlSt B nb n l (.slice X4 (p.length + 1) C4) (p ++ [((x : Int), 0)]) wx ∧ J (r + x * tN (n - 1 - m) c) wx) ⟨HN.out.1.1, HJ.out.1 _ _ _ HX.out.2 (((Below.refl _ _).alloc (by omega) _).trans HN.out.1.2.2)⟩ ?_
        rintro w5 ⟨hS5, hJ5⟩
        have c3 : w5.cell? ⟨B + 3, 0, none⟩ = some (.func (.func 56) #[] #[.pointer (some ⟨B + 2, 0, none⟩), .pointer (some ⟨nb, 0, none⟩), .pointer (some ⟨B, 0, none⟩), .pointer (some ⟨B + 3, 0, none⟩)]) := hS5.b3.cell 0
        have HT := Lib.hid (And.intro hS5 hJ5)
        clear hS5 hJ5 HN HX d0 d1 c2
        have hmax : max (c : Int) ((x : Int) + 1) = ((max c (x + 1) : Nat) : Int) := by omega
        generalize hcc : max c (x + 1) = c' at *
        clear hcc
        go_wp2_with fail
        refine (IH.out (m + 1) c' (p ++ [((x : Int), 0)]) (r + x * tN (n - 1 - m) c) _ w5 (by have := HF.out; omega) HC.out.1 HT.out.1 HT.out.2).mono ?_
        rintro e w6 ⟨b, rfl, ⟨l6, hS6⟩, hq⟩
        rw [HC.out.2] at hq
        have hs6 := hS6.own
        have e1 : (p ++ [((x : Int), (0 : Int))]).length = p.length + 1 := by simp
        rw [e1] at hs6
        clear e1
        obtain ⟨g, cap, rfl, hcap⟩ := own_some hs6
        have c2 : w6.cell? ⟨B + 2, 0, none⟩ = some (.slice (some ⟨g, 0, none⟩) (p.length + 1) cap) := hS6.b2.cell 0
        have f2 : w6.frozen? ⟨B + 2, 0, none⟩ = false := hS6.b2.frozen 0
        have HS6 := Lib.hid (And.intro hS6 hq)
        have h36 := hS6.b3.lt
        clear hS6 hq hs6 HT c3 hmax
        cases b with
        | true =>
          have hnx : rkX n m c r (x + 1) = if x = c then r + tN (n - m) c else r + (x + 1) * tN (n - 1 - m) c := by
            unfold rkX
            by_cases e : x = c
            · rw [if_pos e, if_neg (by omega)]
            · rw [if_neg e, if_pos (by omega)]
          have HNX := Lib.hid hnx
          clear hnx
          go_wp2
          go_roundw
          case rel => exact ⟨x + 1, by omega, by go_num, Lib.hid ⟨by rw [HNX.out]; exact HJ.out.1 _ _ _ HS6.out.2 ((Below.refl _ _).setCell (by simp) _), _, HS6.out.1.cut rfl⟩⟩
          case measure => simp [intOf]; omega
        | false =>
          go_wp2
          go_ret
          refine ⟨false, rfl, ⟨_, HS6.out.1.cut rfl⟩, ?_⟩
          obtain ⟨k, k1, k2, k3⟩ := HS6.out.2
          rw [if_neg (by decide)]
          exact ⟨k, k1, k2, HJ.out.2 _ _ _ k3 ((Below.refl _ _).setCell (by simp) _)⟩
      · obtain rfl : x = c + 1 := by omega
        have hdl : decide (((c + 1 : Nat) : Int) ≤ (c : Int)) = false := by simp; omega
        have hr : rkX n m c r (c + 1) = r + tN (n - m) c := if_neg (by omega)
        have HRX := Lib.hid hr
        clear hr
        go_wp2
        go_ret
        refine ⟨true, rfl, HR.out.2, ?_⟩
        rw [if_pos rfl, ← HRX.out]
        exact HR.out.1
end Go.Proofs.Ytbjfbmienlojkaa
