/- slices.Grow and slices.Concat at phones. -/
import Derived.Test.YtogofchpocoebaaS3
import Derived.Lib.Walk
import Derived.Lib.SliceRun
import Derived.Lib.AppendZerosOnto
namespace Go.Proofs.Ytogofchpocoebaa
open Go.RowKit Go.Maps

theorem zeros_size (z : Value) (k n : Nat) (h : z.cells.size = n) : (Builtin.zeroCells z.cells k).size = k * n := by
  unfold Builtin.zeroCells
  rw [← h]
  simp

set_option maxHeartbeats 2000000 in
set_option maxRecDepth 100000 in
theorem grow_any (n : Nat) (w : World) (hb : n ≤ 100000) : Calls Try.prog 131 #[.slice none 0 0, .int .i64 n] w fun e w' => ∃ v, e = .returned v ∧ w'.ownsRow w.heap.size 43 3 v 0 [] ∧ Below w.heap.size w w' := by
  obtain ⟨i0, hi, hz0, hz1, hz2⟩ := info_parts info43'
  by_cases hn : n = 0
  · subst hn
    go_enter Try.func131, Try.ntmps131
    go_wp2
    go_ret
    exact ⟨_, rfl, World.ownsRow_nil _ _ _ _, Below.refl _ _⟩
  · have hold : (Builtin.firstCells i0.size 0 (.slice none 0 0)).run Try.prog w.drew = .ok ([] : List Value).toArray w.drew := run_firstCells_none w.drew i0.size 0 0 0
    have hrz : ∀ ty, (Builtin.append_ #[22, 3] ty #[.slice none 0 0, .int .i64 (n : Int)]).run Try.prog w = .ok (.slice (some ⟨w.heap.size, 0, none⟩) n (grownCap w n 0 43)) (w.drew.alloc (.cells (Builtin.zeroCells (Value.agg #[.int .i32 0, .bool false, .int .i32 0]).cells n ++ Builtin.zeroCells (Value.agg #[.int .i32 0, .bool false, .int .i32 0]).cells (grownCap w n 0 43 - n)) 43)) := fun ty => by
      have h := Lib.run_append_grow_zeros w 22 3 ty 43 i0 _ .i64 .i64 Try.underlying22 Try.underlying3 hi hz0 none 0 0 [] hold n (by omega) (by omega) (by omega) (by omega) (by rw [hz2]; omega) (growslice_fits (by omega) (by rw [hz2]; omega))
      simpa using h
    have hG := grownCap_ge w n 0 43
    have hG2 := grownCap_le_maxLen w n 0 43 (by unfold maxLen; omega)
    generalize grownCap w n 0 43 = G at *
    have hs : (Builtin.zeroCells (Value.agg #[.int .i32 0, .bool false, .int .i32 0]).cells n ++ Builtin.zeroCells (Value.agg #[.int .i32 0, .bool false, .int .i32 0]).cells (G - n)).size = G * 3 := by
      rw [Array.size_append, zeros_size _ _ 3 rfl, zeros_size _ _ 3 rfl, ← Nat.add_mul]
      congr 1
      omega
    generalize Builtin.zeroCells (Value.agg #[.int .i32 0, .bool false, .int .i32 0]).cells n ++ Builtin.zeroCells (Value.agg #[.int .i32 0, .bool false, .int .i32 0]).cells (G - n) = Z at *
    have HS := Lib.hid (And.intro hs hG2)
    unfold maxLen at hG2
    have h1 : decide ((n : Int) < 0) = false := by simp
    have h2 : decide ((0 : Int) < (n : Int)) = true := by simp; omega
    clear hs hi hz0 hz1 hz2 hold
    go_enter Try.func131, Try.ntmps131
    go_wp2_with (at_builtin; refine Lib.wpList_append_run _ rfl _ _ _ _ rfl _ _ rfl rfl _ _ (hrz _) ?_)
    go_ret
    exact ⟨_, rfl, World.ownsRow_made w.drew Z G (Nat.le_refl _) HS.out.2 HS.out.1, ((Below.refl w.heap.size w).drew).alloc (Nat.le_refl _) _⟩

/-- memory while Concat runs: the two lists, what has been laid -/
structure CcSt (w0 : World) (g : Nat) (A B : Option Addr) (la ca lb cb : Nat) (a b : List Ph) (v : Value) (out : List Ph) (W : World) : Prop where
  bg : Blk W g 22 #[.slice A la ca, .slice B lb cb]
  ra : Rd W 0 w0.heap.size 3 A la (phs a)
  rb : Rd W 0 w0.heap.size 3 B lb (phs b)
  own : W.ownsRow w0.heap.size 43 3 v out.length (phs out)
  below : Below w0.heap.size w0 W
  lt : g < w0.heap.size
theorem CcSt.app {w0 : World} {g : Nat} {A B : Option Addr} {la ca lb cb n : Nat} {a b out xs : List Ph} {v v' : Value} {W W' : World} (h : CcSt w0 g A B la ca lb cb a b v out W) (hx : xs.length = n) (ho : W'.ownsRow w0.heap.size 43 3 v' (out.length + n) (phs out ++ phs xs)) (hg : W.grownBy W' v.ownBlock) : CcSt w0 g A B la ca lb cb a b v' (out ++ xs) W' := by
  subst hx
  have hb : Below w0.heap.size W W' := (Below.refl _ W).grown hg h.below.size (fun k hk => (h.own.lt k hk).1)
  refine ⟨h.bg.below hb h.lt, h.ra.below hb (Nat.le_refl _), h.rb.below hb (Nat.le_refl _), ?_, h.below.trans hb, h.lt⟩
  rw [phs_append, List.length_append]
  exact ho

set_option maxHeartbeats 4000000 in
set_option maxRecDepth 100000 in
theorem concat_any (g : Nat) (A B : Option Addr) (la ca lb cb : Nat) (a b : List Ph) (w : World) (hg : Blk w g 22 #[.slice A la ca, .slice B lb cb]) (ra : Rd w 0 w.heap.size 3 A la (phs a)) (rb : Rd w 0 w.heap.size 3 B lb (phs b)) (hl : la + lb ≤ 100000) :
    Calls Try.prog 62 #[.slice (some ⟨g, 0, none⟩) 2 2] w fun e w' => ∃ X C, e = .returned (.slice X (la + lb) C) ∧ Rd w' w.heap.size w'.heap.size 3 X (la + lb) (phs (a ++ b)) ∧ Below w.heap.size w w' := by
  obtain ⟨i0, hi, hz0, hz1, hz2⟩ := info_parts info43'
  have HI := Lib.hid (And.intro hi (And.intro hz0 (And.intro hz1 hz2)))
  clear hi hz0 hz1 hz2
  have HA := Lib.hid (And.intro ra.len_ph rb.len_ph)
  have H := Lib.hid (And.intro hg (And.intro ra rb))
  have hc : ∀ W, Below w.heap.size w W → W.cell? ⟨g, 0, none⟩ = some (.slice A la ca) ∧ W.cell? ⟨g, 1, none⟩ = some (.slice B lb cb) := fun W hb => ⟨(hg.below hb hg.lt).cell 0, (hg.below hb hg.lt).cell 1⟩
  have HC := Lib.hid hc
  clear hg ra rb hc
  go_enter Try.func62, Try.ntmps62
  go_wp2
  go_loopw [3, 5, 11] (fun v3 _ v11 wr => ∃ k : Nat, k ≤ 2 ∧ v11 = .int .i64 k ∧ v3 = .int .i64 ((if k = 0 then 0 else if k = 1 then la else la + lb : Nat) : Int) ∧ Hid (Below w.heap.size w wr)) (fun _ _ v _ => 2 - (intOf v).toNat)
  case atStart => exact ⟨0, by omega, rfl, rfl, Lib.hid (Below.refl _ _)⟩
  case round =>
    obtain ⟨k, hk, rfl, rfl, HR⟩ := hrel
    obtain ⟨c0, c1⟩ := HC.out _ HR.out
    have hk3 : k = 0 ∨ k = 1 ∨ k = 2 := by omega
    rcases hk3 with rfl | rfl | rfl
    · have h1 : decide ((la : Int) < 0) = false := by simp
      go_wp2
      go_roundw
      case rel => exact ⟨1, by omega, by go_num, by go_num, HR⟩
      case measure => simp [intOf]
    · have h1 : decide ((la : Int) + (lb : Int) < 0) = false := by simp; omega
      go_wp2
      go_roundw
      case rel => exact ⟨2, by omega, by go_num, by go_num, HR⟩
      case measure => simp [intOf]
    · clear c0 c1
      go_wp2_with fail
      refine (grow_any (la + lb) wr hl).mono ?_
      rintro e w1 ⟨v, rfl, ho, hb⟩
      have hb0 := HR.out.trans (hb.mono HR.out.size)
      have hS : CcSt w g A B la ca lb cb a b v [] w1 := ⟨H.out.1.below hb0 H.out.1.lt, H.out.2.1.below hb0 (Nat.le_refl _), H.out.2.2.below hb0 (Nat.le_refl _), own_more ho HR.out.size, hb0, H.out.1.lt⟩
      have HS := Lib.hid hS
      clear hS ho hb hb0 HR
      go_wp2
      go_loopw [6, 8, 27] (fun v6 _ v27 wy => ∃ k : Nat, k ≤ 2 ∧ v27 = .int .i64 k ∧ Hid (CcSt w g A B la ca lb cb a b v6 (if k = 0 then [] else if k = 1 then a else a ++ b) wy)) (fun _ _ v _ => 2 - (intOf v).toNat)
      case atStart => exact ⟨0, by omega, rfl, HS⟩
      case round =>
        clear HS
        obtain ⟨k, hk, rfl, HR⟩ := hrel
        have hk3 : k = 0 ∨ k = 1 ∨ k = 2 := by omega
        rcases hk3 with rfl | rfl | rfl
        · have c0 : wr.cell? ⟨g, 0, none⟩ = some (.slice A la ca) := HR.out.bg.cell 0
          obtain ⟨X, C, rfl⟩ := own_slice HR.out.own
          go_wp2_with (at_builtin; go_must (refine wpList_append_rd _ rfl _ _ 22 rfl w.heap.size 43 i0 (.agg #[.int .i32 0, .bool false, .int .i32 0]) 3 12 Try.underlying22 HI.out.1 HI.out.2.1 HI.out.2.2.1 HI.out.2.2.2 rfl (by decide) _ _ _ rfl HR.out.own _ _ _ _ _ _ rfl HR.out.ra (phs_one a) (by simp; unfold maxLen; omega) (by simp; omega) HR.out.below.size ?_; intro v4 w4 _ hown hgrow _; have HE := Lib.hid (HR.out.app HA.out.1 hown hgrow); clear hown hgrow))
          go_roundw
          case rel => exact ⟨1, by omega, by go_num, HE⟩
          case measure => simp [intOf]
        · have c1 : wr.cell? ⟨g, 1, none⟩ = some (.slice B lb cb) := HR.out.bg.cell 1
          have hal := HA.out.1
          obtain ⟨X, C, rfl⟩ := own_slice HR.out.own
          go_wp2_with (at_builtin; go_must (refine wpList_append_rd _ rfl _ _ 22 rfl w.heap.size 43 i0 (.agg #[.int .i32 0, .bool false, .int .i32 0]) 3 12 Try.underlying22 HI.out.1 HI.out.2.1 HI.out.2.2.1 HI.out.2.2.2 rfl (by decide) _ _ _ rfl HR.out.own _ _ _ _ _ _ rfl HR.out.rb (phs_one b) (by simp; unfold maxLen; omega) (by simp; omega) HR.out.below.size ?_; intro v4 w4 _ hown hgrow _; have HE := Lib.hid (HR.out.app HA.out.2 hown hgrow); clear hown hgrow))
          go_roundw
          case rel => exact ⟨2, by omega, by go_num, HE⟩
          case measure => simp [intOf]
        · have hown := HR.out.own
          rw [if_neg (by decide), if_neg (by decide)] at hown
          have hlen : (a ++ b).length = la + lb := by rw [List.length_append, HA.out.1, HA.out.2]
          rw [hlen] at hown
          obtain ⟨X, C, rfl⟩ := own_slice hown
          have HO := Lib.hid (own_rd hown)
          clear hown hlen
          go_wp2
          go_ret
          exact ⟨X, C, rfl, HO.out, HR.out.below⟩
end Go.Proofs.Ytogofchpocoebaa
