/- phone's rest: the costs of least alignments: at, take, least. -/
import Derived.Test.YtogofchpocoebaaQ5
import Derived.BigQuiet
namespace Go.Proofs.Ytogofchpocoebaa
open Go.RowKit Go.Maps

def takeF (v n : Int) : Int := if v < 0 ∨ n < v then n else v
set_option maxHeartbeats 1000000 in
theorem take_any (bb : Nat) (v n : Int) (w : World) (h : Blk w bb 3 #[.int .i64 v]) : Calls Try.prog 169 #[.int .i64 n, .pointer (some ⟨bb, 0, none⟩)] w fun e w' => e = .returned (.tuple #[]) ∧ Blk w' bb 3 #[.int .i64 (takeF v n)] ∧ Only (fun b => b = bb) w w' := by
  have c0 : w.cell? ⟨bb, 0, none⟩ = some (.int .i64 v) := h.cell 0
  have f0 : w.frozen? ⟨bb, 0, none⟩ = false := h.frozen 0
  have H := Lib.hid h
  clear h
  by_cases h1 : v < 0
  · have e1 : decide (v < 0) = true := by simpa using h1
    have ht : takeF v n = n := if_pos (.inl h1)
    have HT := Lib.hid ht
    clear ht
    go_enter Try.func169, Try.ntmps169
    go_wp2
    go_end0
    exact ⟨rfl, by rw [HT.out]; simpa using H.out.set_ 0 (.int .i64 n), Only.setCell (S := fun b => b = bb) (p := ⟨bb, 0, none⟩) (Only.refl _ _) (.inl rfl) _⟩
  · have e1 : decide (v < 0) = false := by simpa using h1
    by_cases h2 : n < v
    · have e2 : decide (n < v) = true := by simpa using h2
      have ht : takeF v n = n := if_pos (.inr h2)
      have HT := Lib.hid ht
      clear ht
      go_enter Try.func169, Try.ntmps169
      go_wp2
      go_end0
      exact ⟨rfl, by rw [HT.out]; simpa using H.out.set_ 0 (.int .i64 n), Only.setCell (S := fun b => b = bb) (p := ⟨bb, 0, none⟩) (Only.refl _ _) (.inl rfl) _⟩
    · have e2 : decide (n < v) = false := by simpa using h2
      have ht : takeF v n = v := if_neg (by omega)
      have HT := Lib.hid ht
      clear ht
      go_enter Try.func169, Try.ntmps169
      go_wp2
      go_end0
      exact ⟨rfl, by rw [HT.out]; exact H.out, Only.refl _ _⟩

/-- what is reckoned -/
structure ReIn (tb xb g : Nat) (A B : Option Addr) (la ca lb cb : Nat) (cs : Array Value) (W : World) : Prop where
  bx : Blk W xb 201 #[.map (some tb), .slice A la ca, .slice B lb cb, .slice (some ⟨g, 0, none⟩) ((la + 1) * (lb + 1)) ((la + 1) * (lb + 1))]
  bg : Blk W g 3 cs
  sz : cs.size = (la + 1) * (lb + 1)
  tab : TabIs W tb
theorem ReIn.on {tb xb g la ca lb cb : Nat} {A B : Option Addr} {cs : Array Value} {W W' : World} (h : ReIn tb xb g A B la ca lb cb cs W) (hb : Below W.heap.size W W') : ReIn tb xb g A B la ca lb cb cs W' :=
  ⟨h.bx.below hb h.bx.lt, h.bg.below hb h.bg.lt, h.sz, h.tab.on hb⟩

set_option maxHeartbeats 1000000 in
set_option maxRecDepth 100000 in
theorem at_any (tb xb g : Nat) (A B : Option Addr) (la ca lb cb : Nat) (cs : Array Value) (i k : Nat) (w : World) (h : ReIn tb xb g A B la ca lb cb cs w) (h1 : la ≤ 128) (h2 : lb ≤ 128) (hi : i ≤ la) (hk : k ≤ lb) :
    Calls Try.prog 130 #[.pointer (some ⟨xb, 0, none⟩), .int .i64 i, .int .i64 k] w fun e w' => e = .returned (.pointer (some ⟨g, i * (lb + 1) + k, none⟩)) ∧ Below w.heap.size w w' := by
  have c2 : w.cell? ⟨xb, 2, none⟩ = some (.slice B lb cb) := h.bx.cell 2
  have c3 : w.cell? ⟨xb, 3, none⟩ = some (.slice (some ⟨g, 0, none⟩) ((la + 1) * (lb + 1)) ((la + 1) * (lb + 1))) := h.bx.cell 3
  have hm : i * (lb + 1) + k < (la + 1) * (lb + 1) := by
    have := Nat.mul_le_mul_right (lb + 1) hi
    rw [Nat.add_mul]; omega
  have hN : (la + 1) * (lb + 1) ≤ 129 * 129 := Nat.mul_le_mul (by omega) (by omega)
  have e1 : (i : Int) * ((lb : Int) + 1) = ((i * (lb + 1) : Nat) : Int) := by simp [Int.natCast_mul]
  have H := Lib.hid h
  clear h
  generalize i * (lb + 1) = ik at *
  generalize (la + 1) * (lb + 1) = N at *
  have w1 : IntKind.i64.wrap (ik : Int) = ik := IntWalk.i64_in _ (by omega)
  go_enter Try.func130, Try.ntmps130
  go_upto_region 1 with (fail)
  go_quiet (fail)
  go_wp2
  go_ret
  exact ⟨rfl, Below.drewNB (Below.refl _ _) _⟩

/-- the cost from a pair of places on -/
def cs (a b : List Ph) (i k : Nat) : Int := costF (a.drop i) (b.drop k)
theorem cs_end {a b : List Ph} {i k : Nat} (hi : a.length ≤ i) (hk : b.length ≤ k) : cs a b i k = 0 := by
  unfold cs; rw [List.drop_of_length_le hi, List.drop_of_length_le hk]; rfl
theorem cs_a {a b : List Ph} {i k : Nat} (hi : i < a.length) (hk : b.length ≤ k) : cs a b i k = loneF a[i] + cs a b (i + 1) k := by
  unfold cs; rw [List.drop_of_length_le hk, List.drop_eq_getElem_cons hi, cost_cn]
theorem cs_b {a b : List Ph} {i k : Nat} (hi : a.length ≤ i) (hk : k < b.length) : cs a b i k = loneF b[k] + cs a b i (k + 1) := by
  unfold cs; rw [List.drop_of_length_le hi, List.drop_eq_getElem_cons hk, cost_nc]
theorem cs_ab {a b : List Ph} {i k : Nat} (hi : i < a.length) (hk : k < b.length) : cs a b i k = min (apartF a[i] b[k] + cs a b (i + 1) (k + 1)) (min (loneF a[i] + cs a b (i + 1) k) (loneF b[k] + cs a b i (k + 1))) := by
  unfold cs; rw [List.drop_eq_getElem_cons hi, List.drop_eq_getElem_cons hk, cost_cc]
theorem cs_bound (a b : List Ph) (i k : Nat) (ha : a.length ≤ 128) (hb : b.length ≤ 128) : 0 ≤ cs a b i k ∧ cs a b i k ≤ 5120 := by
  have h1 := cost_nn' (a.drop i) (b.drop k)
  have h2 := cost_hi (a.drop i) (b.drop k)
  rw [List.length_drop, List.length_drop] at h2
  unfold cs
  omega
theorem lone_hi (p : Ph) : loneF p ≤ 19 := by
  have b : ∀ (x : Bool) (n : Int), 0 ≤ n → bit x n ≤ n := fun x n h => by unfold bit; split <;> omega
  have b3 := b p.2.1 2 (by omega)
  have b4 := b (p.2.2 != 0) 3 (by omega)
  unfold loneF; split <;> omega

/-- memory while least runs: what is known ahead, its best -/
structure LeSt (w0 : World) (tb xb g : Nat) (A B : Option Addr) (la ca lb cb : Nat) (cells : Array Value) (a b : List Ph) (v : Int) (W : World) : Prop where
  re : ReIn tb xb g A B la ca lb cb cells W
  ra : Rd W 0 w0.heap.size 3 A la (phs a)
  rb : Rd W 0 w0.heap.size 3 B lb (phs b)
  bb : Blk W w0.heap.size 3 #[.int .i64 v]
  below : Below w0.heap.size w0 W
  lx : xb < w0.heap.size
  lg : g < w0.heap.size
  lt : tb < w0.heap.size
theorem LeSt.stay {w0 : World} {tb xb g la ca lb cb : Nat} {A B : Option Addr} {cells : Array Value} {a b : List Ph} {v v' : Int} {W W' : World} {S : Nat → Prop} (h : LeSt w0 tb xb g A B la ca lb cb cells a b v W) (ho : Only S W W') (hS : ∀ k, S k → w0.heap.size ≤ k) (hb : Blk W' w0.heap.size 3 #[.int .i64 v']) : LeSt w0 tb xb g A B la ca lb cb cells a b v' W' := by
  have hB : Below w0.heap.size W W' := ho.below h.below.size (fun k hk hs => by have := hS _ hs; omega)
  exact ⟨⟨h.re.bx.below hB h.lx, h.re.bg.below hB h.lg, h.re.sz, h.re.tab.below hB h.lt⟩, h.ra.below hB (Nat.le_refl _), h.rb.below hB (Nat.le_refl _), hb, h.below.trans hB, h.lx, h.lg, h.lt⟩
theorem LeSt.on {w0 : World} {tb xb g la ca lb cb : Nat} {A B : Option Addr} {cells : Array Value} {a b : List Ph} {v : Int} {W W' : World} (h : LeSt w0 tb xb g A B la ca lb cb cells a b v W) (hb : Below W.heap.size W W') : LeSt w0 tb xb g A B la ca lb cb cells a b v W' :=
  h.stay (S := fun k => W.heap.size ≤ k) ⟨hb.os, hb.tape, hb.output, hb.size, fun k hk hs => hb.block k (by omega)⟩ (fun k hk => Nat.le_trans h.below.size hk) (h.bb.below hb h.bb.lt)
end Go.Proofs.Ytogofchpocoebaa
