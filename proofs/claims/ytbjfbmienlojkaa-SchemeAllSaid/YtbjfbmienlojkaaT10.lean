/- scheme.counts and Count.
   scheme.Count.
   Count, Rank and Unrank: the plain law. -/
import Derived.Test.YtbjfbmienlojkaaMem
import Derived.Test.YtbjfbmienlojkaaChecked
import Derived.StillTailTactics
namespace Go.Proofs.Ytbjfbmienlojkaa
open Go.RowKit

/-- in how many ways k lines go on, if c classes stand ahead -/
def tN : Nat → Nat → Nat
  | 0, _ => 1
  | k + 1, c => c * tN k c + tN k (c + 1)
theorem tN_mono (k : Nat) : ∀ c, tN k c ≤ tN k (c + 1) := by
  induction k with
  | zero => intro c; exact Nat.le_refl _
  | succ k ih =>
    intro c
    simp only [tN]
    have h1 := ih c
    have h2 := ih (c + 1)
    have : c * tN k c ≤ (c + 1) * tN k (c + 1) := Nat.mul_le_mul (by omega) h1
    omega
theorem tN_up (k c : Nat) : tN k (c + 1) ≤ tN (k + 1) c := by simp only [tN]; omega
theorem tN_zero (k : Nat) : tN k 0 ≤ tN (k + 1) 0 := Nat.le_trans (tN_mono k 0) (tN_up k 0)
theorem tN_diag (c : Nat) : ∀ k, tN k c ≤ tN (k + c) 0 := by
  induction c with
  | zero => intro k; exact Nat.le_refl _
  | succ c ih =>
    intro k
    have h1 := tN_up k c
    have h2 := ih (k + 1)
    rw [show k + (c + 1) = k + 1 + c by omega]
    omega
theorem tN_top (n : Nat) : ∀ d, tN n 0 ≤ tN (n + d) 0 := by
  intro d
  induction d with
  | zero => exact Nat.le_refl _
  | succ d ih => exact Nat.le_trans ih (tN_zero _)
/-- the rows, one out of the other -/
def rowUp : Nat → List Nat → List Nat
  | c, a :: b :: l => (c * a + b) :: rowUp (c + 1) (b :: l)
  | _, _ => []
def rowN : Nat → List Nat → List Nat
  | 0, l => l
  | k + 1, l => rowN k (rowUp 0 l)
theorem rowUp_at (k : Nat) : ∀ (l : List Nat) (c : Nat), (∀ i, (h : i < l.length) → l[i] = tN k (c + i)) → ∀ i, (h : i < (rowUp c l).length) → (rowUp c l)[i] = tN (k + 1) (c + i) := by
  intro l
  induction l with
  | nil => intro c _ i h; simp [rowUp] at h
  | cons a l ih =>
    intro c hl i h
    cases l with
    | nil => simp [rowUp] at h
    | cons b l =>
      cases i with
      | zero =>
        have h0 := hl 0 (by simp)
        have h1 := hl 1 (by simp)
        simp at h0 h1
        simp [rowUp, tN, h0, h1]
      | succ i =>
        have := ih (c + 1) (fun i hi => by have := hl (i + 1) (by simpa using hi); simpa [Nat.add_assoc, Nat.add_comm 1 i] using this) i (by simpa [rowUp] using h)
        simpa [rowUp, Nat.add_assoc, Nat.add_comm 1 i] using this
theorem rowN_at (m : Nat) : ∀ (k : Nat) (l : List Nat), (∀ i, (h : i < l.length) → l[i] = tN k i) → ∀ i, (h : i < (rowN m l).length) → (rowN m l)[i] = tN (k + m) i := by
  induction m with
  | zero => intro k l hl; exact hl
  | succ m ih =>
    intro k l hl i h
    have := ih (k + 1) (rowUp 0 l) (fun i hi => by simpa using rowUp_at k l 0 (by simpa using hl) i hi) i h
    rw [show k + (m + 1) = k + 1 + m by omega]
    exact this
theorem bell25 : tN 25 0 = 4638590332229999353 := by
  have := rowN_at 25 0 (List.replicate 26 1) (fun i h => by rw [List.getElem_replicate]; rfl) 0 (by decide)
  rw [show 0 + 25 = 25 from rfl] at this
  rw [← this]
  decide
theorem tN_le (k c : Nat) (h : k + c ≤ 25) : tN k c ≤ 4638590332229999353 := by
  have h1 := tN_diag c k
  have h2 := tN_top (k + c) (25 - (k + c))
  rw [show k + c + (25 - (k + c)) = 25 by omega, bell25] at h2
  omega

def TabOk (cs : Array Value) (F : Nat → Nat → Int) : Prop := cs.size = 702 ∧ ∀ k c, k < 26 → c < 27 → cs[k * 27 + c]? = some (.int .i64 (F k c))
theorem TabOk.congr {cs : Array Value} {F G : Nat → Nat → Int} (h : TabOk cs F) (he : ∀ k c, k < 26 → c < 27 → F k c = G k c) : TabOk cs G := ⟨h.1, fun k c hk hc => by rw [h.2 k c hk hc, he k c hk hc]⟩
theorem TabOk.set_ {cs : Array Value} {F : Nat → Nat → Int} (h : TabOk cs F) (k c : Nat) (hk : k < 26) (hc : c < 27) (v : Int) :
    TabOk (cs.setIfInBounds (k * 27 + c) (.int .i64 v)) (fun k' c' => if k' = k ∧ c' = c then v else F k' c') := by
  refine ⟨by simpa using h.1, fun k' c' hk' hc' => ?_⟩
  rw [Array.getElem?_setIfInBounds]
  by_cases he : k' = k ∧ c' = c
  · obtain ⟨rfl, rfl⟩ := he
    rw [if_pos rfl, if_pos (by rw [h.1]; omega)]; simp
  · rw [if_neg (by omega)]
    simp only [if_neg he]
    exact h.2 k' c' hk' hc'
theorem zero107 : Try.zeroCells107 = Array.replicate 702 (.int .i64 0) := by kernel_rfl
theorem TabOk.zero : TabOk Try.zeroCells107 (fun _ _ => 0) := by
  rw [zero107]
  refine ⟨by simp, fun k c hk hc => ?_⟩
  rw [Array.getElem?_replicate, if_pos (by omega)]

theorem below_setRow {B : Nat} {a w : World} (h : Below B a w) {g : Nat} (hg : B ≤ g) (cs : Array Value) : Below B a (w.setRow g cs) :=
  h.trans ⟨rfl, rfl, rfl, by simp, fun k hk => by
    simp only [World.setRow, Array.getElem?_modify]
    rw [if_neg (by omega)]⟩

set_option maxHeartbeats 1000000 in
set_option maxRecDepth 100000 in
theorem counts_any (n : Nat) (w : World) (hn : n ≤ 25) :
    Calls Try.prog 70 #[.int .i64 n] w fun e w' => ∃ cs, e = .returned (.agg cs) ∧ TabOk cs (fun j x => if j ≤ n ∧ (j = 0 ∨ j + x ≤ n) then (tN j x : Int) else 0) ∧ Below w.heap.size w w' := by
  have zs := Lib.hid (show TabOk Try.zeroCells107 (fun _ _ => 0) from TabOk.zero)
  go_enter Try.func70, Try.ntmps70
  go_wp2
  refine wp_abs (fun wx => Blk wx w.heap.size 107 Try.zeroCells107 ∧ Blk wx (w.heap.size + 1) 107 Try.zeroCells107 ∧ Below w.heap.size w wx) ⟨(Blk.new _ _ _).alloc _, by simpa using Blk.new (w.alloc (.cells Try.zeroCells107 107)) 107 Try.zeroCells107, ((Below.refl _ _).alloc (Nat.le_refl _) _).alloc (by simp) _⟩ ?_
  rintro w1 ⟨hR, hT, hb⟩
  generalize Try.zeroCells107 = z at *
  go_loopw [7] (fun v wr => ∃ (c : Nat) (cs : Array Value), c ≤ 27 ∧ v = .int .i64 c ∧ Hid (Blk wr w.heap.size 107 z ∧ Blk wr (w.heap.size + 1) 107 cs ∧ TabOk cs (fun k x => if k = 0 ∧ x < c then 1 else 0) ∧ Below w.heap.size w wr)) (fun v _ => 27 - (intOf v).toNat)
  case atStart => exact ⟨0, z, by omega, rfl, hR, hT, zs.out.congr (by simp), hb⟩
  case round =>
    obtain ⟨c, cs, hc, rfl, H⟩ := hrel
    by_cases hlt : c < 27
    · have c1 : wr.cell? ⟨w.heap.size + 1, c, none⟩ = some (.int .i64 (if 0 = 0 ∧ c < c then 1 else 0)) := (H.out.2.1.cell c).trans (by simpa using H.out.2.2.1.2 0 c (by omega) hlt)
      have f1 := H.out.2.1.frozen c
      have H3 := Lib.hid (show Blk (wr.setCell ⟨w.heap.size + 1, c, none⟩ (.int .i64 1)) w.heap.size 107 z ∧ Blk (wr.setCell ⟨w.heap.size + 1, c, none⟩ (.int .i64 1)) (w.heap.size + 1) 107 (cs.setIfInBounds c (.int .i64 1)) ∧ TabOk (cs.setIfInBounds c (.int .i64 1)) (fun k x => if k = 0 ∧ x < c + 1 then 1 else 0) ∧ Below w.heap.size w (wr.setCell ⟨w.heap.size + 1, c, none⟩ (.int .i64 1)) from
        ⟨H.out.1.far (by simp) _, H.out.2.1.set_ c _, (by simpa using H.out.2.2.1.set_ 0 c (by omega) hlt 1 : TabOk (cs.setIfInBounds c (.int .i64 1)) _).congr (fun k x _ _ => by
          by_cases h1 : k = 0 ∧ x = c
          · rw [if_pos h1, if_pos (by omega)]
          · rw [if_neg h1]
            by_cases h2 : k = 0 ∧ x < c
            · rw [if_pos h2, if_pos (by omega)]
            · rw [if_neg h2, if_neg (by omega)]), H.out.2.2.2.setCell (by simp) _⟩)
      go_wp2
      go_roundw
      case rel => exact ⟨c + 1, _, by omega, by go_num, H3⟩
      case measure => simp [intOf]; omega
    · have hce : c = 27 := by omega
      subst hce
      go_wp2
      refine wp_abs (fun wx => ∃ cs, Blk wx w.heap.size 107 z ∧ Blk wx (w.heap.size + 1) 107 cs ∧ TabOk cs (fun k x => if k < 1 then (tN k x : Int) else 0) ∧ Below w.heap.size w wx) ⟨cs, H.out.1, H.out.2.1, H.out.2.2.1.congr (fun k x _ hx => by
          by_cases h1 : k = 0
          · subst h1; rw [if_pos (by omega), if_pos (by omega)]; rfl
          · rw [if_neg (by omega), if_neg (by omega)]), H.out.2.2.2⟩ ?_
      rintro w2 ⟨cs2, hR2, hT2, ht2, hb2⟩
      go_loopw [5] (fun v wr => ∃ (k : Nat) (cs : Array Value), k ≤ n ∧ v = .int .i64 ((k : Int) + 1) ∧ Hid (Blk wr w.heap.size 107 z ∧ Blk wr (w.heap.size + 1) 107 cs ∧ TabOk cs (fun j x => if j < k + 1 ∧ (j = 0 ∨ j + x ≤ n) then (tN j x : Int) else 0) ∧ Below w.heap.size w wr)) (fun v _ => n + 1 - (intOf v).toNat)
      case atStart => exact ⟨0, cs2, by omega, rfl, hR2, hT2, ht2.congr (fun j x _ _ => by
          by_cases h1 : j < 1
          · rw [if_pos h1, if_pos (by omega)]
          · rw [if_neg h1, if_neg (by omega)]), hb2⟩
      case round =>
        obtain ⟨k0, cs3, hkn, rfl, H3⟩ := hrel
        by_cases hle : k0 + 1 ≤ n
        · have b1 : decide ((k0 : Int) + 1 ≤ (n : Int)) = true := by simp; omega
          go_wp2
          go_loopw [6] (fun v wr => ∃ (c : Nat) (cs : Array Value), c + (k0 + 1) ≤ n + 1 ∧ v = .int .i64 c ∧ Hid (Blk wr w.heap.size 107 z ∧ Blk wr (w.heap.size + 1) 107 cs ∧ TabOk cs (fun j x => if (j < k0 + 1 ∨ j = k0 + 1 ∧ x < c) ∧ (j = 0 ∨ j + x ≤ n) then (tN j x : Int) else 0) ∧ Below w.heap.size w wr)) (fun v _ => n + 1 - (intOf v).toNat)
          case atStart => exact ⟨0, cs3, by omega, rfl, H3.out.1, H3.out.2.1, H3.out.2.2.1.congr (fun j x _ _ => by
              by_cases h1 : j < k0 + 1 ∧ (j = 0 ∨ j + x ≤ n)
              · rw [if_pos h1, if_pos (by omega)]
              · rw [if_neg h1, if_neg (by omega)]), H3.out.2.2.2⟩
          case round =>
            obtain ⟨c, cs4, hc, rfl, H4⟩ := hrel
            by_cases hcl : c + (k0 + 1) ≤ n
            · have d1 : wr.cell? ⟨w.heap.size + 1, k0 * 27 + c, none⟩ = some (.int .i64 (tN k0 c)) := (H4.out.2.1.cell _).trans ((H4.out.2.2.1.2 k0 c (by omega) (by omega)).trans (by dsimp only; rw [if_pos (by omega)]))
              have d2 : wr.cell? ⟨w.heap.size + 1, k0 * 27 + (c + 1), none⟩ = some (.int .i64 (tN k0 (c + 1))) := (H4.out.2.1.cell _).trans ((H4.out.2.2.1.2 k0 (c + 1) (by omega) (by omega)).trans (by dsimp only; rw [if_pos (by omega)]))
              have d3 : wr.cell? ⟨w.heap.size + 1, (k0 + 1) * 27 + c, none⟩ = some (.int .i64 0) := (H4.out.2.1.cell _).trans ((H4.out.2.2.1.2 (k0 + 1) c (by omega) (by omega)).trans (by dsimp only; rw [if_neg (by omega)]))
              have f3 := H4.out.2.1.frozen ((k0 + 1) * 27 + c)
              have b2 : decide ((c : Int) + ((k0 : Int) + 1) ≤ (n : Int)) = true := by simp; omega
              have hle2 := tN_le (k0 + 1) c (by omega)
              have htn : tN (k0 + 1) c = c * tN k0 c + tN k0 (c + 1) := rfl
              have e5 : ((c : Int) * (tN k0 c : Int) + (tN k0 (c + 1) : Int)) = (tN (k0 + 1) c : Int) := by rw [htn]; simp
              have e6 : ((c : Int) * (tN k0 c : Int)) = ((c * tN k0 c : Nat) : Int) := by simp
              have e3 : IntKind.i64.wrap ((c : Int) * (tN k0 c : Int)) = (c : Int) * (tN k0 c : Int) := by rw [e6]; exact IntWalk.i64_in _ (by omega)
              have e4 : IntKind.i64.wrap ((c : Int) * (tN k0 c : Int) + (tN k0 (c + 1) : Int)) = (tN (k0 + 1) c : Int) := by rw [e5]; exact IntWalk.i64_in _ (by omega)
              have e1 : IntKind.i64.wrap (k0 : Int) = k0 := IntWalk.i64_in _ (by omega)
              have e1b : IntKind.i64.wrap ((k0 : Int) + 1 - 1) = k0 := by rw [show (k0 : Int) + 1 - 1 = k0 by omega, e1]
              have e2 : IntKind.i64.wrap ((c : Int) + 1) = (c : Int) + 1 := IntWalk.i64_in _ (by omega)
              have e7 : ((c : Int) + 1).toNat = c + 1 := by omega
              have e8 : ((k0 : Int) + 1).toNat = k0 + 1 := by omega
              have i1 : (k0 : Int) < 26 := by omega
              have i2 : (c : Int) < 27 := by omega
              have i3 : (c : Int) + 1 < 27 := by omega
              have i4 : (k0 : Int) + 1 < 26 := by omega
              have i5 : (0 : Int) ≤ (k0 : Int) + 1 := by omega
              have i6 : (0 : Int) ≤ (c : Int) + 1 := by omega
              have HL2 := Lib.hid hle2
              clear htn e5 e6 hle2
              go_wp2
              go_still_tail 20, (by kernel_rfl)
              change wpList _ _ _ _ _ wr.drew
              have H5 := Lib.hid (show Blk (wr.setCell ⟨w.heap.size + 1, (k0 + 1) * 27 + c, none⟩ (.int .i64 (tN (k0 + 1) c))) w.heap.size 107 z ∧ Blk (wr.setCell ⟨w.heap.size + 1, (k0 + 1) * 27 + c, none⟩ (.int .i64 (tN (k0 + 1) c))) (w.heap.size + 1) 107 (cs4.setIfInBounds ((k0 + 1) * 27 + c) (.int .i64 (tN (k0 + 1) c))) ∧
                  TabOk (cs4.setIfInBounds ((k0 + 1) * 27 + c) (.int .i64 (tN (k0 + 1) c))) (fun j x => if (j < k0 + 1 ∨ j = k0 + 1 ∧ x < c + 1) ∧ (j = 0 ∨ j + x ≤ n) then (tN j x : Int) else 0) ∧ Below w.heap.size w (wr.setCell ⟨w.heap.size + 1, (k0 + 1) * 27 + c, none⟩ (.int .i64 (tN (k0 + 1) c))) from
                ⟨H4.out.1.far (by simp) _, H4.out.2.1.set_ _ _, (H4.out.2.2.1.set_ (k0 + 1) c (by omega) (by omega) (tN (k0 + 1) c)).congr (fun j x _ _ => by
                  by_cases h1 : j = k0 + 1 ∧ x = c
                  · obtain ⟨rfl, rfl⟩ := h1
                    rw [if_pos ⟨rfl, rfl⟩, if_pos (by omega)]
                  · rw [if_neg h1]
                    by_cases h2 : (j < k0 + 1 ∨ j = k0 + 1 ∧ x < c) ∧ (j = 0 ∨ j + x ≤ n)
                    · rw [if_pos h2, if_pos (by omega)]
                    · rw [if_neg h2, if_neg (by omega)]), H4.out.2.2.2.setCell (by simp) _⟩)
              clear e1 e1b e2 e3 e4 e7
              go_wp2
              go_roundw
              case rel => ((repeat apply Exists.intro); exact ⟨⟨c + 1, _, by omega, by go_num, H5.out.1.drew, H5.out.2.1.drew, H5.out.2.2.1, H5.out.2.2.2.drew⟩, rfl⟩)
              case measure => simp [intOf]; omega
            · have b2 : decide ((c : Int) + ((k0 : Int) + 1) ≤ (n : Int)) = false := by simp; omega
              have H5 := Lib.hid (H4.out.2.2.1.congr (G := fun j x => if j < k0 + 1 + 1 ∧ (j = 0 ∨ j + x ≤ n) then (tN j x : Int) else 0) (fun j x _ _ => by
                  by_cases h1 : j < k0 + 1 + 1 ∧ (j = 0 ∨ j + x ≤ n)
                  · rw [if_pos (by omega), if_pos h1]
                  · rw [if_neg (by omega), if_neg h1]))
              go_wp2
              go_roundw
              case rel => exact ⟨k0 + 1, cs4, by omega, by go_num, H4.out.1, H4.out.2.1, H5.out, H4.out.2.2.2⟩
              case measure => simp [intOf]; omega
        · have b1 : decide ((k0 : Int) + 1 ≤ (n : Int)) = false := by simp; omega
          have hu := Try.underlying107
          have hi : (Try.prog.info? 107).map (·.size) = some 702 := by kernel_rfl
          have hz : z.size = 702 := zs.out.1
          have h1 : cs3.all (·.oneCell') = true := by
            rw [Array.all_eq_true_iff_forall_mem]
            intro u hu
            obtain ⟨i, hi, rfl⟩ := Array.mem_iff_getElem.1 hu
            have hc := H3.out.2.2.1.2 (i / 27) (i % 27) (by have := H3.out.2.2.1.1; omega) (by omega)
            rw [show i / 27 * 27 + i % 27 = i by omega, Array.getElem?_eq_getElem hi] at hc
            injection hc with hc
            rw [hc]; rfl
          have HI := Lib.hid hi
          have HZ := Lib.hid hz
          have H1 := Lib.hid h1
          clear hi hz h1
          go_wp2_with (first
            | (refine wpList_load_row rfl 107 _ rfl (w.heap.size + 1) rfl 107 cs3 _ _ H3.out.2.1 hu rfl (by rw [HI.out, H3.out.2.2.1.1]) ?_)
            | (refine wpList_store_row rfl 107 _ _ rfl w.heap.size cs3 rfl rfl 107 z H3.out.1 (by rw [HI.out, H3.out.2.2.1.1]) (by rw [HZ.out, H3.out.2.2.1.1]) H1.out ?_))
          refine bodyPost_ret (results_cell_row rfl _ _ w.heap.size 107 cs3 (0, 0) _ rfl (setRow_heap _ _ _ _ _ _ H3.out.1) hu rfl (by rw [HI.out, H3.out.2.2.1.1])) rfl ?_
          exact ⟨cs3, rfl, H3.out.2.2.1.congr (fun j x hj _ => by
            by_cases h1 : j ≤ n ∧ (j = 0 ∨ j + x ≤ n)
            · rw [if_pos h1, if_pos (by omega)]
            · rw [if_neg h1, if_neg (by omega)]), below_setRow H3.out.2.2.2 (Nat.le_refl _) _⟩
end Go.Proofs.Ytbjfbmienlojkaa

namespace Go.Proofs.Ytbjfbmienlojkaa
open Go.RowKit

theorem run_index107 (cs : Array Value) (n : Nat) (hn : n < 26) (w : World) :
    (Instr.index 107 (.agg cs) (.int .i64 n)).run Try.prog w = .ok (.agg (cs.extract (n * 27) (n * 27 + 27))) w := by
  have h0 : (0 : Int) ≤ n ∧ (n : Int) < 26 := by omega
  simp [Instr.index, run_underlying Try.underlying107, asIntOf, h0, go_sem, part]
  omega
theorem run_index106 (cs : Array Value) (n : Nat) (hn : n < 27) (v : Value) (hv : cs[n]? = some v) (w : World) :
    (Instr.index 106 (.agg cs) (.int .i64 n)).run Try.prog w = .ok v w := by
  have h0 : (0 : Int) ≤ n ∧ (n : Int) < 27 := by omega
  simp [Instr.index, run_underlying Try.underlying106, asIntOf, h0, go_sem, part]
  rw [if_pos hn, hv]
  rfl
theorem TabOk.row {cs : Array Value} {F : Nat → Nat → Int} (h : TabOk cs F) {k c : Nat} (hk : k < 26) (hc : c < 27) : (cs.extract (k * 27) (k * 27 + 27))[c]? = some (.int .i64 (F k c)) := by
  rw [Array.getElem?_extract, if_pos (by have := h.1; omega)]
  exact h.2 k c hk hc

/-- scheme.Count. -/
def countF (n : Int) : Int := if n < 0 ∨ 25 < n then 0 else tN n.toNat 0
set_option maxHeartbeats 1000000 in
theorem count_any (n : Int) (w : World) : Calls Try.prog 38 #[.int .i64 n] w fun e w' => e = .returned (.tuple #[.int .i64 (countF n), .int .i64 (if n < 0 ∨ 25 < n then 2 else 0)]) ∧ Below w.heap.size w w' := by
  by_cases hbad : n < 0 ∨ 25 < n
  · have h1 : countF n = 0 := by unfold countF; rw [if_pos hbad]
    rw [h1, if_pos hbad]
    by_cases hn : n < 0
    all_goals
      go_enter Try.func38, Try.ntmps38
      go_wp2
      go_ret2
      exact ⟨rfl, Below.refl _ _⟩
  · obtain ⟨k, rfl⟩ : ∃ k : Nat, n = k := ⟨n.toNat, by omega⟩
    have h1 : countF (k : Int) = tN k 0 := by unfold countF; rw [if_neg hbad]; rfl
    rw [h1, if_neg hbad]
    have hk : k ≤ 25 := by omega
    clear hbad h1
    go_enter Try.func38, Try.ntmps38
    go_wp2_with fail
    refine (counts_any k w hk).mono ?_
    rintro e w1 ⟨cs, rfl, ht, hb⟩
    have i1 := fun w => run_index107 cs k (by omega) w
    have i2 : ∀ w, (Instr.index 106 (.agg (cs.extract (k * 27) (k * 27 + 27))) (.int .i64 0)).run Try.prog w = .ok (.int .i64 (tN k 0)) w := fun w => by
      have := run_index106 (cs.extract (k * 27) (k * 27 + 27)) 0 (by omega) _ (ht.row (by omega) (by omega)) w
      rw [if_pos ⟨Nat.le_refl _, by omega⟩] at this
      exact this
    clear ht
    go_wp2
    go_ret2
    exact ⟨rfl, hb⟩
end Go.Proofs.Ytbjfbmienlojkaa

namespace Go.Proofs.Ytbjfbmienlojkaa
open Go.RowKit

theorem tN_pos (k : Nat) : ∀ c, 1 ≤ tN k c := by
  induction k with
  | zero => intro c; exact Nat.le_refl _
  | succ k ih =>
    intro c
    simp only [tN]
    have := ih (c + 1)
    omega

/-- a count as an int64 holds it -/
def wN (k c : Nat) : Int := IntKind.i64.wrap (tN k c : Int)
theorem wrap_mod (x : Int) : IntKind.i64.wrap x % 18446744073709551616 = x % 18446744073709551616 := by rw [IntKind.wrap_i64]; omega
theorem wrap_congr {x y : Int} (h : x % 18446744073709551616 = y % 18446744073709551616) : IntKind.i64.wrap x = IntKind.i64.wrap y := by rw [IntKind.wrap_i64, IntKind.wrap_i64]; omega
theorem wN_step (k c : Nat) : IntKind.i64.wrap (IntKind.i64.wrap ((c : Int) * wN k c) + wN k (c + 1)) = wN (k + 1) c := by
  refine wrap_congr ?_
  rw [Int.add_emod, wrap_mod, Int.mul_emod]
  unfold wN
  rw [wrap_mod, wrap_mod, ← Int.mul_emod, ← Int.add_emod]
  simp only [tN]
  rw [Int.natCast_add, Int.natCast_mul]
theorem wN_le {k c : Nat} (h : k + c ≤ 25) : wN k c = tN k c := IntWalk.i64_in _ (by have := tN_le k c h; omega)

/-- the classes ahead of line i -/
def clF (l : List (Int × Int)) : Nat → Nat
  | 0 => 0
  | i + 1 => if (l.getD i (0, 0)).1 = (clF l i : Int) then clF l i + 1 else clF l i
theorem clF_le (l : List (Int × Int)) (i : Nat) : clF l i ≤ i := by
  induction i with
  | zero => exact Nat.le_refl _
  | succ i ih => simp only [clF]; split <;> omega
/-- may line i stand there? -/
def plB (l : List (Int × Int)) (i : Nat) : Bool := decide (0 ≤ (l.getD i (0, 0)).1 ∧ (l.getD i (0, 0)).1 ≤ clF l i ∧ (l.getD i (0, 0)).2 = 0)
/-- the rank, as far as line i -/
def rkF (l : List (Int × Int)) : Nat → Int
  | 0 => 0
  | i + 1 => IntKind.i64.wrap (rkF l i + IntKind.i64.wrap ((l.getD i (0, 0)).1 * tN (l.length - 1 - i) (clF l i)))
def plainAll (l : List (Int × Int)) : Bool := (List.range l.length).all (plB l)

/-- what is left of a rank and the classes, ahead of line i -/
def unS (n k : Nat) : Nat → Nat × Nat
  | 0 => (k, 0)
  | i + 1 =>
    ((unS n k i).1 - min ((unS n k i).1 / tN (n - 1 - i) (unS n k i).2) (unS n k i).2 * tN (n - 1 - i) (unS n k i).2,
      if min ((unS n k i).1 / tN (n - 1 - i) (unS n k i).2) (unS n k i).2 = (unS n k i).2 then (unS n k i).2 + 1 else (unS n k i).2)
def unC (n k i : Nat) : Nat := min ((unS n k i).1 / tN (n - 1 - i) (unS n k i).2) (unS n k i).2
def unL (n k i : Nat) : List (Int × Int) := (List.range i).map fun j => ((unC n k j : Int), 0)
theorem unL_len (n k i : Nat) : (unL n k i).length = i := by simp [unL]
theorem unL_succ (n k i : Nat) : unL n k (i + 1) = unL n k i ++ [((unC n k i : Int), 0)] := by simp [unL, List.range_succ]
theorem unS_succ (n k i : Nat) : unS n k (i + 1) = ((unS n k i).1 - unC n k i * tN (n - 1 - i) (unS n k i).2, if unC n k i = (unS n k i).2 then (unS n k i).2 + 1 else (unS n k i).2) := rfl
theorem unS_bd (n k i : Nat) : (unS n k i).1 ≤ k ∧ (unS n k i).2 ≤ i := by
  induction i with
  | zero => exact ⟨Nat.le_refl _, Nat.le_refl _⟩
  | succ i ih =>
    rw [unS_succ]
    refine ⟨Nat.le_trans (Nat.sub_le _ _) ih.1, ?_⟩
    dsimp only
    split <;> omega
theorem unC_le (n k i : Nat) : unC n k i ≤ (unS n k i).2 := Nat.min_le_right _ _
theorem unC_mul (n k i : Nat) : unC n k i * tN (n - 1 - i) (unS n k i).2 ≤ (unS n k i).1 := by
  refine Nat.le_trans (Nat.mul_le_mul_right _ (Nat.min_le_left _ _)) ?_
  exact Nat.div_mul_le_self _ _
/-- the class by going up, as the reference finds it -/
theorem unC_up {n k i x : Nat} (hx : x ≤ unC n k i) : (x < (unS n k i).2 ∧ tN (n - 1 - i) (unS n k i).2 ≤ (unS n k i).1 - x * tN (n - 1 - i) (unS n k i).2) ↔ x < unC n k i := by
  have hp := tN_pos (n - 1 - i) (unS n k i).2
  have hm := unC_mul n k i
  have hc := unC_le n k i
  unfold unC at *
  generalize tN (n - 1 - i) (unS n k i).2 = t at *
  generalize (unS n k i).1 = r at *
  generalize (unS n k i).2 = c at *
  constructor
  · rintro ⟨h1, h2⟩
    rw [Nat.lt_min]
    refine ⟨?_, h1⟩
    have : (x + 1) * t ≤ r := by
      have hxt : x * t ≤ r := Nat.le_trans (Nat.mul_le_mul_right t hx) hm
      rw [Nat.add_mul, Nat.one_mul]
      omega
    exact (Nat.le_div_iff_mul_le hp).2 this
  · intro h
    rw [Nat.lt_min] at h
    refine ⟨h.2, ?_⟩
    have : (x + 1) * t ≤ r := (Nat.le_div_iff_mul_le hp).1 h.1
    rw [Nat.add_mul, Nat.one_mul] at this
    omega
end Go.Proofs.Ytbjfbmienlojkaa
