/- The reference's Of, Is, apart, Apart, Lone. -/
import Derived.Test.YtogofchpocoebaaR1
namespace Go.Proofs.Ytogofchpocoebaa
open Go.RowKit Go.Maps

theorem rows_tab : rowsL.map (fun x => tabF x.1) = rowsL.map (fun x => some x.2) := by kernel_rfl
theorem tab_at {i : Nat} (h : i < rowsL.length) : tabF rowsL[i].1 = some rowsL[i].2 := by
  have e : (rowsL.map (fun x => tabF x.1))[i]? = (rowsL.map (fun x => some x.2))[i]? := by rw [rows_tab]
  simpa [List.getElem?_eq_getElem h] using e
theorem tab_none {r : Int} (h : ∀ j (hj : j < rowsL.length), rowsL[j].1 ≠ r) : tabF r = none := by
  unfold tabF tabOf
  rw [Option.map_eq_none_iff, List.find?_eq_none]
  intro x hx
  obtain ⟨j, hj, rfl⟩ := List.mem_iff_getElem.1 (List.mem_reverse.1 hx)
  simpa using h j hj

set_option maxHeartbeats 1000000 in
set_option maxRecDepth 100000 in
theorem refOf_any (r : Int) (w : World) : Calls Try.prog 51 #[.int .i32 r] w fun e w' => e = .returned (.tuple #[.agg #[.bool (traits r).vow, .int .i64 (traits r).hgt, .int .i64 (traits r).bck, .bool (traits r).rnd, .int .i64 (traits r).plc, .int .i64 (traits r).mnr, .bool (traits r).vcd], .bool (tabF r).isSome]) ∧ Below w.heap.size w w' := by
  go_enter Try.func51, Try.ntmps51
  go_upto_region 1 with (fail)
  refine wp_abs (fun wx => Below w.heap.size w wx ∧ Blk wx w.heap.size 56 #[.bool false, .int .i64 0, .int .i64 0, .bool false, .int .i64 0, .int .i64 0, .bool false]) ⟨(Below.refl _ _).alloc (Nat.le_refl _) _, Blk.new _ _ _⟩ ?_
  generalize hpb : w.heap.size = pb
  rintro wx ⟨hb, hx⟩
  rw [← hpb] at hb
  have HX := Lib.hid (And.intro hb hx)
  have HPB := Lib.hid hpb
  clear hb hx hpb
  go_wp2_with fail
  refine (refRows_any _).mono ?_
  rintro e w1 ⟨g, rfl, hB, hb, hg⟩
  have H1 := Lib.hid (And.intro (HX.out.1.trans (hb.mono HX.out.1.size)) (And.intro (HX.out.2.below hb HX.out.2.lt) (And.intro hB (show pb < g from Nat.lt_of_lt_of_le HX.out.2.lt hg))))
  clear hB hb hg HX
  have b0 : w1.cell? ⟨pb, 0, none⟩ = some (.bool false) := H1.out.2.1.cell 0
  have b1 : w1.cell? ⟨pb, 1, none⟩ = some (.int .i64 0) := H1.out.2.1.cell 1
  have b2 : w1.cell? ⟨pb, 2, none⟩ = some (.int .i64 0) := H1.out.2.1.cell 2
  have b3 : w1.cell? ⟨pb, 3, none⟩ = some (.bool false) := H1.out.2.1.cell 3
  have b4 : w1.cell? ⟨pb, 4, none⟩ = some (.int .i64 0) := H1.out.2.1.cell 4
  have b5 : w1.cell? ⟨pb, 5, none⟩ = some (.int .i64 0) := H1.out.2.1.cell 5
  have b6 : w1.cell? ⟨pb, 6, none⟩ = some (.bool false) := H1.out.2.1.cell 6
  have f0 : w1.frozen? ⟨pb, 0, none⟩ = false := H1.out.2.1.frozen 0
  have f1 : w1.frozen? ⟨pb, 1, none⟩ = false := H1.out.2.1.frozen 1
  have f2 : w1.frozen? ⟨pb, 2, none⟩ = false := H1.out.2.1.frozen 2
  have f3 : w1.frozen? ⟨pb, 3, none⟩ = false := H1.out.2.1.frozen 3
  have f4 : w1.frozen? ⟨pb, 4, none⟩ = false := H1.out.2.1.frozen 4
  have f5 : w1.frozen? ⟨pb, 5, none⟩ = false := H1.out.2.1.frozen 5
  have f6 : w1.frozen? ⟨pb, 6, none⟩ = false := H1.out.2.1.frozen 6
  have HF := Lib.hid (And.intro b0 (And.intro b1 (And.intro b2 (And.intro b3 (And.intro b4 (And.intro b5 b6))))))
  go_wp2
  go_loopw [5] (fun iv wr => ∃ i : Nat, i ≤ 38 ∧ iv = .int .i64 i ∧ wr = w1 ∧ Hid (∀ j (hj : j < rowsL.length), j < i → rowsL[j].1 ≠ r)) (fun iv _ => 38 - (intOf iv).toNat)
  case atStart => exact ⟨0, by omega, rfl, rfl, Lib.hid fun j hj h => absurd h (by omega)⟩
  case round =>
    obtain ⟨i, hi, rfl, rfl, HR⟩ := hrel
    by_cases hlt : i < 38
    · have q1 : decide ((i : Int) < 38) = true := by simp; omega
      have hil : i < rowsL.length := by rw [rowsL_len]; exact hlt
      have cc : ∀ j u, j < 8 → (rowC rowsL[i])[j]? = some u → wr.cell? ⟨g, i * 8 + j, none⟩ = some u := fun j u hj hu => (H1.out.2.2.1.cell _).trans (by rw [List.getElem?_toArray, rws_get rowsL hil j hj]; exact hu)
      have ht := tab_at hil
      have hne : rowsL[i].1 ≠ r → ∀ j (hj : j < rowsL.length), j < i + 1 → rowsL[j].1 ≠ r := fun h j hj hji => by
        by_cases e : j = i
        · subst e; exact h
        · exact HR.out j hj (by omega)
      generalize rowsL[i] = x at *
      have c0 := cc 0 _ (by omega) rfl
      have c1 := cc 1 _ (by omega) rfl
      have c2 := cc 2 _ (by omega) rfl
      have c3 := cc 3 _ (by omega) rfl
      have c4 := cc 4 _ (by omega) rfl
      have c5 := cc 5 _ (by omega) rfl
      have c6 := cc 6 _ (by omega) rfl
      have c7 := cc 7 _ (by omega) rfl
      rw [Nat.add_zero] at c0
      clear cc hil
      by_cases he : x.1 = r
      · have q2 : (x.1 == r) = true := by simpa using he
        rw [he] at ht
        have hx : traits r = x.2 := by unfold traits; rw [ht]; rfl
        have HX := Lib.hid (And.intro ht hx)
        clear ht hx he hne
        go_wp2
        refine bodyPost_ret (v := .tuple #[.agg #[.bool x.2.vow, .int .i64 x.2.hgt, .int .i64 x.2.bck, .bool x.2.rnd, .int .i64 x.2.plc, .int .i64 x.2.mnr, .bool x.2.vcd], .bool true]) (by simp [results, Try.results51, go_sem, b0, b1, b2, b3, b4, b5, b6]) rfl ?_
        have hp : w.heap.size ≤ pb := Nat.le_of_eq HPB.out
        exact ⟨by rw [HX.out.1, HX.out.2]; rfl, ((((((H1.out.1.setCell hp _).setCell hp _).setCell hp _).setCell hp _).setCell hp _).setCell hp _).setCell hp _⟩
      · have q2 : (x.1 == r) = false := by simpa using he
        have HN := Lib.hid (hne he)
        clear hne ht he
        go_wp2
        go_roundw
        case rel => exact ⟨i + 1, by omega, by go_num, trivial, HN⟩
        case measure => simp [intOf]; omega
    · have he : i = 38 := by omega
      have ht : tabF r = none := tab_none fun j hj => HR.out j hj (by rw [rowsL_len] at hj; omega)
      have hx : traits r = tr0 := by unfold traits; rw [ht]; rfl
      have HX := Lib.hid (And.intro ht hx)
      clear ht hx
      subst he
      go_wp2
      refine bodyPost_ret (v := .tuple #[.agg #[.bool false, .int .i64 0, .int .i64 0, .bool false, .int .i64 0, .int .i64 0, .bool false], .bool false]) (by simp [results, Try.results51, go_sem, b0, b1, b2, b3, b4, b5, b6]) rfl ?_
      have hp : w.heap.size ≤ pb := Nat.le_of_eq HPB.out
      exact ⟨by rw [HX.out.1, HX.out.2]; rfl, ((((((H1.out.1.setCell hp _).setCell hp _).setCell hp _).setCell hp _).setCell hp _).setCell hp _).setCell hp _⟩

/-- the cells of what a rune says -/
def trA7 (t : Tr) : Array Value := #[.bool t.vow, .int .i64 t.hgt, .int .i64 t.bck, .bool t.rnd, .int .i64 t.plc, .int .i64 t.mnr, .bool t.vcd]

set_option maxHeartbeats 1000000 in
set_option maxRecDepth 100000 in
theorem refIs_any (p : Ph) (w : World) : Calls Try.prog 43 #[.agg #[.int .i32 p.1, .bool p.2.1, .int .i32 p.2.2]] w fun e w' => e = .returned (.bool (isF p)) ∧ Below w.heap.size w w' := by
  have hI : isF p = ((tabF p.1).isSome && (decide (p.2.2 = 0) || ((traits p.1).vow && (decide (p.2.2 = 105) || decide (p.2.2 = 117))))) := rfl
  have HI := Lib.hid hI
  clear hI
  go_enter Try.func43, Try.ntmps43
  go_upto_region 1 with (fail)
  refine wp_abs (fun wx => Below w.heap.size w wx ∧ Blk wx w.heap.size 43 #[.int .i32 p.1, .bool p.2.1, .int .i32 p.2.2]) ⟨(Below.refl _ _).alloc (Nat.le_refl _) _, Blk.new _ _ _⟩ ?_
  generalize hpb : w.heap.size = pb
  rintro wx ⟨hb, hx⟩
  rw [← hpb] at hb
  have c0 : wx.cell? ⟨pb, 0, none⟩ = some (.int .i32 p.1) := hx.cell 0
  have HX := Lib.hid (And.intro hb hx)
  have HPB := Lib.hid hpb
  clear hb hx hpb
  go_wp2_with fail
  refine (refOf_any p.1 _).mono ?_
  rintro e w1 ⟨rfl, hb⟩
  have H1 := Lib.hid (And.intro (HX.out.1.trans (hb.mono HX.out.1.size)) (HX.out.2.below hb HX.out.2.lt))
  clear hb HX c0
  go_upto_region 2 with (fail)
  refine wp_abs (fun wy => Below w.heap.size w wy ∧ Blk wy pb 43 #[.int .i32 p.1, .bool p.2.1, .int .i32 p.2.2] ∧ wy.cell? ⟨w1.heap.size, 0, none⟩ = some (.bool (traits p.1).vow)) ⟨H1.out.1.trans (((Below.refl _ _).alloc (Nat.le_refl _) _).mono H1.out.1.size), H1.out.2.alloc _, (Blk.new _ _ _).cell 0⟩ ?_
  generalize w1.heap.size = tb
  clear H1
  rintro w2 ⟨hb, hx, d0⟩
  have g2 : w2.cell? ⟨pb, 2, none⟩ = some (.int .i32 p.2.2) := hx.cell 2
  have HX := Lib.hid hb
  clear hb hx
  cases h1 : (tabF p.1).isSome with
  | false =>
    have HR := Lib.hid (show isF p = false by rw [HI.out, h1]; rfl)
    go_wp2
    go_ret
    exact ⟨by rw [HR.out]; rfl, HX.out⟩
  | true =>
    by_cases h2 : p.2.2 = 0
    · have HR := Lib.hid (show isF p = true by rw [HI.out, h1]; simp [h2])
      have q : (p.2.2 == 0) = true := by simpa using h2
      clear h2
      go_wp2
      go_ret
      exact ⟨by rw [HR.out]; rfl, HX.out⟩
    · have q : (p.2.2 == 0) = false := by simpa using h2
      cases h3 : (traits p.1).vow with
      | false =>
        have HR := Lib.hid (show isF p = false by rw [HI.out, h1, h3]; simp [h2])
        clear h2
        rw [h3] at d0
        go_wp2
        go_ret
        exact ⟨by rw [HR.out]; rfl, HX.out⟩
      | true =>
        rw [h3] at d0
        by_cases h4 : p.2.2 = 105
        · have HR := Lib.hid (show isF p = true by rw [HI.out, h1, h3]; simp [h4])
          have q' : (p.2.2 == 105) = true := by simpa using h4
          clear h4 h2
          go_wp2
          go_ret
          exact ⟨by rw [HR.out]; rfl, HX.out⟩
        · have q' : (p.2.2 == 105) = false := by simpa using h4
          have HR := Lib.hid (show isF p = (p.2.2 == 117) by rw [HI.out, h1, h3]; simp [h2, h4]; by_cases h5 : p.2.2 = 117 <;> simp [h5])
          clear h4 h2
          go_wp2
          go_ret
          exact ⟨by rw [HR.out]; rfl, HX.out⟩

theorem refFar_any (a b : Int) (w : World) (ha : 0 ≤ a ∧ a ≤ 1000) (hb : 0 ≤ b ∧ b ≤ 1000) : Calls Try.prog 117 #[.int .i64 a, .int .i64 b] w fun e w' => e = .returned (.int .i64 (farF a b)) ∧ w' = w := by
  obtain ⟨a1, a2⟩ := ha
  obtain ⟨b1, b2⟩ := hb
  by_cases h : a < b
  · have q : decide (a < b) = true := by simpa using h
    have hf : farF a b = b - a := by unfold farF; omega
    have HF := Lib.hid hf
    have wk : IntKind.i64.wrap (b - a) = b - a := IntWalk.i64_in _ (by omega)
    clear hf
    go_enter Try.func117, Try.ntmps117
    go_wp2
    go_ret
    exact ⟨by rw [HF.out]; rfl, rfl⟩
  · have q : decide (a < b) = false := by simpa using h
    have hf : farF a b = a - b := by unfold farF; omega
    have HF := Lib.hid hf
    have wk : IntKind.i64.wrap (a - b) = a - b := IntWalk.i64_in _ (by omega)
    clear hf
    go_enter Try.func117, Try.ntmps117
    go_wp2
    go_ret
    exact ⟨by rw [HF.out]; rfl, rfl⟩
end Go.Proofs.Ytogofchpocoebaa
