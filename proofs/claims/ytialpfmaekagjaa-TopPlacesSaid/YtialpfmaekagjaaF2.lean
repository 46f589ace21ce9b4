/- fold.tables: the joined letters both ways: what the second map does not hold. -/
import Derived.Test.YtialpfmaekagjaaF1
import Derived.Test.YtialpfmaekagjaaT3
import Derived.WideKeyPair
import Derived.DeepKeys4
import Derived.BigQuiet
namespace Go.Proofs.Ytialpfmaekagjaa
open Go.RowKit Go.Maps Go.WideMaps
attribute [local go_sem] Oper.semAt_some

theorem lawR : Keyed Try.prog 21 := int_keyed Try.underlying21
theorem wf32 {r : Int} (h : 0 ≤ r ∧ r ≤ 2147483647) : (Lit.int .i32 r).wf = true := by
  simp only [Lit.wf, Bool.and_eq_true, decide_eq_true_eq]
  have h1 : IntKind.i32.min = -2147483648 := by decide
  have h2 : IntKind.i32.max = 2147483647 := by decide
  rw [h1, h2]
  omega
theorem keyR {r : Int} (h : 0 ≤ r ∧ r ≤ 2147483647) : keyOf Try.prog 21 (.int .i32 r) = some (.int .i32 r) := Maps.keyOf_int_mk Try.underlying21 (wf32 h)
theorem arr120 : ArrKey Try.prog 120 21 2 := ⟨Try.underlying120, by kernel_rfl, by kernel_rfl, by kernel_rfl⟩
theorem law120 : Keyed Try.prog 120 := Keyed.of_law (deep_law_laid (by kernel_rfl) (m := 2) (by omega) (of_decide_eq_true (by kernel_rfl)) (by kernel_rfl) (by rw [Try.underlying120]))
theorem row120 : (120 : Nat) < Try.prog.types.size := of_decide_eq_true (by kernel_rfl)
theorem pred_of {z : Nat} (h : 120 < z) : ∃ m, z = m + 1 := ⟨z - 1, by omega⟩
set_option maxRecDepth 100000 in
theorem keyP {x y : Int} (hx : 0 ≤ x ∧ x ≤ 2147483647) (hy : 0 ≤ y ∧ y ≤ 2147483647) : ∃ kl, keyOf Try.prog 120 (.agg #[.int .i32 x, .int .i32 y]) = some kl :=
  ⟨_, keyOf_pair (a := x) (b := y) (q := .i32) arr120 Try.underlying21 (pred_of row120) (wf32 hx) (wf32 hy)⟩

def okPr (p : Int × Int × Int) : Bool := decide (0 ≤ p.1) && decide (p.1 ≤ 2147483647) && decide (0 ≤ p.2.1) && decide (p.2.1 ≤ 2147483647) && decide (0 ≤ p.2.2) && decide (p.2.2 ≤ 2147483647)
/-- none of the letters of the fixed text is a joined one -/
def freeR : List Int := [83, 116, 114, 97, 223, 101]
theorem pairs_chk : (pairsL.all (fun p => okPr p && freeR.all (fun x => !(p.2.2 == x))) && decide (pairsL.length ≤ 3000)) = true := by decide +kernel
theorem pairs_ok : ∀ p ∈ pairsL, okPr p = true := fun p hp => by
  have h := pairs_chk
  rw [Bool.and_eq_true] at h
  have := List.all_eq_true.1 h.1 p hp
  rw [Bool.and_eq_true] at this
  exact this.1
theorem pairs_len : pairsL.length ≤ 3000 := by
  have h := pairs_chk
  rw [Bool.and_eq_true] at h
  simpa using h.2
theorem pairs_free {x : Int} (hx : x ∈ freeR) : ∀ p ∈ pairsL, p.2.2 ≠ x := fun p hp e => by
  have h := pairs_chk
  rw [Bool.and_eq_true] at h
  have h1 := List.all_eq_true.1 h.1 p hp
  rw [Bool.and_eq_true] at h1
  have h2 := List.all_eq_true.1 h1.2 x hx
  rw [e] at h2
  simp at h2
def prC (p : Int × Int × Int) : Array Value := #[.int .i32 p.1, .int .i32 p.2.1]

/-- memory while tables runs -/
structure TaSt (W0 : World) (n : Nat) (W : World) : Prop where
  mj : ∃ jm, MapV Try.prog W 120 W0.heap.size jm n
  ms : ∃ sm, MapV Try.prog W 21 (W0.heap.size + 1) sm n ∧ ∀ x : Int, (∀ p ∈ pairsL, p.2.2 ≠ x) → sm (.int .i32 x) = none
  bj : Blk W (W0.heap.size + 2) 100 #[.map (some W0.heap.size)]
  bs : Blk W (W0.heap.size + 3) 101 #[.map (some (W0.heap.size + 1))]
  below : Below W0.heap.size W0 W
theorem TaSt.only {W0 W W' : World} {n : Nat} {S : Nat → Prop} (h : TaSt W0 n W) (ho : Only S W W') (hS : ∀ b, S b → W0.heap.size + 4 ≤ b) : TaSt W0 n W' := by
  obtain ⟨jm, hj⟩ := h.mj
  obtain ⟨sm, hs, hx⟩ := h.ms
  exact ⟨⟨jm, hj.only ho (fun hb => by have := hS _ hb; omega)⟩, ⟨sm, hs.only ho (fun hb => by have := hS _ hb; omega), hx⟩, h.bj.only ho (fun hb => by have := hS _ hb; omega), h.bs.only ho (fun hb => by have := hS _ hb; omega), h.below.trans (ho.below h.below.size (fun b hb hs => by have := hS _ hs; omega))⟩

set_option maxRecDepth 100000 in
set_option maxHeartbeats 8000000 in
theorem tables_any (w : World) : Calls Try.prog 42 #[] w fun e w' => ∃ jb sb sm n, e = .returned (.tuple #[.map jb, .map (some sb)]) ∧ w.heap.size ≤ sb ∧ MapV Try.prog w' 21 sb sm n ∧ (∀ x : Int, (∀ p ∈ pairsL, p.2.2 ≠ x) → sm (.int .i32 x) = none) ∧ Below w.heap.size w w' := by
  have hmm := @run_makeMap Try.prog
  refine calls_of_wp_marks Try.func42 rfl ?_
  simp only [Try.ntmps42, List.size_toArray, List.length_nil, Nat.reduceSub, Array.replicate_succ, Array.replicate_zero, List.push_toArray, List.append_toArray, List.nil_append, List.cons_append]
  go_upto_region 2 with (fail)
  clear hmm
  refine wp_abs (fun wx => TaSt w 0 wx ∧ wx.heap.size = w.heap.size + 4) ⟨⟨⟨_, ((MapV.made Try.prog w 120).heap (w' := (((w.alloc (.map #[] 0)).alloc (.map #[] 0)).alloc (.cells #[.map (some w.heap.size)] 100)).alloc (.cells #[.map (some (w.heap.size + 1))] 101)) ?m1)⟩, ⟨fun _ => none, (by have h := ((MapV.made Try.prog (w.alloc (.map #[] 0)) 21).heap (w' := (((w.alloc (.map #[] 0)).alloc (.map #[] 0)).alloc (.cells #[.map (some w.heap.size)] 100)).alloc (.cells #[.map (some (w.heap.size + 1))] 101)) ((Below.heap_alloc _ _ _ (by simp)).trans (Below.heap_alloc _ _ _ (by simp)))); simpa using h), fun _ _ => rfl⟩, (blk_new_eq (by simp)).alloc _, blk_new_eq (by simp), ((((Below.refl _ w).alloc (Nat.le_refl _) _).alloc (by simp) _).alloc (by simp; omega) _).alloc (by simp; omega) _⟩, by simp⟩ ?_
  case m1 => exact ((Below.heap_alloc _ _ _ (by simp; omega)).trans (Below.heap_alloc _ _ _ (by simp; omega))).trans (Below.heap_alloc _ _ _ (by simp))
  rintro w1 ⟨hT, hz⟩
  have HT := Lib.hid (And.intro hT hz)
  have HL := Lib.hid (And.intro pairs_len pairs_ok)
  clear hT hz
  refine wp_rangeE (gf := 54) (lb := #[]) pairsL prA (C := fun b => False) 120 prC ?F rfl (enters_of Try.func54 (by kernel_rfl) rfl)
    (fun W _ _ => pairs_gives W) (fun b e => e.elim) (fun p => rfl)
    (fun r S W' => ∃ n, n + r.length = pairsL.length ∧ TaSt w n W')
    (fun r S A A' ⟨n, hn, h⟩ ho => ⟨n, hn, h.only ho (fun b hb => by have := HT.out.2; omega)⟩) ⟨0, by omega, HT.out.1⟩
    ?assign ?body ?done
  case assign =>
    rintro l p W
    simp only [List.zip_toArray, List.zip_cons_cons, List.zip_nil_right, List.foldl_toArray', List.foldl_cons, List.foldl_nil, prA]
    gi_wp2
    obtain ⟨pb, hpb⟩ : ∃ pb, pb = W.heap.size := ⟨_, rfl⟩
    rw [← hpb]
    refine ⟨rfl, ?_⟩
    exact rfl
  case body =>
    rintro l' p r S pb W' hsu ⟨n, hn, hT⟩ hP hSb hpb
    have hok := HL.out.2 p (hsu.subset (List.mem_cons_self ..))
    have hmem : p ∈ pairsL := hsu.subset (List.mem_cons_self ..)
    simp only [okPr, Bool.and_eq_true, decide_eq_true_eq] at hok
    obtain ⟨kl, hkl⟩ := keyP (x := p.1) (y := p.2.1) (by omega) (by omega)
    have hkr := keyR (r := p.2.2) (by omega)
    obtain ⟨jm, hj⟩ := hT.mj
    obtain ⟨sm, hs, hx⟩ := hT.ms
    have hnl : n < maxLen := by have := HL.out.1; rw [List.length_cons] at hn; unfold maxLen; omega
    obtain ⟨wa, ra, ma, ga⟩ := MapV.put (w := W'.drew) (show MapV Try.prog W'.drew 120 w.heap.size jm n from hj) law120 Try.underlying100 hnl hkl (.int .i32 p.2.2)
    have oa : Only (fun b => b = w.heap.size) W' wa := (Only.refl _ _).drew.grown ga (fun g e => by injection e with e; exact .inl e.symm)
    obtain ⟨wc, rc, mc, gc⟩ := MapV.put (hs.only oa (by omega)) lawR Try.underlying101 hnl hkr (.agg #[.int .i32 p.1, .int .i32 p.2.1])
    have c2 : W'.cell? ⟨w.heap.size + 1 + 1, 0, none⟩ = some (.map (some w.heap.size)) := hT.bj.cell 0
    have c3 : W'.cell? ⟨w.heap.size + 1 + 1 + 1, 0, none⟩ = some (.map (some (w.heap.size + 1))) := hT.bs.cell 0
    have p0 : W'.cell? ⟨pb, 0, none⟩ = some (.int .i32 p.1) := hP.cell 0
    have p1 : W'.cell? ⟨pb, 1, none⟩ = some (.int .i32 p.2.1) := hP.cell 1
    have hl4 := HT.out.2
    have a2 : wa.cell? ⟨w.heap.size + 1 + 1, 0, none⟩ = some (.map (some w.heap.size)) := (hT.bj.only oa (by omega)).cell 0
    have a3 : wa.cell? ⟨w.heap.size + 1 + 1 + 1, 0, none⟩ = some (.map (some (w.heap.size + 1))) := (hT.bs.only oa (by omega)).cell 0
    have a0 : wa.cell? ⟨pb, 0, none⟩ = some (.int .i32 p.1) := (hP.only oa (by omega)).cell 0
    have a1 : wa.cell? ⟨pb, 1, none⟩ = some (.int .i32 p.2.1) := (hP.only oa (by omega)).cell 1
    have oc : Only (fun b => b = w.heap.size ∨ b = w.heap.size + 1) W' wc := (only_sub oa (fun b e => .inl e)).grown gc (fun g e => by injection e with e; exact .inl (.inr e.symm))
    have k2 : wc.cell? ⟨w.heap.size + 1 + 1, 0, none⟩ = some (.map (some w.heap.size)) := (hT.bj.only oc (by omega)).cell 0
    have k3 : wc.cell? ⟨w.heap.size + 1 + 1 + 1, 0, none⟩ = some (.map (some (w.heap.size + 1))) := (hT.bs.only oc (by omega)).cell 0
    have k0 : wc.cell? ⟨pb, 0, none⟩ = some (.int .i32 p.1) := (hP.only oc (by omega)).cell 0
    have k1 : wc.cell? ⟨pb, 1, none⟩ = some (.int .i32 p.2.1) := (hP.only oc (by omega)).cell 1
    have HSC := Lib.hid (And.intro k2 (And.intro k3 (And.intro k0 k1)))
    clear k0 k1 k2 k3
    have hfree : ∀ x : Int, (∀ q ∈ pairsL, q.2.2 ≠ x) → updV sm (.int .i32 p.2.2) (.agg #[.int .i32 p.1, .int .i32 p.2.1]) (.int .i32 x) = none := fun x h => by
      rw [updV_other _ _ (fun e => h p hmem (by injection e with _ e; exact e.symm))]
      exact hx x h
    have gc' : Only (fun b => b = w.heap.size + 1) wa wc := (Only.refl _ _).grown gc (fun g e => by injection e with e; exact .inl e.symm)
    have fin : ∀ wz, Only (fun b => b = w.heap.size ∨ b = w.heap.size + 1) W' wz → (∃ jm, MapV Try.prog wz 120 w.heap.size jm (n + 1)) → MapV Try.prog wz 21 (w.heap.size + 1) (updV sm (.int .i32 p.2.2) (.agg #[.int .i32 p.1, .int .i32 p.2.1])) (n + 1) →
        roundQT w1.heap.size (fun b => False) S (fun S W' => ∃ n, n + r.length = pairsL.length ∧ TaSt w n W') W' .normal { tmps := #[], defers := [] } wz := fun wz ho h1 h2 =>
      ⟨only_sub ho (fun b hb => .inl ⟨by omega, fun h => h⟩), S, ⟨n + 1, by rw [List.length_cons] at hn; omega, h1, ⟨_, h2, hfree⟩, hT.bj.only ho (by omega), hT.bs.only ho (by omega), hT.below.trans (ho.below hT.below.size (fun b hb hs => by omega))⟩, fun b h => .inl h⟩
    have FC := Lib.hid (fin wc oc ⟨_, ma.only gc' (by omega)⟩ mc)
    clear fin hfree gc' oc oa ga gc ma mc hx hs hj hT hP hkl hkr hnl hok hmem hn hsu
    have wf : ∀ k, Fence.wide.fn k := fun _ => trivial
    have wd' : Fence.wide.depth = none := rfl
    clear hpb hSb hl4 HL HT
    gi_wp2
    have hS0 : (fun w' : World => w'.cell? ⟨w.heap.size + 1 + 1, 0, none⟩ = some (.map (some w.heap.size)) ∧ w'.cell? ⟨w.heap.size + 1 + 1 + 1, 0, none⟩ = some (.map (some (w.heap.size + 1))) ∧ w'.cell? ⟨pb, 0, none⟩ = some (.int .i32 p.1) ∧ w'.cell? ⟨pb, 1, none⟩ = some (.int .i32 p.2.1)) W'.drew := ⟨c2, c3, p0, p1⟩
    have HSD := Lib.hid hS0
    have HSA := Lib.hid (And.intro a2 (And.intro a3 (And.intro a0 a1)))
    clear hS0 c2 c3 p0 p1 a2 a3 a0 a1
    refine wpIn_region_held_round (S := fun w' : World => w'.cell? ⟨w.heap.size + 1 + 1, 0, none⟩ = some (.map (some w.heap.size)) ∧ w'.cell? ⟨w.heap.size + 1 + 1 + 1, 0, none⟩ = some (.map (some (w.heap.size + 1))) ∧ w'.cell? ⟨pb, 0, none⟩ = some (.int .i32 p.1) ∧ w'.cell? ⟨pb, 1, none⟩ = some (.int .i32 p.2.1)) (by kernel_rfl) (by kernel_rfl) (fun ⟨a, w, h⟩ => h) ?_
    simp only [List.size_toArray, List.length_cons, List.length_nil, Nat.reduceAdd, Array.replicate_succ, Array.replicate_zero, List.push_toArray, List.nil_append, List.cons_append]
    refine wpAnyH_take (i := 0) (v := ?_) rfl (by kernel_rfl) (by kernel_rfl) (by kernel_rfl) (fun _ _ _ h => h) (Or.inl ⟨by rfl, ?hy0⟩) HSD.out ?_
    case hy0 =>
      intro wq hq
      obtain ⟨q2, q3, q0, q1⟩ := hq
      go_simp
      rfl
    simp only [Act.put, List.getElem_toArray, List.getElem_cons_zero, List.setIfInBounds_toArray, List.set_cons_zero, List.set_cons_succ]
    refine wpAnyH_take (i := 1) (v := ?_) rfl (by kernel_rfl) (by kernel_rfl) (by kernel_rfl) (fun _ _ _ h => h) (Or.inl ⟨by rfl, ?hy1⟩) HSD.out ?_
    case hy1 =>
      intro wq hq
      obtain ⟨q2, q3, q0, q1⟩ := hq
      go_simp
      rfl
    simp only [Act.put, List.getElem_toArray, List.getElem_cons_succ, List.getElem_cons_zero, List.setIfInBounds_toArray, List.set_cons_zero, List.set_cons_succ]
    refine wpAnyH_take (i := 2) (v := ?_) rfl (by kernel_rfl) (by kernel_rfl) (by kernel_rfl) (fun _ _ _ h => h) (Or.inl ⟨by rfl, ?hy2⟩) HSD.out ?_
    case hy2 =>
      intro wq hq
      obtain ⟨q2, q3, q0, q1⟩ := hq
      go_simp
      rfl
    simp only [Act.put, List.getElem_toArray, List.getElem_cons_succ, List.getElem_cons_zero, List.setIfInBounds_toArray, List.set_cons_zero, List.set_cons_succ]
    refine wpAnyH_take (i := 3) (v := ?_) rfl (by kernel_rfl) (by kernel_rfl) (by kernel_rfl) (fun _ _ _ h => h) (Or.inl ⟨by rfl, ?hy3⟩) HSD.out ?_
    case hy3 =>
      intro wq hq
      obtain ⟨q2, q3, q0, q1⟩ := hq
      go_simp
      rfl
    simp only [Act.put, List.getElem_toArray, List.getElem_cons_succ, List.getElem_cons_zero, List.setIfInBounds_toArray, List.set_cons_zero, List.set_cons_succ]
    refine wpAnyH_take (i := 4) (v := ?_) rfl (by kernel_rfl) (by kernel_rfl) (by kernel_rfl) (fun _ _ _ h => h) (Or.inl ⟨by rfl, ?hy4⟩) HSD.out ?_
    case hy4 =>
      intro wq hq
      obtain ⟨q2, q3, q0, q1⟩ := hq
      go_simp
      rfl
    simp only [Act.put, List.getElem_toArray, List.getElem_cons_succ, List.getElem_cons_zero, List.setIfInBounds_toArray, List.set_cons_zero, List.set_cons_succ]
    refine wpAnyH_take (i := 5) (v := ?_) rfl (by kernel_rfl) (by kernel_rfl) (by kernel_rfl) (fun _ _ _ h => h) (Or.inl ⟨by rfl, ?hy5⟩) HSD.out ?_
    case hy5 =>
      intro wq hq
      obtain ⟨q2, q3, q0, q1⟩ := hq
      go_simp
      rfl
    simp only [Act.put, List.getElem_toArray, List.getElem_cons_succ, List.getElem_cons_zero, List.setIfInBounds_toArray, List.set_cons_zero, List.set_cons_succ]
    refine wpAnyH_ready (rs := [6]) (by kernel_rfl) (by simp) ?_
    refine AllReadyH.cons rfl (fun K hK => ?_) (fun _ h => by cases h)
    go_simp
    refine hK _ _ HSA.out (fun _ => ?_)
    simp only [List.setIfInBounds_toArray, List.set_cons_zero, List.set_cons_succ]
    refine wpAnyH_ready (rs := [7]) (by kernel_rfl) (by simp) ?_
    refine AllReadyH.cons rfl (fun K hK => ?_) (fun _ h => by cases h)
    go_simp
    refine hK _ _ HSC.out (fun _ => ?_)
    refine wpAnyH_done (by kernel_rfl) ?_ _
    exact FC.out
  case done =>
    rintro S W' hSb hBW ⟨n, hn, hT⟩ hmk
    obtain ⟨sm, hs, hx⟩ := hT.ms
    obtain ⟨jm, hj⟩ := hT.mj
    have c2 : W'.cell? ⟨w.heap.size + 1 + 1, 0, none⟩ = some (.map (some w.heap.size)) := hT.bj.cell 0
    have c3 : W'.cell? ⟨w.heap.size + 1 + 1 + 1, 0, none⟩ = some (.map (some (w.heap.size + 1))) := hT.bs.cell 0
    have HW := Lib.hid (And.intro hs (And.intro hx (And.intro hT.below hmk)))
    have HS4 := Lib.hid HT.out.2
    clear hs hx hT hmk hj
    go_wp2
    go_quiet (fail)
    go_wp2
    refine leaves_one (D := w1.heap.size) HW.out.2.2.2 ?_
    intro w' ho
    have hl := HS4.out
    refine ⟨.tuple #[.map (some w.heap.size), .map (some (w.heap.size + 1))], by simp [results, Try.results42, go_sem], some w.heap.size, w.heap.size + 1, sm, n, rfl, by omega, ?_, HW.out.2.1, ?_⟩
    · exact MapV.only HW.out.1 (show Only (fun b => b = w1.heap.size) W' w' from ⟨ho.os, ho.tape, ho.output, ho.size, ho.block⟩) (fun e => by have e : w.heap.size + 1 = w1.heap.size := e; omega)
    · exact HW.out.2.2.1.trans ((show Only (fun b => b = w1.heap.size) W' w' from ⟨ho.os, ho.tape, ho.output, ho.size, ho.block⟩).below HW.out.2.2.1.size (fun b hb e => by have e : b = w1.heap.size := e; omega))
end Go.Proofs.Ytialpfmaekagjaa
