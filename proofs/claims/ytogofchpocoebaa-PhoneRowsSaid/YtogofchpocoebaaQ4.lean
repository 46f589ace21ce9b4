/- phone.table: a map of all rows; phone.is: the test by it. -/
import Derived.Test.YtogofchpocoebaaQ3
namespace Go.Proofs.Ytogofchpocoebaa
open Go.RowKit Go.Maps

/-- what a map of the rows l holds -/
def tabM (l : List (Int × Tr)) : Lit → Option Value
  | .int .i32 r => (tabOf l r).map trV
  | _ => none
theorem tabM_snoc (l : List (Int × Tr)) (x : Int × Tr) (k : Lit) : updV (tabM l) (.int .i32 x.1) (trV x.2) k = tabM (l ++ [x]) k := by
  by_cases h : k = .int .i32 x.1
  · subst h
    rw [updV_same]
    show _ = (tabOf (l ++ [x]) x.1).map trV
    rw [tabOf_snoc, if_pos rfl]
    rfl
  · rw [updV_other _ _ h]
    cases k with
    | int q r =>
      cases q <;> first | rfl | skip
      show (tabOf l r).map trV = (tabOf (l ++ [x]) r).map trV
      rw [tabOf_snoc, if_neg (fun e => h (by rw [e]))]
    | _ => rfl
/-- block b holds the table -/
def TabIs (w : World) (b : Nat) : Prop := MapV Try.prog w 21 b (tabM rowsL) 38
theorem lawR : Keyed Try.prog 21 := int_keyed Try.underlying21
theorem wf32 {r : Int} (h : -2147483648 ≤ r ∧ r ≤ 2147483647) : (Lit.int .i32 r).wf = true := by
  simp only [Lit.wf, Bool.and_eq_true, decide_eq_true_eq]
  have h1 : IntKind.i32.min = -2147483648 := by decide
  have h2 : IntKind.i32.max = 2147483647 := by decide
  rw [h1, h2]
  exact h
theorem keyR {r : Int} (h : -2147483648 ≤ r ∧ r ≤ 2147483647) : keyOf Try.prog 21 (.int .i32 r) = some (.int .i32 r) := Maps.keyOf_int_mk Try.underlying21 (wf32 h)
theorem zero56 (w : World) : (zeroValue 56).run Try.prog w = .ok (trV tr0) w := by kernel_rfl

/-- memory while table runs -/
structure TbSt (w0 : World) (B : Nat) (A : Option Addr) (i : Nat) (W : World) : Prop where
  mp : MapV Try.prog W 21 w0.heap.size (tabM (rowsL.take i)) i
  rd : Rd W (w0.heap.size + 1) B 8 A 38 (rws rowsL)
  below : Below w0.heap.size w0 W
  bB : B ≤ W.heap.size
  lb : w0.heap.size < B
theorem rows_small' : (rowsL.all fun x => decide (-2147483648 ≤ x.1) && decide (x.1 ≤ 2147483647)) = true := by decide +kernel

set_option maxHeartbeats 4000000 in
set_option maxRecDepth 100000 in
theorem table_any (w : World) : Calls Try.prog 113 #[] w fun e w' => ∃ b, e = .returned (.map (some b)) ∧ w.heap.size ≤ b ∧ TabIs w' b ∧ Below w.heap.size w w' := by
  have hmm := @run_makeMap Try.prog
  go_enter Try.func113, Try.ntmps113
  go_upto_region 2 with (fail)
  clear hmm
  refine wp_abs (fun wx => MapV Try.prog wx 21 w.heap.size (fun _ => none) 0 ∧ Below w.heap.size w wx) ⟨MapV.made Try.prog w 21, (Below.refl _ _).alloc (Nat.le_refl _) _⟩ ?_
  rintro w1 ⟨hm, hb⟩
  have HM := Lib.hid (And.intro hm hb)
  clear hm hb
  go_wp2_with fail
  refine (rows_any w1).mono ?_
  rintro e w2 ⟨v, rfl, ho, hb⟩
  obtain ⟨A, c, rfl⟩ := own_slice ho
  have hcap := own_cap ho
  have l1 := HM.out.1.lt
  have hT : TbSt w w2.heap.size A 0 w2 := ⟨(HM.out.1.on hb).congr (fun l => by cases l with | int q r => (cases q <;> rfl) | _ => rfl), (own_rd ho).more (by omega) (Nat.le_refl _), HM.out.2.trans (hb.mono (by omega)), Nat.le_refl _, Nat.lt_of_lt_of_le l1 hb.size⟩
  have HT := Lib.hid hT
  clear hT ho hb HM l1
  go_wp2
  go_loopw [3, 7] (fun v3 iv wr => ∃ i : Nat, i ≤ 38 ∧ iv = .int .i64 i ∧ Hid (TbSt w w2.heap.size A i wr)) (fun _ iv _ => 38 - (intOf iv).toNat)
  case atStart => exact ⟨0, by omega, rfl, HT⟩
  case round =>
    obtain ⟨i, hi, rfl, H⟩ := hrel
    clear HT
    by_cases hlt : i < 38
    · obtain ⟨b, o, hl, rfl, hL, hB, hc⟩ := Rd.flat rowC_len (by omega) H.out.rd hlt
      have hx := (List.all_eq_true.1 rows_small') _ (List.getElem_mem hl)
      have hsn : rowsL.take (i + 1) = rowsL.take i ++ [rowsL[i]] := List.take_succ_eq_append_getElem hl
      generalize rowsL[i] = x at hc hx hsn
      have HSN := Lib.hid hsn
      have hk : keyOf Try.prog 21 (.int .i32 x.1) = some (.int .i32 x.1) := keyR (by simpa using hx)
      have HK := Lib.hid hk
      have d0 : wr.cell? ⟨b, o + i * 8, none⟩ = some (.int .i32 x.1) := hc 0 _ rfl
      have d1 := hc 1 _ rfl
      have d2 := hc 2 _ rfl
      have d3 := hc 3 _ rfl
      have d4 := hc 4 _ rfl
      have d5 := hc 5 _ rfl
      have d6 := hc 6 _ rfl
      have d7 := hc 7 _ rfl
      clear hc hx hsn hk
      go_wp2_with (at_mapUpdate; refine wpList_putV _ rfl _ _ _ 164 rfl 21 56 lawR Try.underlying164 w.heap.size i _ rfl (H.out.mp.on ((Below.refl _ _).alloc (Nat.le_refl _) _)) (by unfold maxLen; omega) _ _ rfl _ rfl HK.out ?_; intro w4 hm hg; have HN := Lib.hid (And.intro hm hg); clear hm hg)
      go_roundw
      case rel =>
        have hO : Only (fun k => k = w.heap.size) wr w4 := ((Only.refl _ wr).alloc _).grown HN.out.2 (fun g e => by injection e with e; exact .inl e.symm)
        have hlb := H.out.lb
        refine ⟨i + 1, by omega, by go_num, Lib.hid ⟨HN.out.1.congr (fun l => (tabM_snoc _ x l).trans (by rw [HSN.out])), ?_, H.out.below.trans (hO.below H.out.below.size (fun k hk e => by omega)), Nat.le_trans H.out.bB hO.size, hlb⟩⟩
        exact H.out.rd.keep (fun b' o' h1 h2 => hO.cell (Nat.lt_of_lt_of_le h2 H.out.bB) (by omega))
      case measure => simp [intOf]; omega
    · obtain rfl : i = 38 := by omega
      go_wp2
      go_ret
      exact ⟨_, rfl, Nat.le_refl _, H.out.mp.congr (fun l => by rw [List.take_of_length_le (by rw [rowsL_len]; omega)]), H.out.below⟩

theorem tab_look {w : World} {b : Nat} (h : TabIs w b) {r : Int} (hr : -2147483648 ≤ r ∧ r ≤ 2147483647) :
    (Instr.lookup 164 (.map (some b)) (.int .i32 r) true).run Try.prog w = .ok (.tuple #[trV (traits r), .bool (tabF r).isSome]) w ∧ (Instr.lookup 164 (.map (some b)) (.int .i32 r) false).run Try.prog w = .ok (trV (traits r)) w := by
  have h1 := MapV.look_ok h lawR Try.underlying164 (zero56 w) (keyR hr)
  have h2 := MapV.look h lawR Try.underlying164 (zero56 w) (keyR hr)
  have e1 : tabM rowsL (.int .i32 r) = (tabF r).map trV := rfl
  rw [h1, h2, e1]
  unfold traits
  cases tabF r <;> exact ⟨rfl, rfl⟩
theorem TabIs.drew {w : World} {b : Nat} (h : TabIs w b) : TabIs w.drew b := h
theorem TabIs.drewN {w : World} {b : Nat} (h : TabIs w b) (n : Nat) : TabIs (w.drewN n) b := h
theorem TabIs.on {w w' : World} {b : Nat} (h : TabIs w b) (hb : Below w.heap.size w w') : TabIs w' b := MapV.on h hb
theorem TabIs.below {w w' : World} {b B : Nat} (h : TabIs w b) (hb : Below B w w') (hB : b < B) : TabIs w' b := MapV.below h hb hB
theorem TabIs.lt {w : World} {b : Nat} (h : TabIs w b) : b < w.heap.size := MapV.lt h
theorem TabIs.only {S : Nat → Prop} {w w' : World} {b : Nat} (h : TabIs w b) (ho : Only S w w') (hS : ¬ S b) : TabIs w' b := MapV.only h ho hS

/-- a rune's range -/
def fit32 (r : Int) : Prop := -2147483648 ≤ r ∧ r ≤ 2147483647

set_option maxHeartbeats 2000000 in
set_option maxRecDepth 100000 in
theorem is_any (b : Nat) (p : Ph) (w : World) (h : TabIs w b) (hr : fit32 p.1) : Calls Try.prog 114 #[.map (some b), .agg #[.int .i32 p.1, .bool p.2.1, .int .i32 p.2.2]] w fun e w' => e = .returned (.bool (isF p)) ∧ Below w.heap.size w w' := by
  obtain ⟨r, lg, g⟩ := p
  show Calls Try.prog 114 #[.map (some b), .agg #[.int .i32 r, .bool lg, .int .i32 g]] w _
  have hl := (tab_look (h.on ((Below.refl _ w).alloc (Nat.le_refl _) (.cells #[.int .i32 r, .bool lg, .int .i32 g] 43))) hr).1
  have ht : trV (traits r) = .agg #[.bool (traits r).vow, .int .i64 (traits r).hgt, .int .i64 (traits r).bck, .bool (traits r).rnd, .int .i64 (traits r).plc, .int .i64 (traits r).mnr, .bool (traits r).vcd] := rfl
  rw [ht] at hl
  have hv : isF (r, lg, g) = ((tabF r).isSome && (decide (g = 0) || ((traits r).vow && (decide (g = 105) || decide (g = 117))))) := rfl
  have HV := Lib.hid hv
  clear hv ht
  generalize traits r = t at *
  generalize (tabF r).isSome = ok at *
  go_enter Try.func114, Try.ntmps114
  go_wp2
  all_goals
    go_ret
    refine ⟨ret_bool ?_, ((Below.refl _ _).alloc (Nat.le_refl _) _).alloc (by simp) _⟩
    subst_vars
    rw [HV.out]
    first
      | (simp [*]; done)
      | (rw [Bool.eq_iff_iff]; simp [*])
end Go.Proofs.Ytogofchpocoebaa
