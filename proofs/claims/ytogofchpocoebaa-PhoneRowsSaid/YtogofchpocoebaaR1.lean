/- The reference's rows: vowel, consonant, Rows. -/
import Derived.Test.YtogofchpocoebaaQ12
import Derived.BigQuiet
import Derived.Great.Walk
namespace Go.Proofs.Ytogofchpocoebaa
open Go.RowKit Go.Maps

theorem wp_sliceTo {P : Program} {o : Oper} {a : Act} {w : World} {K : Act → World → Prop} {Q : Exit → Act → World → Prop} (t e : TypeId) (len : Nat) (parts : Array (Nat × Operand)) (ho : o.op = .buildSlice t len parts)
    (N : Nat) (hN : w.heap.size = N) (hu : P.underlying t = some (.slice e)) (cells : Array Value)
    (hf : P.builtSlice e len (parts.map fun (i, x) => (i, a.eval x)).toList = some cells)
    (h : K (a.put o.dst (.slice (some ⟨N, 0, none⟩) len len)) (w.alloc (.cells cells e))) : o.wp P a w K Q := by
  subst hN
  unfold Program.builtSlice at hf
  cases hie : P.info? e with
  | none => simp [hie] at hf
  | some ie =>
    simp only [hie] at hf
    cases hz : ie.zero with
    | none => simp [hz] at hf
    | some z =>
      simp only [hz] at hf
      by_cases hc : len * ie.size > 2 ^ 24 ∨ len * ie.size = 0
      · simp [hc] at hf
      · rw [if_neg hc] at hf
        exact wp_buildSlice t e len parts ho cells ie z hu hie hz (fun h' => hc (Or.inl h')) (fun h' => hc (Or.inr h')) hf h

theorem rws_set8 (l : List (Int × Tr)) (k : Nat) (x : Int × Tr) (hk : k < l.length) :
    ((((((((rws l).set (k * 8) (.int .i32 x.1)).set (k * 8 + 1) (.bool x.2.vow)).set (k * 8 + 2) (.int .i64 x.2.hgt)).set (k * 8 + 3) (.int .i64 x.2.bck)).set (k * 8 + 4) (.bool x.2.rnd)).set (k * 8 + 5) (.int .i64 x.2.plc)).set (k * 8 + 6) (.int .i64 x.2.mnr)).set (k * 8 + 7) (.bool x.2.vcd) = rws (l.set k x) := by
  induction l generalizing k with
  | nil => simp at hk
  | cons a l ih =>
    rcases k with _ | k
    · simp [rws, rowC, trC]
    · have := ih k (by simpa using hk)
      simp only [rws, List.flatMap_cons] at this ⊢
      simp only [show (k + 1) * 8 = k * 8 + 8 by omega, show ∀ i, (k * 8 + 8) + i = (k * 8 + i) + 8 by intro i; omega]
      simp only [rowC, trC, List.cons_append, List.nil_append, List.set_cons_succ]
      rw [this]
      rfl

theorem row_put {B : Nat} {w0 w : World} {g : Nat} {l : List (Int × Tr)} {k : Nat} (x : Int × Tr) (hb : Below B w0 w) (hB : Blk w g 65 (rws l).toArray) (hg : B ≤ g) (hk : k < l.length) :
    Below B w0 ((((((((w.setCell ⟨g, k * 8, none⟩ (.int .i32 x.1)).setCell ⟨g, k * 8 + 1, none⟩ (.bool x.2.vow)).setCell ⟨g, k * 8 + 2, none⟩ (.int .i64 x.2.hgt)).setCell ⟨g, k * 8 + 3, none⟩ (.int .i64 x.2.bck)).setCell ⟨g, k * 8 + 4, none⟩ (.bool x.2.rnd)).setCell ⟨g, k * 8 + 5, none⟩ (.int .i64 x.2.plc)).setCell ⟨g, k * 8 + 6, none⟩ (.int .i64 x.2.mnr)).setCell ⟨g, k * 8 + 7, none⟩ (.bool x.2.vcd)) ∧
    Blk ((((((((w.setCell ⟨g, k * 8, none⟩ (.int .i32 x.1)).setCell ⟨g, k * 8 + 1, none⟩ (.bool x.2.vow)).setCell ⟨g, k * 8 + 2, none⟩ (.int .i64 x.2.hgt)).setCell ⟨g, k * 8 + 3, none⟩ (.int .i64 x.2.bck)).setCell ⟨g, k * 8 + 4, none⟩ (.bool x.2.rnd)).setCell ⟨g, k * 8 + 5, none⟩ (.int .i64 x.2.plc)).setCell ⟨g, k * 8 + 6, none⟩ (.int .i64 x.2.mnr)).setCell ⟨g, k * 8 + 7, none⟩ (.bool x.2.vcd)) g 65 (rws (l.set k x)).toArray := by
  refine ⟨(((((((hb.setCell hg _).setCell hg _).setCell hg _).setCell hg _).setCell hg _).setCell hg _).setCell hg _).setCell hg _, ?_⟩
  have h := (((((((hB.set_ (k * 8) (.int .i32 x.1)).set_ (k * 8 + 1) (.bool x.2.vow)).set_ (k * 8 + 2) (.int .i64 x.2.hgt)).set_ (k * 8 + 3) (.int .i64 x.2.bck)).set_ (k * 8 + 4) (.bool x.2.rnd)).set_ (k * 8 + 5) (.int .i64 x.2.plc)).set_ (k * 8 + 6) (.int .i64 x.2.mnr)).set_ (k * 8 + 7) (.bool x.2.vcd)
  simp only [List.setIfInBounds_toArray] at h
  rwa [rws_set8 l k x hk] at h

theorem vowel_any (r h b : Int) (rd : Bool) (w : World) : Calls Try.prog 122 #[.int .i32 r, .int .i64 h, .int .i64 b, .bool rd] w fun e w' => e = .returned (.agg #[.int .i32 r, .bool true, .int .i64 h, .int .i64 b, .bool rd, .int .i64 0, .int .i64 0, .bool false]) ∧ Below w.heap.size w w' := by
  go_enter Try.func122, Try.ntmps122
  go_wp2
  refine bodyPost_ret (v := .agg #[.int .i32 r, .bool true, .int .i64 h, .int .i64 b, .bool rd, .int .i64 0, .int .i64 0, .bool false]) (by simp [results, Try.results122, go_sem]) rfl ?_
  exact ⟨rfl, (Below.refl _ _).alloc (Nat.le_refl _) _⟩
theorem consonant_any (r h b : Int) (rd : Bool) (w : World) : Calls Try.prog 123 #[.int .i32 r, .int .i64 h, .int .i64 b, .bool rd] w fun e w' => e = .returned (.agg #[.int .i32 r, .bool false, .int .i64 0, .int .i64 0, .bool false, .int .i64 h, .int .i64 b, .bool rd]) ∧ Below w.heap.size w w' := by
  go_enter Try.func123, Try.ntmps123
  go_wp2
  refine bodyPost_ret (v := .agg #[.int .i32 r, .bool false, .int .i64 0, .int .i64 0, .bool false, .int .i64 h, .int .i64 b, .bool rd]) (by simp [results, Try.results123, go_sem]) rfl ?_
  exact ⟨rfl, (Below.refl _ _).alloc (Nat.le_refl _) _⟩

/-- the reference's rows, as written; sorted -/
def refL0 : List (Int × Tr) := [(105, true, 6, 0, false, 0, 0, false), (121, true, 6, 0, true, 0, 0, false), (117, true, 6, 2, true, 0, 0, false), (101, true, 4, 0, false, 0, 0, false), (248, true, 4, 0, true, 0, 0, false), (111, true, 4, 2, true, 0, 0, false), (601, true, 3, 1, false, 0, 0, false), (603, true, 2, 0, false, 0, 0, false), (596, true, 2, 2, true, 0, 0, false), (230, true, 1, 0, false, 0, 0, false), (97, true, 0, 1, false, 0, 0, false), (593, true, 0, 2, false, 0, 0, false), (112, false, 0, 0, false, 0, 0, false), (98, false, 0, 0, false, 0, 0, true), (116, false, 0, 0, false, 2, 0, false), (100, false, 0, 0, false, 2, 0, true), (107, false, 0, 0, false, 5, 0, false), (103, false, 0, 0, false, 5, 0, true), (660, false, 0, 0, false, 6, 0, false), (679, false, 0, 0, false, 3, 1, false), (676, false, 0, 0, false, 3, 1, true), (102, false, 0, 0, false, 0, 2, false), (118, false, 0, 0, false, 0, 2, true), (952, false, 0, 0, false, 1, 2, false), (240, false, 0, 0, false, 1, 2, true), (115, false, 0, 0, false, 2, 2, false), (122, false, 0, 0, false, 2, 2, true), (643, false, 0, 0, false, 3, 2, false), (658, false, 0, 0, false, 3, 2, true), (120, false, 0, 0, false, 5, 2, false), (104, false, 0, 0, false, 6, 2, false), (109, false, 0, 0, false, 0, 3, true), (110, false, 0, 0, false, 2, 3, true), (331, false, 0, 0, false, 5, 3, true), (108, false, 0, 0, false, 2, 4, true), (114, false, 0, 0, false, 3, 4, true), (119, false, 0, 0, false, 0, 5, true), (106, false, 0, 0, false, 4, 5, true)]
/-- exchange with the one ahead, as long as that is greater -/
def sinkR (l : List (Int × Tr)) : Nat → List (Int × Tr)
  | 0 => l
  | k + 1 => if (l.getD (k + 1) (0, tr0)).1 < (l.getD k (0, tr0)).1 then sinkR ((l.set (k + 1) (l.getD k (0, tr0))).set k (l.getD (k + 1) (0, tr0))) k else l
def refLn : Nat → List (Int × Tr)
  | 0 => refL0
  | i + 1 => sinkR (refLn i) i
theorem refLn_end : refLn 38 = rowsL := by kernel_rfl
theorem sinkR_len (l : List (Int × Tr)) (k : Nat) : (sinkR l k).length = l.length := by
  induction k generalizing l with
  | zero => rfl
  | succ k ih => unfold sinkR; split <;> simp [ih]
theorem refLn_len (i : Nat) : (refLn i).length = 38 := by
  induction i with
  | zero => rfl
  | succ i ih => rw [refLn, sinkR_len, ih]
set_option maxHeartbeats 4000000 in
set_option maxRecDepth 100000 in
theorem refRows_any (w : World) : Calls Try.prog 55 #[] w fun e w' => ∃ g, e = .returned (.slice (some ⟨g, 0, none⟩) 38 38) ∧ Blk w' g 65 (rws rowsL).toArray ∧ Below w.heap.size w w' ∧ w.heap.size ≤ g := by
  go_enter Try.func55, Try.ntmps55
  go_wp2_with fail
  refine (vowel_any _ _ _ _ _).mono ?_
  rintro e w1 ⟨rfl, hb⟩
  have H1 : Hid (Below w.heap.size w w1) := Lib.hid (hb)
  clear hb
  go_wp2_with fail
  refine (vowel_any _ _ _ _ _).mono ?_
  rintro e w2 ⟨rfl, hb⟩
  have H2 : Hid (Below w.heap.size w w2) := Lib.hid ((H1.out.trans (hb.mono H1.out.size)))
  clear hb H1
  go_wp2_with fail
  refine (vowel_any _ _ _ _ _).mono ?_
  rintro e w3 ⟨rfl, hb⟩
  have H3 : Hid (Below w.heap.size w w3) := Lib.hid ((H2.out.trans (hb.mono H2.out.size)))
  clear hb H2
  go_wp2_with fail
  refine (vowel_any _ _ _ _ _).mono ?_
  rintro e w4 ⟨rfl, hb⟩
  have H4 : Hid (Below w.heap.size w w4) := Lib.hid ((H3.out.trans (hb.mono H3.out.size)))
  clear hb H3
  go_wp2_with fail
  refine (vowel_any _ _ _ _ _).mono ?_
  rintro e w5 ⟨rfl, hb⟩
  have H5 : Hid (Below w.heap.size w w5) := Lib.hid ((H4.out.trans (hb.mono H4.out.size)))
  clear hb H4
  go_wp2_with fail
  refine (vowel_any _ _ _ _ _).mono ?_
  rintro e w6 ⟨rfl, hb⟩
  have H6 : Hid (Below w.heap.size w w6) := Lib.hid ((H5.out.trans (hb.mono H5.out.size)))
  clear hb H5
  go_wp2_with fail
  refine (vowel_any _ _ _ _ _).mono ?_
  rintro e w7 ⟨rfl, hb⟩
  have H7 : Hid (Below w.heap.size w w7) := Lib.hid ((H6.out.trans (hb.mono H6.out.size)))
  clear hb H6
  go_wp2_with fail
  refine (vowel_any _ _ _ _ _).mono ?_
  rintro e w8 ⟨rfl, hb⟩
  have H8 : Hid (Below w.heap.size w w8) := Lib.hid ((H7.out.trans (hb.mono H7.out.size)))
  clear hb H7
  go_wp2_with fail
  refine (vowel_any _ _ _ _ _).mono ?_
  rintro e w9 ⟨rfl, hb⟩
  have H9 : Hid (Below w.heap.size w w9) := Lib.hid ((H8.out.trans (hb.mono H8.out.size)))
  clear hb H8
  go_wp2_with fail
  refine (vowel_any _ _ _ _ _).mono ?_
  rintro e w10 ⟨rfl, hb⟩
  have H10 : Hid (Below w.heap.size w w10) := Lib.hid ((H9.out.trans (hb.mono H9.out.size)))
  clear hb H9
  go_wp2_with fail
  refine (vowel_any _ _ _ _ _).mono ?_
  rintro e w11 ⟨rfl, hb⟩
  have H11 : Hid (Below w.heap.size w w11) := Lib.hid ((H10.out.trans (hb.mono H10.out.size)))
  clear hb H10
  go_wp2_with fail
  refine (vowel_any _ _ _ _ _).mono ?_
  rintro e w12 ⟨rfl, hb⟩
  have H12 : Hid (Below w.heap.size w w12) := Lib.hid ((H11.out.trans (hb.mono H11.out.size)))
  clear hb H11
  go_wp2_with fail
  refine (consonant_any _ _ _ _ _).mono ?_
  rintro e w13 ⟨rfl, hb⟩
  have H13 : Hid (Below w.heap.size w w13) := Lib.hid ((H12.out.trans (hb.mono H12.out.size)))
  clear hb H12
  go_wp2_with fail
  refine (consonant_any _ _ _ _ _).mono ?_
  rintro e w14 ⟨rfl, hb⟩
  have H14 : Hid (Below w.heap.size w w14) := Lib.hid ((H13.out.trans (hb.mono H13.out.size)))
  clear hb H13
  go_wp2_with fail
  refine (consonant_any _ _ _ _ _).mono ?_
  rintro e w15 ⟨rfl, hb⟩
  have H15 : Hid (Below w.heap.size w w15) := Lib.hid ((H14.out.trans (hb.mono H14.out.size)))
  clear hb H14
  go_wp2_with fail
  refine (consonant_any _ _ _ _ _).mono ?_
  rintro e w16 ⟨rfl, hb⟩
  have H16 : Hid (Below w.heap.size w w16) := Lib.hid ((H15.out.trans (hb.mono H15.out.size)))
  clear hb H15
  go_wp2_with fail
  refine (consonant_any _ _ _ _ _).mono ?_
  rintro e w17 ⟨rfl, hb⟩
  have H17 : Hid (Below w.heap.size w w17) := Lib.hid ((H16.out.trans (hb.mono H16.out.size)))
  clear hb H16
  go_wp2_with fail
  refine (consonant_any _ _ _ _ _).mono ?_
  rintro e w18 ⟨rfl, hb⟩
  have H18 : Hid (Below w.heap.size w w18) := Lib.hid ((H17.out.trans (hb.mono H17.out.size)))
  clear hb H17
  go_wp2_with fail
  refine (consonant_any _ _ _ _ _).mono ?_
  rintro e w19 ⟨rfl, hb⟩
  have H19 : Hid (Below w.heap.size w w19) := Lib.hid ((H18.out.trans (hb.mono H18.out.size)))
  clear hb H18
  go_wp2_with fail
  refine (consonant_any _ _ _ _ _).mono ?_
  rintro e w20 ⟨rfl, hb⟩
  have H20 : Hid (Below w.heap.size w w20) := Lib.hid ((H19.out.trans (hb.mono H19.out.size)))
  clear hb H19
  go_wp2_with fail
  refine (consonant_any _ _ _ _ _).mono ?_
  rintro e w21 ⟨rfl, hb⟩
  have H21 : Hid (Below w.heap.size w w21) := Lib.hid ((H20.out.trans (hb.mono H20.out.size)))
  clear hb H20
  go_wp2_with fail
  refine (consonant_any _ _ _ _ _).mono ?_
  rintro e w22 ⟨rfl, hb⟩
  have H22 : Hid (Below w.heap.size w w22) := Lib.hid ((H21.out.trans (hb.mono H21.out.size)))
  clear hb H21
  go_wp2_with fail
  refine (consonant_any _ _ _ _ _).mono ?_
  rintro e w23 ⟨rfl, hb⟩
  have H23 : Hid (Below w.heap.size w w23) := Lib.hid ((H22.out.trans (hb.mono H22.out.size)))
  clear hb H22
  go_wp2_with fail
  refine (consonant_any _ _ _ _ _).mono ?_
  rintro e w24 ⟨rfl, hb⟩
  have H24 : Hid (Below w.heap.size w w24) := Lib.hid ((H23.out.trans (hb.mono H23.out.size)))
  clear hb H23
  go_wp2_with fail
  refine (consonant_any _ _ _ _ _).mono ?_
  rintro e w25 ⟨rfl, hb⟩
  have H25 : Hid (Below w.heap.size w w25) := Lib.hid ((H24.out.trans (hb.mono H24.out.size)))
  clear hb H24
  go_wp2_with fail
  refine (consonant_any _ _ _ _ _).mono ?_
  rintro e w26 ⟨rfl, hb⟩
  have H26 : Hid (Below w.heap.size w w26) := Lib.hid ((H25.out.trans (hb.mono H25.out.size)))
  clear hb H25
  go_wp2_with fail
  refine (consonant_any _ _ _ _ _).mono ?_
  rintro e w27 ⟨rfl, hb⟩
  have H27 : Hid (Below w.heap.size w w27) := Lib.hid ((H26.out.trans (hb.mono H26.out.size)))
  clear hb H26
  go_wp2_with fail
  refine (consonant_any _ _ _ _ _).mono ?_
  rintro e w28 ⟨rfl, hb⟩
  have H28 : Hid (Below w.heap.size w w28) := Lib.hid ((H27.out.trans (hb.mono H27.out.size)))
  clear hb H27
  go_wp2_with fail
  refine (consonant_any _ _ _ _ _).mono ?_
  rintro e w29 ⟨rfl, hb⟩
  have H29 : Hid (Below w.heap.size w w29) := Lib.hid ((H28.out.trans (hb.mono H28.out.size)))
  clear hb H28
  go_wp2_with fail
  refine (consonant_any _ _ _ _ _).mono ?_
  rintro e w30 ⟨rfl, hb⟩
  have H30 : Hid (Below w.heap.size w w30) := Lib.hid ((H29.out.trans (hb.mono H29.out.size)))
  clear hb H29
  go_wp2_with fail
  refine (consonant_any _ _ _ _ _).mono ?_
  rintro e w31 ⟨rfl, hb⟩
  have H31 : Hid (Below w.heap.size w w31) := Lib.hid ((H30.out.trans (hb.mono H30.out.size)))
  clear hb H30
  go_wp2_with fail
  refine (consonant_any _ _ _ _ _).mono ?_
  rintro e w32 ⟨rfl, hb⟩
  have H32 : Hid (Below w.heap.size w w32) := Lib.hid ((H31.out.trans (hb.mono H31.out.size)))
  clear hb H31
  go_wp2_with fail
  refine (consonant_any _ _ _ _ _).mono ?_
  rintro e w33 ⟨rfl, hb⟩
  have H33 : Hid (Below w.heap.size w w33) := Lib.hid ((H32.out.trans (hb.mono H32.out.size)))
  clear hb H32
  go_wp2_with fail
  refine (consonant_any _ _ _ _ _).mono ?_
  rintro e w34 ⟨rfl, hb⟩
  have H34 : Hid (Below w.heap.size w w34) := Lib.hid ((H33.out.trans (hb.mono H33.out.size)))
  clear hb H33
  go_wp2_with fail
  refine (consonant_any _ _ _ _ _).mono ?_
  rintro e w35 ⟨rfl, hb⟩
  have H35 : Hid (Below w.heap.size w w35) := Lib.hid ((H34.out.trans (hb.mono H34.out.size)))
  clear hb H34
  go_wp2_with fail
  refine (consonant_any _ _ _ _ _).mono ?_
  rintro e w36 ⟨rfl, hb⟩
  have H36 : Hid (Below w.heap.size w w36) := Lib.hid ((H35.out.trans (hb.mono H35.out.size)))
  clear hb H35
  go_wp2_with fail
  refine (consonant_any _ _ _ _ _).mono ?_
  rintro e w37 ⟨rfl, hb⟩
  have H37 : Hid (Below w.heap.size w w37) := Lib.hid ((H36.out.trans (hb.mono H36.out.size)))
  clear hb H36
  go_wp2_with fail
  refine (consonant_any _ _ _ _ _).mono ?_
  rintro e w38 ⟨rfl, hb⟩
  have H38 : Hid (Below w.heap.size w w38) := Lib.hid ((H37.out.trans (hb.mono H37.out.size)))
  clear hb H37
  go_wp2_with fail
  refine wp_sliceTo 59 65 38 ?parts ?ho w38.heap.size ?hN Try.underlying59 (rws refL0).toArray ?hf ?hk
  case ho => rfl
  case hN => rfl
  case hf => kernel_rfl
  go_upto_region 2 with (fail)
  refine wp_abs (fun wx => Below w.heap.size w wx ∧ Blk wx w38.heap.size 65 (rws refL0).toArray) ⟨H38.out.trans (((Below.refl _ _).alloc (Nat.le_refl _) _).mono H38.out.size), Blk.new _ _ _⟩ ?_
  have hg0 := H38.out.size
  clear H38
  generalize w38.heap.size = g at *
  rintro wx hx
  have HX := Lib.hid hx
  clear hx
  generalize (Value.agg #[Value.int .i32 105, Value.bool true, Value.int .i64 6, Value.int .i64 0, Value.bool false, Value.int .i64 0, Value.int .i64 0, Value.bool false]) = z0
  generalize (Value.agg #[Value.int .i32 121, Value.bool true, Value.int .i64 6, Value.int .i64 0, Value.bool true, Value.int .i64 0, Value.int .i64 0, Value.bool false]) = z1
  generalize (Value.agg #[Value.int .i32 117, Value.bool true, Value.int .i64 6, Value.int .i64 2, Value.bool true, Value.int .i64 0, Value.int .i64 0, Value.bool false]) = z2
  generalize (Value.agg #[Value.int .i32 101, Value.bool true, Value.int .i64 4, Value.int .i64 0, Value.bool false, Value.int .i64 0, Value.int .i64 0, Value.bool false]) = z3
  generalize (Value.agg #[Value.int .i32 248, Value.bool true, Value.int .i64 4, Value.int .i64 0, Value.bool true, Value.int .i64 0, Value.int .i64 0, Value.bool false]) = z4
  generalize (Value.agg #[Value.int .i32 111, Value.bool true, Value.int .i64 4, Value.int .i64 2, Value.bool true, Value.int .i64 0, Value.int .i64 0, Value.bool false]) = z5
  generalize (Value.agg #[Value.int .i32 601, Value.bool true, Value.int .i64 3, Value.int .i64 1, Value.bool false, Value.int .i64 0, Value.int .i64 0, Value.bool false]) = z6
  generalize (Value.agg #[Value.int .i32 603, Value.bool true, Value.int .i64 2, Value.int .i64 0, Value.bool false, Value.int .i64 0, Value.int .i64 0, Value.bool false]) = z7
  generalize (Value.agg #[Value.int .i32 596, Value.bool true, Value.int .i64 2, Value.int .i64 2, Value.bool true, Value.int .i64 0, Value.int .i64 0, Value.bool false]) = z8
  generalize (Value.agg #[Value.int .i32 230, Value.bool true, Value.int .i64 1, Value.int .i64 0, Value.bool false, Value.int .i64 0, Value.int .i64 0, Value.bool false]) = z9
  generalize (Value.agg #[Value.int .i32 97, Value.bool true, Value.int .i64 0, Value.int .i64 1, Value.bool false, Value.int .i64 0, Value.int .i64 0, Value.bool false]) = z10
  generalize (Value.agg #[Value.int .i32 593, Value.bool true, Value.int .i64 0, Value.int .i64 2, Value.bool false, Value.int .i64 0, Value.int .i64 0, Value.bool false]) = z11
  generalize (Value.agg #[Value.int .i32 112, Value.bool false, Value.int .i64 0, Value.int .i64 0, Value.bool false, Value.int .i64 0, Value.int .i64 0, Value.bool false]) = z12
  generalize (Value.agg #[Value.int .i32 98, Value.bool false, Value.int .i64 0, Value.int .i64 0, Value.bool false, Value.int .i64 0, Value.int .i64 0, Value.bool true]) = z13
  generalize (Value.agg #[Value.int .i32 116, Value.bool false, Value.int .i64 0, Value.int .i64 0, Value.bool false, Value.int .i64 2, Value.int .i64 0, Value.bool false]) = z14
  generalize (Value.agg #[Value.int .i32 100, Value.bool false, Value.int .i64 0, Value.int .i64 0, Value.bool false, Value.int .i64 2, Value.int .i64 0, Value.bool true]) = z15
  generalize (Value.agg #[Value.int .i32 107, Value.bool false, Value.int .i64 0, Value.int .i64 0, Value.bool false, Value.int .i64 5, Value.int .i64 0, Value.bool false]) = z16
  generalize (Value.agg #[Value.int .i32 103, Value.bool false, Value.int .i64 0, Value.int .i64 0, Value.bool false, Value.int .i64 5, Value.int .i64 0, Value.bool true]) = z17
  generalize (Value.agg #[Value.int .i32 660, Value.bool false, Value.int .i64 0, Value.int .i64 0, Value.bool false, Value.int .i64 6, Value.int .i64 0, Value.bool false]) = z18
  generalize (Value.agg #[Value.int .i32 679, Value.bool false, Value.int .i64 0, Value.int .i64 0, Value.bool false, Value.int .i64 3, Value.int .i64 1, Value.bool false]) = z19
  generalize (Value.agg #[Value.int .i32 676, Value.bool false, Value.int .i64 0, Value.int .i64 0, Value.bool false, Value.int .i64 3, Value.int .i64 1, Value.bool true]) = z20
  generalize (Value.agg #[Value.int .i32 102, Value.bool false, Value.int .i64 0, Value.int .i64 0, Value.bool false, Value.int .i64 0, Value.int .i64 2, Value.bool false]) = z21
  generalize (Value.agg #[Value.int .i32 118, Value.bool false, Value.int .i64 0, Value.int .i64 0, Value.bool false, Value.int .i64 0, Value.int .i64 2, Value.bool true]) = z22
  generalize (Value.agg #[Value.int .i32 952, Value.bool false, Value.int .i64 0, Value.int .i64 0, Value.bool false, Value.int .i64 1, Value.int .i64 2, Value.bool false]) = z23
  generalize (Value.agg #[Value.int .i32 240, Value.bool false, Value.int .i64 0, Value.int .i64 0, Value.bool false, Value.int .i64 1, Value.int .i64 2, Value.bool true]) = z24
  generalize (Value.agg #[Value.int .i32 115, Value.bool false, Value.int .i64 0, Value.int .i64 0, Value.bool false, Value.int .i64 2, Value.int .i64 2, Value.bool false]) = z25
  generalize (Value.agg #[Value.int .i32 122, Value.bool false, Value.int .i64 0, Value.int .i64 0, Value.bool false, Value.int .i64 2, Value.int .i64 2, Value.bool true]) = z26
  generalize (Value.agg #[Value.int .i32 643, Value.bool false, Value.int .i64 0, Value.int .i64 0, Value.bool false, Value.int .i64 3, Value.int .i64 2, Value.bool false]) = z27
  generalize (Value.agg #[Value.int .i32 658, Value.bool false, Value.int .i64 0, Value.int .i64 0, Value.bool false, Value.int .i64 3, Value.int .i64 2, Value.bool true]) = z28
  generalize (Value.agg #[Value.int .i32 120, Value.bool false, Value.int .i64 0, Value.int .i64 0, Value.bool false, Value.int .i64 5, Value.int .i64 2, Value.bool false]) = z29
  generalize (Value.agg #[Value.int .i32 104, Value.bool false, Value.int .i64 0, Value.int .i64 0, Value.bool false, Value.int .i64 6, Value.int .i64 2, Value.bool false]) = z30
  generalize (Value.agg #[Value.int .i32 109, Value.bool false, Value.int .i64 0, Value.int .i64 0, Value.bool false, Value.int .i64 0, Value.int .i64 3, Value.bool true]) = z31
  generalize (Value.agg #[Value.int .i32 110, Value.bool false, Value.int .i64 0, Value.int .i64 0, Value.bool false, Value.int .i64 2, Value.int .i64 3, Value.bool true]) = z32
  generalize (Value.agg #[Value.int .i32 331, Value.bool false, Value.int .i64 0, Value.int .i64 0, Value.bool false, Value.int .i64 5, Value.int .i64 3, Value.bool true]) = z33
  generalize (Value.agg #[Value.int .i32 108, Value.bool false, Value.int .i64 0, Value.int .i64 0, Value.bool false, Value.int .i64 2, Value.int .i64 4, Value.bool true]) = z34
  generalize (Value.agg #[Value.int .i32 114, Value.bool false, Value.int .i64 0, Value.int .i64 0, Value.bool false, Value.int .i64 3, Value.int .i64 4, Value.bool true]) = z35
  generalize (Value.agg #[Value.int .i32 119, Value.bool false, Value.int .i64 0, Value.int .i64 0, Value.bool false, Value.int .i64 0, Value.int .i64 5, Value.bool true]) = z36
  generalize (Value.agg #[Value.int .i32 106, Value.bool false, Value.int .i64 0, Value.int .i64 0, Value.bool false, Value.int .i64 4, Value.int .i64 5, Value.bool true]) = z37
  go_wp2
  go_loopw [2] (fun iv wr => ∃ i : Nat, i ≤ 38 ∧ iv = .int .i64 i ∧ Hid (Below w.heap.size w wr ∧ Blk wr g 65 (rws (refLn i)).toArray)) (fun iv _ => 38 - (intOf iv).toNat)
  case atStart => exact ⟨0, by omega, rfl, HX⟩
  case round =>
    obtain ⟨i, hi, rfl, HR⟩ := hrel
    clear HX
    by_cases hlt : i < 38
    · have q1 : decide ((i : Int) < 38) = true := by simp; omega
      go_wp2
      go_loopw [3] (fun kv wr => ∃ (k : Nat) (y : Int), k ≤ i ∧ kv = .int .i64 y ∧ y = k ∧ Hid (∃ l, l.length = 38 ∧ sinkR l k = refLn (i + 1) ∧ Below w.heap.size w wr ∧ Blk wr g 65 (rws l).toArray)) (fun kv _ => (intOf kv).toNat)
      case atStart => exact ⟨i, i, Nat.le_refl _, rfl, rfl, Lib.hid ⟨refLn i, refLn_len i, rfl, HR.out.1, HR.out.2⟩⟩
      case round =>
        clear HR
        obtain ⟨k, y, hk, rfl, hy, HR⟩ := hrel
        obtain ⟨l, hl, hs, hb, hB⟩ := HR.out
        clear HR
        by_cases hk0 : k = 0
        · subst hk0
          have q2 : decide ((0 : Int) < y) = false := by simp; omega
          have q3 : ¬ ((0 : Int) < y) := by omega
          have HS := Lib.hid (And.intro (show l = refLn (i + 1) from hs) (And.intro hb hB))
          clear hs hb hB hl hy
          go_upto_region 6 with (fail)
          go_quiet (fail)
          go_wp2
          go_roundw
          case rel => exact ⟨i + 1, by omega, by go_num, Lib.hid ⟨Below.drewNB HS.out.2.1 _, HS.out.1 ▸ HS.out.2.2⟩⟩
          case measure => simp [intOf]; omega
        · obtain ⟨z, hz⟩ : ∃ z, k = z + 1 := ⟨k - 1, by omega⟩
          subst hy
          have q2 : decide ((0 : Int) < (k : Int)) = true := by simp; omega
          have q5 : decide (0 < k) = true := by simp; omega
          have p5 : 0 < k := by omega
          have hzk : z < k := by omega
          have i1 : (0 : Int) ≤ (k : Int) := by omega
          have i2 : (k : Int) < 38 := by omega
          have i3 : (0 : Int) ≤ (z : Int) := by omega
          have i4 : (z : Int) < 38 := by omega
          have wk : IntKind.i64.wrap ((k : Int) - 1) = (z : Int) := by rw [IntWalk.i64_in _ (by omega)]; omega
          have hkl : k < l.length := by omega
          have hzl : z < l.length := by omega
          have ck : ∀ j u, j < 8 → (rowC l[k])[j]? = some u → wr.cell? ⟨g, k * 8 + j, none⟩ = some u := fun j u hj hu => (hB.cell _).trans (by rw [List.getElem?_toArray, rws_get l hkl j hj]; exact hu)
          have cz : ∀ j u, j < 8 → (rowC l[z])[j]? = some u → wr.cell? ⟨g, z * 8 + j, none⟩ = some u := fun j u hj hu => (hB.cell _).trans (by rw [List.getElem?_toArray, rws_get l hzl j hj]; exact hu)
          have hst : sinkR l (z + 1) = if l[k].1 < l[z].1 then sinkR ((l.set k l[z]).set z l[k]) z else l := by
            subst hz
            rw [sinkR]
            simp only [List.getD_eq_getElem?_getD, List.getElem?_eq_getElem hkl, List.getElem?_eq_getElem hzl, Option.getD_some]
          generalize l[k] = x at *
          generalize l[z] = x' at *
          have a0 := ck 0 _ (by omega) rfl
          have b0 := cz 0 _ (by omega) rfl
          rw [Nat.add_zero] at a0 b0
          have HC := Lib.hid (And.intro ck cz)
          rw [hz, hst] at hs
          have hkz : k < 38 ∧ z < 38 := by omega
          clear ck cz hst hz hk0
          by_cases hlt2 : x.1 < x'.1
          · have q4 : decide (x.1 < x'.1) = true := by simpa using hlt2
            rw [if_pos hlt2] at hs
            have HS := Lib.hid (And.intro hs (And.intro hb (And.intro hB hl)))
            clear hs hb hB hl hkl hzl
            go_upto_region 6 with (fail)
            go_quiet (fail)
            have a1 := HC.out.1 1 _ (by omega) rfl
            have a2 := HC.out.1 2 _ (by omega) rfl
            have a3 := HC.out.1 3 _ (by omega) rfl
            have a4 := HC.out.1 4 _ (by omega) rfl
            have a5 := HC.out.1 5 _ (by omega) rfl
            have a6 := HC.out.1 6 _ (by omega) rfl
            have a7 := HC.out.1 7 _ (by omega) rfl
            have fa0 : wr.frozen? ⟨g, k * 8, none⟩ = false := HS.out.2.2.1.frozen _
            have fa1 : wr.frozen? ⟨g, k * 8 + 1, none⟩ = false := HS.out.2.2.1.frozen _
            have fa2 : wr.frozen? ⟨g, k * 8 + 2, none⟩ = false := HS.out.2.2.1.frozen _
            have fa3 : wr.frozen? ⟨g, k * 8 + 3, none⟩ = false := HS.out.2.2.1.frozen _
            have fa4 : wr.frozen? ⟨g, k * 8 + 4, none⟩ = false := HS.out.2.2.1.frozen _
            have fa5 : wr.frozen? ⟨g, k * 8 + 5, none⟩ = false := HS.out.2.2.1.frozen _
            have fa6 : wr.frozen? ⟨g, k * 8 + 6, none⟩ = false := HS.out.2.2.1.frozen _
            have fa7 : wr.frozen? ⟨g, k * 8 + 7, none⟩ = false := HS.out.2.2.1.frozen _
            have b1 := HC.out.2 1 _ (by omega) rfl
            have b2 := HC.out.2 2 _ (by omega) rfl
            have b3 := HC.out.2 3 _ (by omega) rfl
            have b4 := HC.out.2 4 _ (by omega) rfl
            have b5 := HC.out.2 5 _ (by omega) rfl
            have b6 := HC.out.2 6 _ (by omega) rfl
            have b7 := HC.out.2 7 _ (by omega) rfl
            have fb0 : wr.frozen? ⟨g, z * 8, none⟩ = false := HS.out.2.2.1.frozen _
            have fb1 : wr.frozen? ⟨g, z * 8 + 1, none⟩ = false := HS.out.2.2.1.frozen _
            have fb2 : wr.frozen? ⟨g, z * 8 + 2, none⟩ = false := HS.out.2.2.1.frozen _
            have fb3 : wr.frozen? ⟨g, z * 8 + 3, none⟩ = false := HS.out.2.2.1.frozen _
            have fb4 : wr.frozen? ⟨g, z * 8 + 4, none⟩ = false := HS.out.2.2.1.frozen _
            have fb5 : wr.frozen? ⟨g, z * 8 + 5, none⟩ = false := HS.out.2.2.1.frozen _
            have fb6 : wr.frozen? ⟨g, z * 8 + 6, none⟩ = false := HS.out.2.2.1.frozen _
            have fb7 : wr.frozen? ⟨g, z * 8 + 7, none⟩ = false := HS.out.2.2.1.frozen _
            go_wp2
            go_region
            go_wp2
            go_roundw
            case rel =>
              have h1 := row_put x' (Below.drewNB HS.out.2.1 (nq + 1)) (show Blk (wr.drewN (nq + 1)) g 65 (rws l).toArray from HS.out.2.2.1) hg0 (k := k) (by have := HS.out.2.2.2; omega)
              have h2 := row_put x h1.1 h1.2 hg0 (k := z) (by have := HS.out.2.2.2; simp; omega)
              exact ⟨z, z, by omega, rfl, rfl, Lib.hid ⟨(l.set k x').set z x, by have := HS.out.2.2.2; simpa using this, HS.out.1, h2.1, h2.2⟩⟩
            case measure => simp [intOf]; omega
          · have q4 : decide (x.1 < x'.1) = false := by simpa using hlt2
            rw [if_neg hlt2] at hs
            have HS := Lib.hid (And.intro hs (And.intro hb (And.intro hB hl)))
            clear hs hb hB hl hkl hzl
            go_upto_region 6 with (fail)
            go_quiet (fail)
            go_wp2
            go_roundw
            case rel => exact ⟨i + 1, by omega, by go_num, Lib.hid ⟨Below.drewNB HS.out.2.1 _, HS.out.1 ▸ HS.out.2.2.1⟩⟩
            case measure => simp [intOf]; omega
    · have he : i = 38 := by omega
      subst he
      have HQ := Lib.hid (show Blk wr g 65 (rws rowsL).toArray from refLn_end ▸ HR.out.2)
      go_wp2
      go_ret
      exact ⟨g, rfl, HQ.out, HR.out.1, hg0⟩
end Go.Proofs.Ytogofchpocoebaa
