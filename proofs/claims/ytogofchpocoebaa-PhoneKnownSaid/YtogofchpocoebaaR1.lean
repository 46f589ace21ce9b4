/- The reference's rows: vowel, consonant, Rows.
   The reference's Of, Is, apart, Apart, Lone.
   The reference's Lone, Apart.
   law 8's works.
   The law PhoneCosts, walked. -/
import Derived.Test.YtogofchpocoebaaQ11
import Derived.BigQuiet
import Derived.Great.Walk
import Derived.Test.YtogofchpocoebaaQ6
namespace Go.Proofs.Ytogofchpocoebaa
open Go.RowKit Go.Maps

theorem wp_sliceTo {P : Program} {o : Oper} {a : Act} {w : World} {K : Act → World → Prop} {Q : Exit → Act → World → Prop} (t e : TypeId) (len : Nat) (parts : Array (Nat × Operand)) (ho : o.op = .buildSlice t len parts)
    (N : Nat) (hN : w.heap.size = N) (hu : P.underlying t = some (.slice e)) (cells : Array Value)
    (hf : P.builtSlice e len (parts.map fun (i, x) => (i, a.eval x)).toList = some cells)
    (h : K (a.put o.dst (.slice (some ⟨N, 0, none⟩) len len)) (w.alloc (.cells cells e))) : o.wp P a w K Q := by
  subst hN
  unfold Program.builtSlice at hf
  cases hie : P.info? e with
  | none => simp [hie] at hf
  | some ie =>
    simp only [hie] at hf
    cases hz : ie.zero with
    | none => simp [hz] at hf
    | some z =>
      simp only [hz] at hf
      by_cases hc : len * ie.size > 2 ^ 24 ∨ len * ie.size = 0
      · simp [hc] at hf
      · rw [if_neg hc] at hf
        exact wp_buildSlice t e len parts ho cells ie z hu hie hz (fun h' => hc (Or.inl h')) (fun h' => hc (Or.inr h')) hf h

theorem rws_set8 (l : List (Int × Tr)) (k : Nat) (x : Int × Tr) (hk : k < l.length) :
    ((((((((rws l).set (k * 8) (.int .i32 x.1)).set (k * 8 + 1) (.bool x.2.vow)).set (k * 8 + 2) (.int .i64 x.2.hgt)).set (k * 8 + 3) (.int .i64 x.2.bck)).set (k * 8 + 4) (.bool x.2.rnd)).set (k * 8 + 5) (.int .i64 x.2.plc)).set (k * 8 + 6) (.int .i64 x.2.mnr)).set (k * 8 + 7) (.bool x.2.vcd) = rws (l.set k x) := by
  induction l generalizing k with
  | nil => simp at hk
  | cons a l ih =>
    rcases k with _ | k
    · simp [rws, rowC, trC]
    · have := ih k (by simpa using hk)
      simp only [rws, List.flatMap_cons] at this ⊢
      simp only [show (k + 1) * 8 = k * 8 + 8 by omega, show ∀ i, (k * 8 + 8) + i = (k * 8 + i) + 8 by intro i; omega]
      simp only [rowC, trC, List.cons_append, List.nil_append, List.set_cons_succ]
      rw [this]
      rfl

theorem row_put {B : Nat} {w0 w : World} {g : Nat} {l : List (Int × Tr)} {k : Nat} (x : Int × Tr) (hb : Below B w0 w) (hB : Blk w g 65 (rws l).toArray) (hg : B ≤ g) (hk : k < l.length) :
    Below B w0 ((((((((w.setCell ⟨g, k * 8, none⟩ (.int .i32 x.1)).setCell ⟨g, k * 8 + 1, none⟩ (.bool x.2.vow)).setCell ⟨g, k * 8 + 2, none⟩ (.int .i64 x.2.hgt)).setCell ⟨g, k * 8 + 3, none⟩ (.int .i64 x.2.bck)).setCell ⟨g, k * 8 + 4, none⟩ (.bool x.2.rnd)).setCell ⟨g, k * 8 + 5, none⟩ (.int .i64 x.2.plc)).setCell ⟨g, k * 8 + 6, none⟩ (.int .i64 x.2.mnr)).setCell ⟨g, k * 8 + 7, none⟩ (.bool x.2.vcd)) ∧
    Blk ((((((((w.setCell ⟨g, k * 8, none⟩ (.int .i32 x.1)).setCell ⟨g, k * 8 + 1, none⟩ (.bool x.2.vow)).setCell ⟨g, k * 8 + 2, none⟩ (.int .i64 x.2.hgt)).setCell ⟨g, k * 8 + 3, none⟩ (.int .i64 x.2.bck)).setCell ⟨g, k * 8 + 4, none⟩ (.bool x.2.rnd)).setCell ⟨g, k * 8 + 5, none⟩ (.int .i64 x.2.plc)).setCell ⟨g, k * 8 + 6, none⟩ (.int .i64 x.2.mnr)).setCell ⟨g, k * 8 + 7, none⟩ (.bool x.2.vcd)) g 65 (rws (l.set k x)).toArray := by
  refine ⟨(((((((hb.setCell hg _).setCell hg _).setCell hg _).setCell hg _).setCell hg _).setCell hg _).setCell hg _).setCell hg _, ?_⟩
  have h := (((((((hB.set_ (k * 8) (.int .i32 x.1)).set_ (k * 8 + 1) (.bool x.2.vow)).set_ (k * 8 + 2) (.int .i64 x.2.hgt)).set_ (k * 8 + 3) (.int .i64 x.2.bck)).set_ (k * 8 + 4) (.bool x.2.rnd)).set_ (k * 8 + 5) (.int .i64 x.2.plc)).set_ (k * 8 + 6) (.int .i64 x.2.mnr)).set_ (k * 8 + 7) (.bool x.2.vcd)
  simp only [List.setIfInBounds_toArray] at h
  rwa [rws_set8 l k x hk] at h

theorem vowel_any (r h b : Int) (rd : Bool) (w : World) : Calls Try.prog 122 #[.int .i32 r, .int .i64 h, .int .i64 b, .bool rd] w fun e w' => e = .returned (.agg #[.int .i32 r, .bool true, .int .i64 h, .int .i64 b, .bool rd, .int .i64 0, .int .i64 0, .bool false]) ∧ Below w.heap.size w w' := by
  go_enter Try.func122, Try.ntmps122
  go_wp2
  refine bodyPost_ret (v := .agg #[.int .i32 r, .bool true, .int .i64 h, .int .i64 b, .bool rd, .int .i64 0, .int .i64 0, .bool false]) (by simp [results, Try.results122, go_sem]) rfl ?_
  exact ⟨rfl, (Below.refl _ _).alloc (Nat.le_refl _) _⟩
theorem consonant_any (r h b : Int) (rd : Bool) (w : World) : Calls Try.prog 123 #[.int .i32 r, .int .i64 h, .int .i64 b, .bool rd] w fun e w' => e = .returned (.agg #[.int .i32 r, .bool false, .int .i64 0, .int .i64 0, .bool false, .int .i64 h, .int .i64 b, .bool rd]) ∧ Below w.heap.size w w' := by
  go_enter Try.func123, Try.ntmps123
  go_wp2
  refine bodyPost_ret (v := .agg #[.int .i32 r, .bool false, .int .i64 0, .int .i64 0, .bool false, .int .i64 h, .int .i64 b, .bool rd]) (by simp [results, Try.results123, go_sem]) rfl ?_
  exact ⟨rfl, (Below.refl _ _).alloc (Nat.le_refl _) _⟩

/-- the reference's rows, as written; sorted -/
def refL0 : List (Int × Tr) := [(105, true, 6, 0, false, 0, 0, false), (121, true, 6, 0, true, 0, 0, false), (117, true, 6, 2, true, 0, 0, false), (101, true, 4, 0, false, 0, 0, false), (248, true, 4, 0, true, 0, 0, false), (111, true, 4, 2, true, 0, 0, false), (601, true, 3, 1, false, 0, 0, false), (603, true, 2, 0, false, 0, 0, false), (596, true, 2, 2, true, 0, 0, false), (230, true, 1, 0, false, 0, 0, false), (97, true, 0, 1, false, 0, 0, false), (593, true, 0, 2, false, 0, 0, false), (112, false, 0, 0, false, 0, 0, false), (98, false, 0, 0, false, 0, 0, true), (116, false, 0, 0, false, 2, 0, false), (100, false, 0, 0, false, 2, 0, true), (107, false, 0, 0, false, 5, 0, false), (103, false, 0, 0, false, 5, 0, true), (660, false, 0, 0, false, 6, 0, false), (679, false, 0, 0, false, 3, 1, false), (676, false, 0, 0, false, 3, 1, true), (102, false, 0, 0, false, 0, 2, false), (118, false, 0, 0, false, 0, 2, true), (952, false, 0, 0, false, 1, 2, false), (240, false, 0, 0, false, 1, 2, true), (115, false, 0, 0, false, 2, 2, false), (122, false, 0, 0, false, 2, 2, true), (643, false, 0, 0, false, 3, 2, false), (658, false, 0, 0, false, 3, 2, true), (120, false, 0, 0, false, 5, 2, false), (104, false, 0, 0, false, 6, 2, false), (109, false, 0, 0, false, 0, 3, true), (110, false, 0, 0, false, 2, 3, true), (331, false, 0, 0, false, 5, 3, true), (108, false, 0, 0, false, 2, 4, true), (114, false, 0, 0, false, 3, 4, true), (119, false, 0, 0, false, 0, 5, true), (106, false, 0, 0, false, 4, 5, true)]
/-- exchange with the one ahead, as long as that is greater -/
def sinkR (l : List (Int × Tr)) : Nat → List (Int × Tr)
  | 0 => l
  | k + 1 => if (l.getD (k + 1) (0, tr0)).1 < (l.getD k (0, tr0)).1 then sinkR ((l.set (k + 1) (l.getD k (0, tr0))).set k (l.getD (k + 1) (0, tr0))) k else l
def refLn : Nat → List (Int × Tr)
  | 0 => refL0
  | i + 1 => sinkR (refLn i) i
theorem refLn_end : refLn 38 = rowsL := by kernel_rfl
theorem sinkR_len (l : List (Int × Tr)) (k : Nat) : (sinkR l k).length = l.length := by
  induction k generalizing l with
  | zero => rfl
  | succ k ih => unfold sinkR; split <;> simp [ih]
theorem refLn_len (i : Nat) : (refLn i).length = 38 := by
  induction i with
  | zero => rfl
  | succ i ih => rw [refLn, sinkR_len, ih]
set_option maxHeartbeats 4000000 in
set_option maxRecDepth 100000 in
theorem refRows_any (w : World) : Calls Try.prog 55 #[] w fun e w' => ∃ g, e = .returned (.slice (some ⟨g, 0, none⟩) 38 38) ∧ Blk w' g 65 (rws rowsL).toArray ∧ Below w.heap.size w w' ∧ w.heap.size ≤ g := by
  go_enter Try.func55, Try.ntmps55
  go_wp2_with fail
  refine (vowel_any _ _ _ _ _).mono ?_
  rintro e w1 ⟨rfl, hb⟩
  have H1 : Hid (Below w.heap.size w w1) := Lib.hid (hb)
  clear hb
  go_wp2_with fail
  refine (vowel_any _ _ _ _ _).mono ?_
  rintro e w2 ⟨rfl, hb⟩
  have H2 : Hid (Below w.heap.size w w2) := Lib.hid ((H1.out.trans (hb.mono H1.out.size)))
  clear hb H1
  go_wp2_with fail
  refine (vowel_any _ _ _ _ _).mono ?_
  rintro e w3 ⟨rfl, hb⟩
  have H3 : Hid (Below w.heap.size w w3) := Lib.hid ((H2.out.trans (hb.mono H2.out.size)))
  clear hb H2
  go_wp2_with fail
  refine (vowel_any _ _ _ _ _).mono ?_
  rintro e w4 ⟨rfl, hb⟩
  have H4 : Hid (Below w.heap.size w w4) := Lib.hid ((H3.out.trans (hb.mono H3.out.size)))
  clear hb H3
  go_wp2_with fail
  refine (vowel_any _ _ _ _ _).mono ?_
  rintro e w5 ⟨rfl, hb⟩
  have H5 : Hid (Below w.heap.size w w5) := Lib.hid ((H4.out.trans (hb.mono H4.out.size)))
  clear hb H4
  go_wp2_with fail
  refine (vowel_any _ _ _ _ _).mono ?_
  rintro e w6 ⟨rfl, hb⟩
  have H6 : Hid (Below w.heap.size w w6) := Lib.hid ((H5.out.trans (hb.mono H5.out.size)))
  clear hb H5
  go_wp2_with fail
  refine (vowel_any _ _ _ _ _).mono ?_
  rintro e w7 ⟨rfl, hb⟩
  have H7 : Hid (Below w.heap.size w w7) := Lib.hid ((H6.out.trans (hb.mono H6.out.size)))
  clear hb H6
  go_wp2_with fail
  refine (vowel_any _ _ _ _ _).mono ?_
  rintro e w8 ⟨rfl, hb⟩
  have H8 : Hid (Below w.heap.size w w8) := Lib.hid ((H7.out.trans (hb.mono H7.out.size)))
  clear hb H7
  go_wp2_with fail
  refine (vowel_any _ _ _ _ _).mono ?_
  rintro e w9 ⟨rfl, hb⟩
  have H9 : Hid (Below w.heap.size w w9) := Lib.hid ((H8.out.trans (hb.mono H8.out.size)))
  clear hb H8
  go_wp2_with fail
  refine (vowel_any _ _ _ _ _).mono ?_
  rintro e w10 ⟨rfl, hb⟩
  have H10 : Hid (Below w.heap.size w w10) := Lib.hid ((H9.out.trans (hb.mono H9.out.size)))
  clear hb H9
  go_wp2_with fail
  refine (vowel_any _ _ _ _ _).mono ?_
  rintro e w11 ⟨rfl, hb⟩
  have H11 : Hid (Below w.heap.size w w11) := Lib.hid ((H10.out.trans (hb.mono H10.out.size)))
  clear hb H10
  go_wp2_with fail
  refine (vowel_any _ _ _ _ _).mono ?_
  rintro e w12 ⟨rfl, hb⟩
  have H12 : Hid (Below w.heap.size w w12) := Lib.hid ((H11.out.trans (hb.mono H11.out.size)))
  clear hb H11
  go_wp2_with fail
  refine (consonant_any _ _ _ _ _).mono ?_
  rintro e w13 ⟨rfl, hb⟩
  have H13 : Hid (Below w.heap.size w w13) := Lib.hid ((H12.out.trans (hb.mono H12.out.size)))
  clear hb H12
  go_wp2_with fail
  refine (consonant_any _ _ _ _ _).mono ?_
  rintro e w14 ⟨rfl, hb⟩
  have H14 : Hid (Below w.heap.size w w14) := Lib.hid ((H13.out.trans (hb.mono H13.out.size)))
  clear hb H13
  go_wp2_with fail
  refine (consonant_any _ _ _ _ _).mono ?_
  rintro e w15 ⟨rfl, hb⟩
  have H15 : Hid (Below w.heap.size w w15) := Lib.hid ((H14.out.trans (hb.mono H14.out.size)))
  clear hb H14
  go_wp2_with fail
  refine (consonant_any _ _ _ _ _).mono ?_
  rintro e w16 ⟨rfl, hb⟩
  have H16 : Hid (Below w.heap.size w w16) := Lib.hid ((H15.out.trans (hb.mono H15.out.size)))
  clear hb H15
  go_wp2_with fail
  refine (consonant_any _ _ _ _ _).mono ?_
  rintro e w17 ⟨rfl, hb⟩
  have H17 : Hid (Below w.heap.size w w17) := Lib.hid ((H16.out.trans (hb.mono H16.out.size)))
  clear hb H16
  go_wp2_with fail
  refine (consonant_any _ _ _ _ _).mono ?_
  rintro e w18 ⟨rfl, hb⟩
  have H18 : Hid (Below w.heap.size w w18) := Lib.hid ((H17.out.trans (hb.mono H17.out.size)))
  clear hb H17
  go_wp2_with fail
  refine (consonant_any _ _ _ _ _).mono ?_
  rintro e w19 ⟨rfl, hb⟩
  have H19 : Hid (Below w.heap.size w w19) := Lib.hid ((H18.out.trans (hb.mono H18.out.size)))
  clear hb H18
  go_wp2_with fail
  refine (consonant_any _ _ _ _ _).mono ?_
  rintro e w20 ⟨rfl, hb⟩
  have H20 : Hid (Below w.heap.size w w20) := Lib.hid ((H19.out.trans (hb.mono H19.out.size)))
  clear hb H19
  go_wp2_with fail
  refine (consonant_any _ _ _ _ _).mono ?_
  rintro e w21 ⟨rfl, hb⟩
  have H21 : Hid (Below w.heap.size w w21) := Lib.hid ((H20.out.trans (hb.mono H20.out.size)))
  clear hb H20
  go_wp2_with fail
  refine (consonant_any _ _ _ _ _).mono ?_
  rintro e w22 ⟨rfl, hb⟩
  have H22 : Hid (Below w.heap.size w w22) := Lib.hid ((H21.out.trans (hb.mono H21.out.size)))
  clear hb H21
  go_wp2_with fail
  refine (consonant_any _ _ _ _ _).mono ?_
  rintro e w23 ⟨rfl, hb⟩
  have H23 : Hid (Below w.heap.size w w23) := Lib.hid ((H22.out.trans (hb.mono H22.out.size)))
  clear hb H22
  go_wp2_with fail
  refine (consonant_any _ _ _ _ _).mono ?_
  rintro e w24 ⟨rfl, hb⟩
  have H24 : Hid (Below w.heap.size w w24) := Lib.hid ((H23.out.trans (hb.mono H23.out.size)))
  clear hb H23
  go_wp2_with fail
  refine (consonant_any _ _ _ _ _).mono ?_
  rintro e w25 ⟨rfl, hb⟩
  have H25 : Hid (Below w.heap.size w w25) := Lib.hid ((H24.out.trans (hb.mono H24.out.size)))
  clear hb H24
  go_wp2_with fail
  refine (consonant_any _ _ _ _ _).mono ?_
  rintro e w26 ⟨rfl, hb⟩
  have H26 : Hid (Below w.heap.size w w26) := Lib.hid ((H25.out.trans (hb.mono H25.out.size)))
  clear hb H25
  go_wp2_with fail
  refine (consonant_any _ _ _ _ _).mono ?_
  rintro e w27 ⟨rfl, hb⟩
  have H27 : Hid (Below w.heap.size w w27) := Lib.hid ((H26.out.trans (hb.mono H26.out.size)))
  clear hb H26
  go_wp2_with fail
  refine (consonant_any _ _ _ _ _).mono ?_
  rintro e w28 ⟨rfl, hb⟩
  have H28 : Hid (Below w.heap.size w w28) := Lib.hid ((H27.out.trans (hb.mono H27.out.size)))
  clear hb H27
  go_wp2_with fail
  refine (consonant_any _ _ _ _ _).mono ?_
  rintro e w29 ⟨rfl, hb⟩
  have H29 : Hid (Below w.heap.size w w29) := Lib.hid ((H28.out.trans (hb.mono H28.out.size)))
  clear hb H28
  go_wp2_with fail
  refine (consonant_any _ _ _ _ _).mono ?_
  rintro e w30 ⟨rfl, hb⟩
  have H30 : Hid (Below w.heap.size w w30) := Lib.hid ((H29.out.trans (hb.mono H29.out.size)))
  clear hb H29
  go_wp2_with fail
  refine (consonant_any _ _ _ _ _).mono ?_
  rintro e w31 ⟨rfl, hb⟩
  have H31 : Hid (Below w.heap.size w w31) := Lib.hid ((H30.out.trans (hb.mono H30.out.size)))
  clear hb H30
  go_wp2_with fail
  refine (consonant_any _ _ _ _ _).mono ?_
  rintro e w32 ⟨rfl, hb⟩
  have H32 : Hid (Below w.heap.size w w32) := Lib.hid ((H31.out.trans (hb.mono H31.out.size)))
  clear hb H31
  go_wp2_with fail
  refine (consonant_any _ _ _ _ _).mono ?_
  rintro e w33 ⟨rfl, hb⟩
  have H33 : Hid (Below w.heap.size w w33) := Lib.hid ((H32.out.trans (hb.mono H32.out.size)))
  clear hb H32
  go_wp2_with fail
  refine (consonant_any _ _ _ _ _).mono ?_
  rintro e w34 ⟨rfl, hb⟩
  have H34 : Hid (Below w.heap.size w w34) := Lib.hid ((H33.out.trans (hb.mono H33.out.size)))
  clear hb H33
  go_wp2_with fail
  refine (consonant_any _ _ _ _ _).mono ?_
  rintro e w35 ⟨rfl, hb⟩
  have H35 : Hid (Below w.heap.size w w35) := Lib.hid ((H34.out.trans (hb.mono H34.out.size)))
  clear hb H34
  go_wp2_with fail
  refine (consonant_any _ _ _ _ _).mono ?_
  rintro e w36 ⟨rfl, hb⟩
  have H36 : Hid (Below w.heap.size w w36) := Lib.hid ((H35.out.trans (hb.mono H35.out.size)))
  clear hb H35
  go_wp2_with fail
  refine (consonant_any _ _ _ _ _).mono ?_
  rintro e w37 ⟨rfl, hb⟩
  have H37 : Hid (Below w.heap.size w w37) := Lib.hid ((H36.out.trans (hb.mono H36.out.size)))
  clear hb H36
  go_wp2_with fail
  refine (consonant_any _ _ _ _ _).mono ?_
  rintro e w38 ⟨rfl, hb⟩
  have H38 : Hid (Below w.heap.size w w38) := Lib.hid ((H37.out.trans (hb.mono H37.out.size)))
  clear hb H37
  go_wp2_with fail
  refine wp_sliceTo 59 65 38 ?parts ?ho w38.heap.size ?hN Try.underlying59 (rws refL0).toArray ?hf ?hk
  case ho => rfl
  case hN => rfl
  case hf => kernel_rfl
  go_upto_region 2 with (fail)
  refine wp_abs (fun wx => Below w.heap.size w wx ∧ Blk wx w38.heap.size 65 (rws refL0).toArray) ⟨H38.out.trans (((Below.refl _ _).alloc (Nat.le_refl _) _).mono H38.out.size), Blk.new _ _ _⟩ ?_
  have hg0 := H38.out.size
  clear H38
  generalize w38.heap.size = g at *
  rintro wx hx
  have HX := Lib.hid hx
  clear hx
  generalize (Value.agg #[Value.int .i32 105, Value.bool true, Value.int .i64 6, Value.int .i64 0, Value.bool false, Value.int .i64 0, Value.int .i64 0, Value.bool false]) = z0
  generalize (Value.agg #[Value.int .i32 121, Value.bool true, Value.int .i64 6, Value.int .i64 0, Value.bool true, Value.int .i64 0, Value.int .i64 0, Value.bool false]) = z1
  generalize (Value.agg #[Value.int .i32 117, Value.bool true, Value.int .i64 6, Value.int .i64 2, Value.bool true, Value.int .i64 0, Value.int .i64 0, Value.bool false]) = z2
  generalize (Value.agg #[Value.int .i32 101, Value.bool true, Value.int .i64 4, Value.int .i64 0, Value.bool false, Value.int .i64 0, Value.int .i64 0, Value.bool false]) = z3
  generalize (Value.agg #[Value.int .i32 248, Value.bool true, Value.int .i64 4, Value.int .i64 0, Value.bool true, Value.int .i64 0, Value.int .i64 0, Value.bool false]) = z4
  generalize (Value.agg #[Value.int .i32 111, Value.bool true, Value.int .i64 4, Value.int .i64 2, Value.bool true, Value.int .i64 0, Value.int .i64 0, Value.bool false]) = z5
  generalize (Value.agg #[Value.int .i32 601, Value.bool true, Value.int .i64 3, Value.int .i64 1, Value.bool false, Value.int .i64 0, Value.int .i64 0, Value.bool false]) = z6
  generalize (Value.agg #[Value.int .i32 603, Value.bool true, Value.int .i64 2, Value.int .i64 0, Value.bool false, Value.int .i64 0, Value.int .i64 0, Value.bool false]) = z7
  generalize (Value.agg #[Value.int .i32 596, Value.bool true, Value.int .i64 2, Value.int .i64 2, Value.bool true, Value.int .i64 0, Value.int .i64 0, Value.bool false]) = z8
  generalize (Value.agg #[Value.int .i32 230, Value.bool true, Value.int .i64 1, Value.int .i64 0, Value.bool false, Value.int .i64 0, Value.int .i64 0, Value.bool false]) = z9
  generalize (Value.agg #[Value.int .i32 97, Value.bool true, Value.int .i64 0, Value.int .i64 1, Value.bool false, Value.int .i64 0, Value.int .i64 0, Value.bool false]) = z10
  generalize (Value.agg #[Value.int .i32 593, Value.bool true, Value.int .i64 0, Value.int .i64 2, Value.bool false, Value.int .i64 0, Value.int .i64 0, Value.bool false]) = z11
  generalize (Value.agg #[Value.int .i32 112, Value.bool false, Value.int .i64 0, Value.int .i64 0, Value.bool false, Value.int .i64 0, Value.int .i64 0, Value.bool false]) = z12
  generalize (Value.agg #[Value.int .i32 98, Value.bool false, Value.int .i64 0, Value.int .i64 0, Value.bool false, Value.int .i64 0, Value.int .i64 0, Value.bool true]) = z13
  generalize (Value.agg #[Value.int .i32 116, Value.bool false, Value.int .i64 0, Value.int .i64 0, Value.bool false, Value.int .i64 2, Value.int .i64 0, Value.bool false]) = z14
  generalize (Value.agg #[Value.int .i32 100, Value.bool false, Value.int .i64 0, Value.int .i64 0, Value.bool false, Value.int .i64 2, Value.int .i64 0, Value.bool true]) = z15
  generalize (Value.agg #[Value.int .i32 107, Value.bool false, Value.int .i64 0, Value.int .i64 0, Value.bool false, Value.int .i64 5, Value.int .i64 0, Value.bool false]) = z16
  generalize (Value.agg #[Value.int .i32 103, Value.bool false, Value.int .i64 0, Value.int .i64 0, Value.bool false, Value.int .i64 5, Value.int .i64 0, Value.bool true]) = z17
  generalize (Value.agg #[Value.int .i32 660, Value.bool false, Value.int .i64 0, Value.int .i64 0, Value.bool false, Value.int .i64 6, Value.int .i64 0, Value.bool false]) = z18
  generalize (Value.agg #[Value.int .i32 679, Value.bool false, Value.int .i64 0, Value.int .i64 0, Value.bool false, Value.int .i64 3, Value.int .i64 1, Value.bool false]) = z19
  generalize (Value.agg #[Value.int .i32 676, Value.bool false, Value.int .i64 0, Value.int .i64 0, Value.bool false, Value.int .i64 3, Value.int .i64 1, Value.bool true]) = z20
  generalize (Value.agg #[Value.int .i32 102, Value.bool false, Value.int .i64 0, Value.int .i64 0, Value.bool false, Value.int .i64 0, Value.int .i64 2, Value.bool false]) = z21
  generalize (Value.agg #[Value.int .i32 118, Value.bool false, Value.int .i64 0, Value.int .i64 0, Value.bool false, Value.int .i64 0, Value.int .i64 2, Value.bool true]) = z22
  generalize (Value.agg #[Value.int .i32 952, Value.bool false, Value.int .i64 0, Value.int .i64 0, Value.bool false, Value.int .i64 1, Value.int .i64 2, Value.bool false]) = z23
  generalize (Value.agg #[Value.int .i32 240, Value.bool false, Value.int .i64 0, Value.int .i64 0, Value.bool false, Value.int .i64 1, Value.int .i64 2, Value.bool true]) = z24
  generalize (Value.agg #[Value.int .i32 115, Value.bool false, Value.int .i64 0, Value.int .i64 0, Value.bool false, Value.int .i64 2, Value.int .i64 2, Value.bool false]) = z25
  generalize (Value.agg #[Value.int .i32 122, Value.bool false, Value.int .i64 0, Value.int .i64 0, Value.bool false, Value.int .i64 2, Value.int .i64 2, Value.bool true]) = z26
  generalize (Value.agg #[Value.int .i32 643, Value.bool false, Value.int .i64 0, Value.int .i64 0, Value.bool false, Value.int .i64 3, Value.int .i64 2, Value.bool false]) = z27
  generalize (Value.agg #[Value.int .i32 658, Value.bool false, Value.int .i64 0, Value.int .i64 0, Value.bool false, Value.int .i64 3, Value.int .i64 2, Value.bool true]) = z28
  generalize (Value.agg #[Value.int .i32 120, Value.bool false, Value.int .i64 0, Value.int .i64 0, Value.bool false, Value.int .i64 5, Value.int .i64 2, Value.bool false]) = z29
  generalize (Value.agg #[Value.int .i32 104, Value.bool false, Value.int .i64 0, Value.int .i64 0, Value.bool false, Value.int .i64 6, Value.int .i64 2, Value.bool false]) = z30
  generalize (Value.agg #[Value.int .i32 109, Value.bool false, Value.int .i64 0, Value.int .i64 0, Value.bool false, Value.int .i64 0, Value.int .i64 3, Value.bool true]) = z31
  generalize (Value.agg #[Value.int .i32 110, Value.bool false, Value.int .i64 0, Value.int .i64 0, Value.bool false, Value.int .i64 2, Value.int .i64 3, Value.bool true]) = z32
  generalize (Value.agg #[Value.int .i32 331, Value.bool false, Value.int .i64 0, Value.int .i64 0, Value.bool false, Value.int .i64 5, Value.int .i64 3, Value.bool true]) = z33
  generalize (Value.agg #[Value.int .i32 108, Value.bool false, Value.int .i64 0, Value.int .i64 0, Value.bool false, Value.int .i64 2, Value.int .i64 4, Value.bool true]) = z34
  generalize (Value.agg #[Value.int .i32 114, Value.bool false, Value.int .i64 0, Value.int .i64 0, Value.bool false, Value.int .i64 3, Value.int .i64 4, Value.bool true]) = z35
  generalize (Value.agg #[Value.int .i32 119, Value.bool false, Value.int .i64 0, Value.int .i64 0, Value.bool false, Value.int .i64 0, Value.int .i64 5, Value.bool true]) = z36
  generalize (Value.agg #[Value.int .i32 106, Value.bool false, Value.int .i64 0, Value.int .i64 0, Value.bool false, Value.int .i64 4, Value.int .i64 5, Value.bool true]) = z37
  go_wp2
  go_loopw [2] (fun iv wr => ∃ i : Nat, i ≤ 38 ∧ iv = .int .i64 i ∧ Hid (Below w.heap.size w wr ∧ Blk wr g 65 (rws (refLn i)).toArray)) (fun iv _ => 38 - (intOf iv).toNat)
  case atStart => exact ⟨0, by omega, rfl, HX⟩
  case round =>
    obtain ⟨i, hi, rfl, HR⟩ := hrel
    clear HX
    by_cases hlt : i < 38
    · have q1 : decide ((i : Int) < 38) = true := by simp; omega
      go_wp2
      go_loopw [3] (fun kv wr => ∃ (k : Nat) (y : Int), k ≤ i ∧ kv = .int .i64 y ∧ y = k ∧ Hid (∃ l, l.length = 38 ∧ sinkR l k = refLn (i + 1) ∧ Below w.heap.size w wr ∧ Blk wr g 65 (rws l).toArray)) (fun kv _ => (intOf kv).toNat)
      case atStart => exact ⟨i, i, Nat.le_refl _, rfl, rfl, Lib.hid ⟨refLn i, refLn_len i, rfl, HR.out.1, HR.out.2⟩⟩
      case round =>
        clear HR
        obtain ⟨k, y, hk, rfl, hy, HR⟩ := hrel
        obtain ⟨l, hl, hs, hb, hB⟩ := HR.out
        clear HR
        by_cases hk0 : k = 0
        · subst hk0
          have q2 : decide ((0 : Int) < y) = false := by simp; omega
          have q3 : ¬ ((0 : Int) < y) := by omega
          have HS := Lib.hid (And.intro (show l = refLn (i + 1) from hs) (And.intro hb hB))
          clear hs hb hB hl hy
          go_upto_region 6 with (fail)
          go_quiet (fail)
          go_wp2
          go_roundw
          case rel => exact ⟨i + 1, by omega, by go_num, Lib.hid ⟨Below.drewNB HS.out.2.1 _, HS.out.1 ▸ HS.out.2.2⟩⟩
          case measure => simp [intOf]; omega
        · obtain ⟨z, hz⟩ : ∃ z, k = z + 1 := ⟨k - 1, by omega⟩
          subst hy
          have q2 : decide ((0 : Int) < (k : Int)) = true := by simp; omega
          have q5 : decide (0 < k) = true := by simp; omega
          have p5 : 0 < k := by omega
          have hzk : z < k := by omega
          have i1 : (0 : Int) ≤ (k : Int) := by omega
          have i2 : (k : Int) < 38 := by omega
          have i3 : (0 : Int) ≤ (z : Int) := by omega
          have i4 : (z : Int) < 38 := by omega
          have wk : IntKind.i64.wrap ((k : Int) - 1) = (z : Int) := by rw [IntWalk.i64_in _ (by omega)]; omega
          have hkl : k < l.length := by omega
          have hzl : z < l.length := by omega
          have ck : ∀ j u, j < 8 → (rowC l[k])[j]? = some u → wr.cell? ⟨g, k * 8 + j, none⟩ = some u := fun j u hj hu => (hB.cell _).trans (by rw [List.getElem?_toArray, rws_get l hkl j hj]; exact hu)
          have cz : ∀ j u, j < 8 → (rowC l[z])[j]? = some u → wr.cell? ⟨g, z * 8 + j, none⟩ = some u := fun j u hj hu => (hB.cell _).trans (by rw [List.getElem?_toArray, rws_get l hzl j hj]; exact hu)
          have hst : sinkR l (z + 1) = if l[k].1 < l[z].1 then sinkR ((l.set k l[z]).set z l[k]) z else l := by
            subst hz
            rw [sinkR]
            simp only [List.getD_eq_getElem?_getD, List.getElem?_eq_getElem hkl, List.getElem?_eq_getElem hzl, Option.getD_some]
          generalize l[k] = x at *
          generalize l[z] = x' at *
          have a0 := ck 0 _ (by omega) rfl
          have b0 := cz 0 _ (by omega) rfl
          rw [Nat.add_zero] at a0 b0
          have HC := Lib.hid (And.intro ck cz)
          rw [hz, hst] at hs
          have hkz : k < 38 ∧ z < 38 := by omega
          clear ck cz hst hz hk0
          by_cases hlt2 : x.1 < x'.1
          · have q4 : decide (x.1 < x'.1) = true := by simpa using hlt2
            rw [if_pos hlt2] at hs
            have HS := Lib.hid (And.intro hs (And.intro hb (And.intro hB hl)))
            clear hs hb hB hl hkl hzl
            go_upto_region 6 with (fail)
            go_quiet (fail)
            have a1 := HC.out.1 1 _ (by omega) rfl
            have a2 := HC.out.1 2 _ (by omega) rfl
            have a3 := HC.out.1 3 _ (by omega) rfl
            have a4 := HC.out.1 4 _ (by omega) rfl
            have a5 := HC.out.1 5 _ (by omega) rfl
            have a6 := HC.out.1 6 _ (by omega) rfl
            have a7 := HC.out.1 7 _ (by omega) rfl
            have fa0 : wr.frozen? ⟨g, k * 8, none⟩ = false := HS.out.2.2.1.frozen _
            have fa1 : wr.frozen? ⟨g, k * 8 + 1, none⟩ = false := HS.out.2.2.1.frozen _
            have fa2 : wr.frozen? ⟨g, k * 8 + 2, none⟩ = false := HS.out.2.2.1.frozen _
            have fa3 : wr.frozen? ⟨g, k * 8 + 3, none⟩ = false := HS.out.2.2.1.frozen _
            have fa4 : wr.frozen? ⟨g, k * 8 + 4, none⟩ = false := HS.out.2.2.1.frozen _
            have fa5 : wr.frozen? ⟨g, k * 8 + 5, none⟩ = false := HS.out.2.2.1.frozen _
            have fa6 : wr.frozen? ⟨g, k * 8 + 6, none⟩ = false := HS.out.2.2.1.frozen _
            have fa7 : wr.frozen? ⟨g, k * 8 + 7, none⟩ = false := HS.out.2.2.1.frozen _
            have b1 := HC.out.2 1 _ (by omega) rfl
            have b2 := HC.out.2 2 _ (by omega) rfl
            have b3 := HC.out.2 3 _ (by omega) rfl
            have b4 := HC.out.2 4 _ (by omega) rfl
            have b5 := HC.out.2 5 _ (by omega) rfl
            have b6 := HC.out.2 6 _ (by omega) rfl
            have b7 := HC.out.2 7 _ (by omega) rfl
            have fb0 : wr.frozen? ⟨g, z * 8, none⟩ = false := HS.out.2.2.1.frozen _
            have fb1 : wr.frozen? ⟨g, z * 8 + 1, none⟩ = false := HS.out.2.2.1.frozen _
            have fb2 : wr.frozen? ⟨g, z * 8 + 2, none⟩ = false := HS.out.2.2.1.frozen _
            have fb3 : wr.frozen? ⟨g, z * 8 + 3, none⟩ = false := HS.out.2.2.1.frozen _
            have fb4 : wr.frozen? ⟨g, z * 8 + 4, none⟩ = false := HS.out.2.2.1.frozen _
            have fb5 : wr.frozen? ⟨g, z * 8 + 5, none⟩ = false := HS.out.2.2.1.frozen _
            have fb6 : wr.frozen? ⟨g, z * 8 + 6, none⟩ = false := HS.out.2.2.1.frozen _
            have fb7 : wr.frozen? ⟨g, z * 8 + 7, none⟩ = false := HS.out.2.2.1.frozen _
            go_wp2
            go_region
            go_wp2
            go_roundw
            case rel =>
              have h1 := row_put x' (Below.drewNB HS.out.2.1 (nq + 1)) (show Blk (wr.drewN (nq + 1)) g 65 (rws l).toArray from HS.out.2.2.1) hg0 (k := k) (by have := HS.out.2.2.2; omega)
              have h2 := row_put x h1.1 h1.2 hg0 (k := z) (by have := HS.out.2.2.2; simp; omega)
              exact ⟨z, z, by omega, rfl, rfl, Lib.hid ⟨(l.set k x').set z x, by have := HS.out.2.2.2; simpa using this, HS.out.1, h2.1, h2.2⟩⟩
            case measure => simp [intOf]; omega
          · have q4 : decide (x.1 < x'.1) = false := by simpa using hlt2
            rw [if_neg hlt2] at hs
            have HS := Lib.hid (And.intro hs (And.intro hb (And.intro hB hl)))
            clear hs hb hB hl hkl hzl
            go_upto_region 6 with (fail)
            go_quiet (fail)
            go_wp2
            go_roundw
            case rel => exact ⟨i + 1, by omega, by go_num, Lib.hid ⟨Below.drewNB HS.out.2.1 _, HS.out.1 ▸ HS.out.2.2.1⟩⟩
            case measure => simp [intOf]; omega
    · have he : i = 38 := by omega
      subst he
      have HQ := Lib.hid (show Blk wr g 65 (rws rowsL).toArray from refLn_end ▸ HR.out.2)
      go_wp2
      go_ret
      exact ⟨g, rfl, HQ.out, HR.out.1, hg0⟩
end Go.Proofs.Ytogofchpocoebaa

namespace Go.Proofs.Ytogofchpocoebaa
open Go.RowKit Go.Maps

theorem rows_tab : rowsL.map (fun x => tabF x.1) = rowsL.map (fun x => some x.2) := by kernel_rfl
theorem tab_at {i : Nat} (h : i < rowsL.length) : tabF rowsL[i].1 = some rowsL[i].2 := by
  have e : (rowsL.map (fun x => tabF x.1))[i]? = (rowsL.map (fun x => some x.2))[i]? := by rw [rows_tab]
  simpa [List.getElem?_eq_getElem h] using e
theorem tab_none {r : Int} (h : ∀ j (hj : j < rowsL.length), rowsL[j].1 ≠ r) : tabF r = none := by
  unfold tabF tabOf
  rw [Option.map_eq_none_iff, List.find?_eq_none]
  intro x hx
  obtain ⟨j, hj, rfl⟩ := List.mem_iff_getElem.1 (List.mem_reverse.1 hx)
  simpa using h j hj

set_option maxHeartbeats 1000000 in
set_option maxRecDepth 100000 in
theorem refOf_any (r : Int) (w : World) : Calls Try.prog 51 #[.int .i32 r] w fun e w' => e = .returned (.tuple #[.agg #[.bool (traits r).vow, .int .i64 (traits r).hgt, .int .i64 (traits r).bck, .bool (traits r).rnd, .int .i64 (traits r).plc, .int .i64 (traits r).mnr, .bool (traits r).vcd], .bool (tabF r).isSome]) ∧ Below w.heap.size w w' := by
  go_enter Try.func51, Try.ntmps51
  go_upto_region 1 with (fail)
  refine wp_abs (fun wx => Below w.heap.size w wx ∧ Blk wx w.heap.size 56 #[.bool false, .int .i64 0, .int .i64 0, .bool false, .int .i64 0, .int .i64 0, .bool false]) ⟨(Below.refl _ _).alloc (Nat.le_refl _) _, Blk.new _ _ _⟩ ?_
  generalize hpb : w.heap.size = pb
  rintro wx ⟨hb, hx⟩
  rw [← hpb] at hb
  have HX := Lib.hid (And.intro hb hx)
  have HPB := Lib.hid hpb
  clear hb hx hpb
  go_wp2_with fail
  refine (refRows_any _).mono ?_
  rintro e w1 ⟨g, rfl, hB, hb, hg⟩
  have H1 := Lib.hid (And.intro (HX.out.1.trans (hb.mono HX.out.1.size)) (And.intro (HX.out.2.below hb HX.out.2.lt) (And.intro hB (show pb < g from Nat.lt_of_lt_of_le HX.out.2.lt hg))))
  clear hB hb hg HX
  have b0 : w1.cell? ⟨pb, 0, none⟩ = some (.bool false) := H1.out.2.1.cell 0
  have b1 : w1.cell? ⟨pb, 1, none⟩ = some (.int .i64 0) := H1.out.2.1.cell 1
  have b2 : w1.cell? ⟨pb, 2, none⟩ = some (.int .i64 0) := H1.out.2.1.cell 2
  have b3 : w1.cell? ⟨pb, 3, none⟩ = some (.bool false) := H1.out.2.1.cell 3
  have b4 : w1.cell? ⟨pb, 4, none⟩ = some (.int .i64 0) := H1.out.2.1.cell 4
  have b5 : w1.cell? ⟨pb, 5, none⟩ = some (.int .i64 0) := H1.out.2.1.cell 5
  have b6 : w1.cell? ⟨pb, 6, none⟩ = some (.bool false) := H1.out.2.1.cell 6
  have f0 : w1.frozen? ⟨pb, 0, none⟩ = false := H1.out.2.1.frozen 0
  have f1 : w1.frozen? ⟨pb, 1, none⟩ = false := H1.out.2.1.frozen 1
  have f2 : w1.frozen? ⟨pb, 2, none⟩ = false := H1.out.2.1.frozen 2
  have f3 : w1.frozen? ⟨pb, 3, none⟩ = false := H1.out.2.1.frozen 3
  have f4 : w1.frozen? ⟨pb, 4, none⟩ = false := H1.out.2.1.frozen 4
  have f5 : w1.frozen? ⟨pb, 5, none⟩ = false := H1.out.2.1.frozen 5
  have f6 : w1.frozen? ⟨pb, 6, none⟩ = false := H1.out.2.1.frozen 6
  have HF := Lib.hid (And.intro b0 (And.intro b1 (And.intro b2 (And.intro b3 (And.intro b4 (And.intro b5 b6))))))
  go_wp2
  go_loopw [5] (fun iv wr => ∃ i : Nat, i ≤ 38 ∧ iv = .int .i64 i ∧ wr = w1 ∧ Hid (∀ j (hj : j < rowsL.length), j < i → rowsL[j].1 ≠ r)) (fun iv _ => 38 - (intOf iv).toNat)
  case atStart => exact ⟨0, by omega, rfl, rfl, Lib.hid fun j hj h => absurd h (by omega)⟩
  case round =>
    obtain ⟨i, hi, rfl, rfl, HR⟩ := hrel
    by_cases hlt : i < 38
    · have q1 : decide ((i : Int) < 38) = true := by simp; omega
      have hil : i < rowsL.length := by rw [rowsL_len]; exact hlt
      have cc : ∀ j u, j < 8 → (rowC rowsL[i])[j]? = some u → wr.cell? ⟨g, i * 8 + j, none⟩ = some u := fun j u hj hu => (H1.out.2.2.1.cell _).trans (by rw [List.getElem?_toArray, rws_get rowsL hil j hj]; exact hu)
      have ht := tab_at hil
      have hne : rowsL[i].1 ≠ r → ∀ j (hj : j < rowsL.length), j < i + 1 → rowsL[j].1 ≠ r := fun h j hj hji => by
        by_cases e : j = i
        · subst e; exact h
        · exact HR.out j hj (by omega)
      generalize rowsL[i] = x at *
      have c0 := cc 0 _ (by omega) rfl
      have c1 := cc 1 _ (by omega) rfl
      have c2 := cc 2 _ (by omega) rfl
      have c3 := cc 3 _ (by omega) rfl
      have c4 := cc 4 _ (by omega) rfl
      have c5 := cc 5 _ (by omega) rfl
      have c6 := cc 6 _ (by omega) rfl
      have c7 := cc 7 _ (by omega) rfl
      rw [Nat.add_zero] at c0
      clear cc hil
      by_cases he : x.1 = r
      · have q2 : (x.1 == r) = true := by simpa using he
        rw [he] at ht
        have hx : traits r = x.2 := by unfold traits; rw [ht]; rfl
        have HX := Lib.hid (And.intro ht hx)
        clear ht hx he hne
        go_wp2
        refine bodyPost_ret (v := .tuple #[.agg #[.bool x.2.vow, .int .i64 x.2.hgt, .int .i64 x.2.bck, .bool x.2.rnd, .int .i64 x.2.plc, .int .i64 x.2.mnr, .bool x.2.vcd], .bool true]) (by simp [results, Try.results51, go_sem, b0, b1, b2, b3, b4, b5, b6]) rfl ?_
        have hp : w.heap.size ≤ pb := Nat.le_of_eq HPB.out
        exact ⟨by rw [HX.out.1, HX.out.2]; rfl, ((((((H1.out.1.setCell hp _).setCell hp _).setCell hp _).setCell hp _).setCell hp _).setCell hp _).setCell hp _⟩
      · have q2 : (x.1 == r) = false := by simpa using he
        have HN := Lib.hid (hne he)
        clear hne ht he
        go_wp2
        go_roundw
        case rel => exact ⟨i + 1, by omega, by go_num, trivial, HN⟩
        case measure => simp [intOf]; omega
    · have he : i = 38 := by omega
      have ht : tabF r = none := tab_none fun j hj => HR.out j hj (by rw [rowsL_len] at hj; omega)
      have hx : traits r = tr0 := by unfold traits; rw [ht]; rfl
      have HX := Lib.hid (And.intro ht hx)
      clear ht hx
      subst he
      go_wp2
      refine bodyPost_ret (v := .tuple #[.agg #[.bool false, .int .i64 0, .int .i64 0, .bool false, .int .i64 0, .int .i64 0, .bool false], .bool false]) (by simp [results, Try.results51, go_sem, b0, b1, b2, b3, b4, b5, b6]) rfl ?_
      have hp : w.heap.size ≤ pb := Nat.le_of_eq HPB.out
      exact ⟨by rw [HX.out.1, HX.out.2]; rfl, ((((((H1.out.1.setCell hp _).setCell hp _).setCell hp _).setCell hp _).setCell hp _).setCell hp _).setCell hp _⟩

/-- the cells of what a rune says -/
def trA7 (t : Tr) : Array Value := #[.bool t.vow, .int .i64 t.hgt, .int .i64 t.bck, .bool t.rnd, .int .i64 t.plc, .int .i64 t.mnr, .bool t.vcd]

set_option maxHeartbeats 1000000 in
set_option maxRecDepth 100000 in
theorem refIs_any (p : Ph) (w : World) : Calls Try.prog 43 #[.agg #[.int .i32 p.1, .bool p.2.1, .int .i32 p.2.2]] w fun e w' => e = .returned (.bool (isF p)) ∧ Below w.heap.size w w' := by
  have hI : isF p = ((tabF p.1).isSome && (decide (p.2.2 = 0) || ((traits p.1).vow && (decide (p.2.2 = 105) || decide (p.2.2 = 117))))) := rfl
  have HI := Lib.hid hI
  clear hI
  go_enter Try.func43, Try.ntmps43
  go_upto_region 1 with (fail)
  refine wp_abs (fun wx => Below w.heap.size w wx ∧ Blk wx w.heap.size 43 #[.int .i32 p.1, .bool p.2.1, .int .i32 p.2.2]) ⟨(Below.refl _ _).alloc (Nat.le_refl _) _, Blk.new _ _ _⟩ ?_
  generalize hpb : w.heap.size = pb
  rintro wx ⟨hb, hx⟩
  rw [← hpb] at hb
  have c0 : wx.cell? ⟨pb, 0, none⟩ = some (.int .i32 p.1) := hx.cell 0
  have HX := Lib.hid (And.intro hb hx)
  have HPB := Lib.hid hpb
  clear hb hx hpb
  go_wp2_with fail
  refine (refOf_any p.1 _).mono ?_
  rintro e w1 ⟨rfl, hb⟩
  have H1 := Lib.hid (And.intro (HX.out.1.trans (hb.mono HX.out.1.size)) (HX.out.2.below hb HX.out.2.lt))
  clear hb HX c0
  go_upto_region 2 with (fail)
  refine wp_abs (fun wy => Below w.heap.size w wy ∧ Blk wy pb 43 #[.int .i32 p.1, .bool p.2.1, .int .i32 p.2.2] ∧ wy.cell? ⟨w1.heap.size, 0, none⟩ = some (.bool (traits p.1).vow)) ⟨H1.out.1.trans (((Below.refl _ _).alloc (Nat.le_refl _) _).mono H1.out.1.size), H1.out.2.alloc _, (Blk.new _ _ _).cell 0⟩ ?_
  generalize w1.heap.size = tb
  clear H1
  rintro w2 ⟨hb, hx, d0⟩
  have g2 : w2.cell? ⟨pb, 2, none⟩ = some (.int .i32 p.2.2) := hx.cell 2
  have HX := Lib.hid hb
  clear hb hx
  cases h1 : (tabF p.1).isSome with
  | false =>
    have HR := Lib.hid (show isF p = false by rw [HI.out, h1]; rfl)
    go_wp2
    go_ret
    exact ⟨by rw [HR.out]; rfl, HX.out⟩
  | true =>
    by_cases h2 : p.2.2 = 0
    · have HR := Lib.hid (show isF p = true by rw [HI.out, h1]; simp [h2])
      have q : (p.2.2 == 0) = true := by simpa using h2
      clear h2
      go_wp2
      go_ret
      exact ⟨by rw [HR.out]; rfl, HX.out⟩
    · have q : (p.2.2 == 0) = false := by simpa using h2
      cases h3 : (traits p.1).vow with
      | false =>
        have HR := Lib.hid (show isF p = false by rw [HI.out, h1, h3]; simp [h2])
        clear h2
        rw [h3] at d0
        go_wp2
        go_ret
        exact ⟨by rw [HR.out]; rfl, HX.out⟩
      | true =>
        rw [h3] at d0
        by_cases h4 : p.2.2 = 105
        · have HR := Lib.hid (show isF p = true by rw [HI.out, h1, h3]; simp [h4])
          have q' : (p.2.2 == 105) = true := by simpa using h4
          clear h4 h2
          go_wp2
          go_ret
          exact ⟨by rw [HR.out]; rfl, HX.out⟩
        · have q' : (p.2.2 == 105) = false := by simpa using h4
          have HR := Lib.hid (show isF p = (p.2.2 == 117) by rw [HI.out, h1, h3]; simp [h2, h4]; by_cases h5 : p.2.2 = 117 <;> simp [h5])
          clear h4 h2
          go_wp2
          go_ret
          exact ⟨by rw [HR.out]; rfl, HX.out⟩

theorem refFar_any (a b : Int) (w : World) (ha : 0 ≤ a ∧ a ≤ 1000) (hb : 0 ≤ b ∧ b ≤ 1000) : Calls Try.prog 117 #[.int .i64 a, .int .i64 b] w fun e w' => e = .returned (.int .i64 (farF a b)) ∧ w' = w := by
  obtain ⟨a1, a2⟩ := ha
  obtain ⟨b1, b2⟩ := hb
  by_cases h : a < b
  · have q : decide (a < b) = true := by simpa using h
    have hf : farF a b = b - a := by unfold farF; omega
    have HF := Lib.hid hf
    have wk : IntKind.i64.wrap (b - a) = b - a := IntWalk.i64_in _ (by omega)
    clear hf
    go_enter Try.func117, Try.ntmps117
    go_wp2
    go_ret
    exact ⟨by rw [HF.out]; rfl, rfl⟩
  · have q : decide (a < b) = false := by simpa using h
    have hf : farF a b = a - b := by unfold farF; omega
    have HF := Lib.hid hf
    have wk : IntKind.i64.wrap (a - b) = a - b := IntWalk.i64_in _ (by omega)
    clear hf
    go_enter Try.func117, Try.ntmps117
    go_wp2
    go_ret
    exact ⟨by rw [HF.out]; rfl, rfl⟩
end Go.Proofs.Ytogofchpocoebaa

namespace Go.Proofs.Ytogofchpocoebaa
open Go.RowKit Go.Maps

theorem traits_vow {r : Int} (h : (traits r).vow = true) : (traits r).plc = 0 ∧ (traits r).mnr = 0 ∧ (traits r).vcd = false := by
  have h1 := traits_ok r
  simp only [trOk, Bool.and_eq_true, decide_eq_true_eq] at h1
  have h2 := h1.2
  rw [if_pos h] at h2
  simp only [Bool.and_eq_true, decide_eq_true_eq, Bool.not_eq_true'] at h2
  exact ⟨h2.1.1, h2.1.2, h2.2⟩
theorem traits_con {r : Int} (h : (traits r).vow = false) : (traits r).hgt = 0 ∧ (traits r).bck = 0 ∧ (traits r).rnd = false := by
  have h1 := traits_ok r
  simp only [trOk, Bool.and_eq_true, decide_eq_true_eq] at h1
  have h2 := h1.2
  rw [if_neg (by rw [h]; decide)] at h2
  simp only [Bool.and_eq_true, decide_eq_true_eq, Bool.not_eq_true'] at h2
  exact ⟨h2.1.1, h2.1.2, h2.2⟩
theorem far_zero : farF 0 0 = 0 := by decide
/-- by all traits at once -/
theorem apart_all (p q : Ph) : apartF p q = if (traits p.1).vow != (traits q.1).vow then 40 else
    3 * farF (traits p.1).hgt (traits q.1).hgt + 2 * farF (traits p.1).bck (traits q.1).bck + 2 * farF (traits p.1).plc (traits q.1).plc + 3 * farF (traits p.1).mnr (traits q.1).mnr
      + bit ((traits p.1).rnd != (traits q.1).rnd || (traits p.1).vcd != (traits q.1).vcd) 1 + bit (p.2.1 != q.2.1) 2 + bit (p.2.2 != q.2.2) 3 := by
  unfold apartF
  cases hp : (traits p.1).vow <;> cases hq : (traits q.1).vow
  · obtain ⟨a1, a2, a3⟩ := traits_con hp
    obtain ⟨b1, b2, b3⟩ := traits_con hq
    rw [a1, a2, a3, b1, b2, b3, far_zero]
    simp
  · rfl
  · rfl
  · obtain ⟨a1, a2, a3⟩ := traits_vow hp
    obtain ⟨b1, b2, b3⟩ := traits_vow hq
    rw [a1, a2, a3, b1, b2, b3, far_zero]
    simp

set_option maxHeartbeats 1000000 in
set_option maxRecDepth 100000 in
theorem refLone_any (p : Ph) (w : World) : Calls Try.prog 45 #[.agg #[.int .i32 p.1, .bool p.2.1, .int .i32 p.2.2]] w fun e w' => e = .returned (.int .i64 (loneF p)) ∧ Below w.heap.size w w' := by
  have hI : loneF p = (if (traits p.1).vow then 14 else 10) + bit p.2.1 2 + bit (p.2.2 != 0) 3 := rfl
  have HI := Lib.hid hI
  clear hI
  go_enter Try.func45, Try.ntmps45
  go_upto_region 1 with (fail)
  refine wp_abs (fun wx => Below w.heap.size w wx ∧ Blk wx w.heap.size 43 #[.int .i32 p.1, .bool p.2.1, .int .i32 p.2.2]) ⟨(Below.refl _ _).alloc (Nat.le_refl _) _, Blk.new _ _ _⟩ ?_
  generalize hpb : w.heap.size = pb
  rintro wx ⟨hb, hx⟩
  rw [← hpb] at hb
  have c0 : wx.cell? ⟨pb, 0, none⟩ = some (.int .i32 p.1) := hx.cell 0
  have HX := Lib.hid (And.intro hb hx)
  clear hb hx hpb
  go_wp2_with fail
  refine (refOf_any p.1 _).mono ?_
  rintro e w1 ⟨rfl, hb⟩
  have H1 := Lib.hid (And.intro (HX.out.1.trans (hb.mono HX.out.1.size)) (HX.out.2.below hb HX.out.2.lt))
  clear hb HX c0
  go_upto_region 2 with (fail)
  refine wp_abs (fun wy => Below w.heap.size w wy ∧ Blk wy pb 43 #[.int .i32 p.1, .bool p.2.1, .int .i32 p.2.2] ∧ wy.cell? ⟨w1.heap.size, 0, none⟩ = some (.bool (traits p.1).vow)) ⟨H1.out.1.trans (((Below.refl _ _).alloc (Nat.le_refl _) _).mono H1.out.1.size), H1.out.2.alloc _, (Blk.new _ _ _).cell 0⟩ ?_
  generalize w1.heap.size = tb
  clear H1
  rintro w2 ⟨hb, hx, d0⟩
  have g1 : w2.cell? ⟨pb, 1, none⟩ = some (.bool p.2.1) := hx.cell 1
  have g2 : w2.cell? ⟨pb, 2, none⟩ = some (.int .i32 p.2.2) := hx.cell 2
  have HX := Lib.hid hb
  clear hb hx
  generalize (tabF p.1).isSome = ok
  cases hv : (traits p.1).vow <;> cases hl : p.2.1 <;> cases hg : (p.2.2 == 0)
  all_goals
    rw [hv] at d0
    rw [hl] at g1
    go_wp2
    go_ret
    exact ⟨ret_int (by rw [HI.out]; unfold bne; rw [hv, hl, hg]; rfl), HX.out⟩

set_option maxHeartbeats 4000000 in
set_option maxRecDepth 100000 in
theorem refApart_any (p q : Ph) (w : World) : Calls Try.prog 44 #[.agg #[.int .i32 p.1, .bool p.2.1, .int .i32 p.2.2], .agg #[.int .i32 q.1, .bool q.2.1, .int .i32 q.2.2]] w fun e w' => e = .returned (.int .i64 (apartF p q)) ∧ Below w.heap.size w w' := by
  have h1 := traits_ok' p.1
  have h2 := traits_ok' q.1
  have HV := Lib.hid (apart_all p q)
  go_enter Try.func44, Try.ntmps44
  go_upto_region 1 with (fail)
  refine wp_abs (fun wx => Below w.heap.size w wx ∧ Blk wx w.heap.size 43 #[.int .i32 p.1, .bool p.2.1, .int .i32 p.2.2] ∧ Blk wx (w.heap.size + 1) 43 #[.int .i32 q.1, .bool q.2.1, .int .i32 q.2.2]) ⟨((Below.refl _ _).alloc (Nat.le_refl _) _).alloc (by simp) _, (Blk.new _ _ _).alloc _, blk_new_eq (by simp)⟩ ?_
  generalize hpb : w.heap.size = pb
  generalize hqb : pb + 1 = qb
  rintro wx ⟨hb, hx, hy⟩
  rw [← hpb] at hb
  have c0 : wx.cell? ⟨pb, 0, none⟩ = some (.int .i32 p.1) := hx.cell 0
  have HX := Lib.hid (And.intro hb (And.intro hx hy))
  clear hb hx hy hpb hqb
  go_wp2_with fail
  refine (refOf_any p.1 _).mono ?_
  rintro e w1 ⟨rfl, hb⟩
  have H1 := Lib.hid (And.intro (HX.out.1.trans (hb.mono HX.out.1.size)) (And.intro (HX.out.2.1.below hb HX.out.2.1.lt) (HX.out.2.2.below hb HX.out.2.2.lt)))
  clear hb HX c0
  go_upto_region 2 with (fail)
  refine wp_abs (fun wy => Below w.heap.size w wy ∧ (Blk wy pb 43 #[.int .i32 p.1, .bool p.2.1, .int .i32 p.2.2] ∧ Blk wy qb 43 #[.int .i32 q.1, .bool q.2.1, .int .i32 q.2.2]) ∧ Blk wy w1.heap.size 56 #[.bool (traits p.1).vow, .int .i64 (traits p.1).hgt, .int .i64 (traits p.1).bck, .bool (traits p.1).rnd, .int .i64 (traits p.1).plc, .int .i64 (traits p.1).mnr, .bool (traits p.1).vcd]) ⟨H1.out.1.trans (((Below.refl _ _).alloc (Nat.le_refl _) _).mono H1.out.1.size), ⟨H1.out.2.1.alloc _, H1.out.2.2.alloc _⟩, (Blk.new _ _ _)⟩ ?_
  generalize w1.heap.size = xb
  clear H1
  rintro w2 ⟨hb, ⟨hx, hy⟩, hs⟩
  have c0 : w2.cell? ⟨qb, 0, none⟩ = some (.int .i32 q.1) := hy.cell 0
  have HX := Lib.hid (And.intro hb (And.intro (And.intro hx hy) hs))
  clear hb hx hy hs
  go_wp2_with fail
  refine (refOf_any q.1 _).mono ?_
  rintro e w3 ⟨rfl, hb⟩
  have H1 := Lib.hid (And.intro (HX.out.1.trans (hb.mono HX.out.1.size)) (And.intro (And.intro (HX.out.2.1.1.below hb HX.out.2.1.1.lt) (HX.out.2.1.2.below hb HX.out.2.1.2.lt)) (HX.out.2.2.below hb HX.out.2.2.lt)))
  clear hb HX c0
  go_upto_region 3 with (fail)
  refine wp_abs (fun wy => Below w.heap.size w wy ∧ (Blk wy pb 43 #[.int .i32 p.1, .bool p.2.1, .int .i32 p.2.2] ∧ Blk wy qb 43 #[.int .i32 q.1, .bool q.2.1, .int .i32 q.2.2]) ∧ Blk wy xb 56 #[.bool (traits p.1).vow, .int .i64 (traits p.1).hgt, .int .i64 (traits p.1).bck, .bool (traits p.1).rnd, .int .i64 (traits p.1).plc, .int .i64 (traits p.1).mnr, .bool (traits p.1).vcd] ∧ Blk wy w3.heap.size 56 #[.bool (traits q.1).vow, .int .i64 (traits q.1).hgt, .int .i64 (traits q.1).bck, .bool (traits q.1).rnd, .int .i64 (traits q.1).plc, .int .i64 (traits q.1).mnr, .bool (traits q.1).vcd]) ⟨H1.out.1.trans (((Below.refl _ _).alloc (Nat.le_refl _) _).mono H1.out.1.size), ⟨H1.out.2.1.1.alloc _, H1.out.2.1.2.alloc _⟩, H1.out.2.2.alloc _, (Blk.new _ _ _)⟩ ?_
  generalize w3.heap.size = yb
  clear H1
  generalize (tabF p.1).isSome = ok1
  generalize (tabF q.1).isSome = ok2
  generalize traits p.1 = s at *
  generalize traits q.1 = t at *
  rintro wc HC'
  have HC := Lib.hid HC'
  clear HC'
  have x0 : wc.cell? ⟨xb, 0, none⟩ = some (.bool s.vow) := HC.out.2.2.1.cell 0
  have y0 : wc.cell? ⟨yb, 0, none⟩ = some (.bool t.vow) := HC.out.2.2.2.cell 0
  have x1 : wc.cell? ⟨xb, 1, none⟩ = some (.int .i64 s.hgt) := HC.out.2.2.1.cell 1
  have y1 : wc.cell? ⟨yb, 1, none⟩ = some (.int .i64 t.hgt) := HC.out.2.2.2.cell 1
  have x2 : wc.cell? ⟨xb, 2, none⟩ = some (.int .i64 s.bck) := HC.out.2.2.1.cell 2
  have y2 : wc.cell? ⟨yb, 2, none⟩ = some (.int .i64 t.bck) := HC.out.2.2.2.cell 2
  have x3 : wc.cell? ⟨xb, 3, none⟩ = some (.bool s.rnd) := HC.out.2.2.1.cell 3
  have y3 : wc.cell? ⟨yb, 3, none⟩ = some (.bool t.rnd) := HC.out.2.2.2.cell 3
  have x4 : wc.cell? ⟨xb, 4, none⟩ = some (.int .i64 s.plc) := HC.out.2.2.1.cell 4
  have y4 : wc.cell? ⟨yb, 4, none⟩ = some (.int .i64 t.plc) := HC.out.2.2.2.cell 4
  have x5 : wc.cell? ⟨xb, 5, none⟩ = some (.int .i64 s.mnr) := HC.out.2.2.1.cell 5
  have y5 : wc.cell? ⟨yb, 5, none⟩ = some (.int .i64 t.mnr) := HC.out.2.2.2.cell 5
  have x6 : wc.cell? ⟨xb, 6, none⟩ = some (.bool s.vcd) := HC.out.2.2.1.cell 6
  have y6 : wc.cell? ⟨yb, 6, none⟩ = some (.bool t.vcd) := HC.out.2.2.2.cell 6
  have p1 : wc.cell? ⟨pb, 1, none⟩ = some (.bool p.2.1) := HC.out.2.1.1.cell 1
  have q1 : wc.cell? ⟨qb, 1, none⟩ = some (.bool q.2.1) := HC.out.2.1.2.cell 1
  have p2 : wc.cell? ⟨pb, 2, none⟩ = some (.int .i32 p.2.2) := HC.out.2.1.1.cell 2
  have q2 : wc.cell? ⟨qb, 2, none⟩ = some (.int .i32 q.2.2) := HC.out.2.1.2.cell 2
  obtain ⟨⟨i1, i2⟩, ⟨i3, i4⟩, ⟨i5, i6⟩, i7, i8⟩ := h1
  obtain ⟨⟨j1, j2⟩, ⟨j3, j4⟩, ⟨j5, j6⟩, j7, j8⟩ := h2
  obtain ⟨g11, g12⟩ : 0 ≤ farF s.hgt t.hgt ∧ farF s.hgt t.hgt ≤ 6 := by unfold farF; omega
  obtain ⟨g21, g22⟩ : 0 ≤ farF s.bck t.bck ∧ farF s.bck t.bck ≤ 2 := by unfold farF; omega
  obtain ⟨g31, g32⟩ : 0 ≤ farF s.plc t.plc ∧ farF s.plc t.plc ≤ 6 := by unfold farF; omega
  obtain ⟨g41, g42⟩ : 0 ≤ farF s.mnr t.mnr ∧ farF s.mnr t.mnr ≤ 5 := by unfold farF; omega
  cases hvv : (s.vow == t.vow) with
  | false =>
    go_wp2
    go_ret
    exact ⟨ret_int (by rw [HV.out]; unfold bne; rw [hvv]; rfl), HC.out.1⟩
  | true =>
    go_upto_region 5 with (fail)
    go_region_held3 (fun W' => (W'.cell? ⟨xb, 1, none⟩ = some (.int .i64 s.hgt) ∧ W'.cell? ⟨yb, 1, none⟩ = some (.int .i64 t.hgt)) ∧ (W'.cell? ⟨xb, 2, none⟩ = some (.int .i64 s.bck) ∧ W'.cell? ⟨yb, 2, none⟩ = some (.int .i64 t.bck)) ∧ (W'.cell? ⟨xb, 4, none⟩ = some (.int .i64 s.plc) ∧ W'.cell? ⟨yb, 4, none⟩ = some (.int .i64 t.plc)) ∧ W'.cell? ⟨xb, 5, none⟩ = some (.int .i64 s.mnr) ∧ W'.cell? ⟨yb, 5, none⟩ = some (.int .i64 t.mnr))
      ((exact ⟨⟨HC.out.2.2.1.cell 1, HC.out.2.2.2.cell 1⟩, ⟨HC.out.2.2.1.cell 2, HC.out.2.2.2.cell 2⟩, ⟨HC.out.2.2.1.cell 4, HC.out.2.2.2.cell 4⟩, HC.out.2.2.1.cell 5, HC.out.2.2.2.cell 5⟩))
      (first
        | (go_at_call 117
           refine (refFar_any _ _ _ (by omega) (by omega)).mono ?_
           rintro e w' ⟨rfl, rfl⟩))
    all_goals
      have e1 : IntKind.i64.wrap (3 * farF s.hgt t.hgt) = 3 * farF s.hgt t.hgt := IntWalk.i64_in _ (by omega)
      have e2 : IntKind.i64.wrap (2 * farF s.bck t.bck) = 2 * farF s.bck t.bck := IntWalk.i64_in _ (by omega)
      have e3 : IntKind.i64.wrap (3 * farF s.hgt t.hgt + 2 * farF s.bck t.bck) = 3 * farF s.hgt t.hgt + 2 * farF s.bck t.bck := IntWalk.i64_in _ (by omega)
      have e4 : IntKind.i64.wrap (2 * farF s.plc t.plc) = 2 * farF s.plc t.plc := IntWalk.i64_in _ (by omega)
      have e5 : IntKind.i64.wrap (3 * farF s.hgt t.hgt + 2 * farF s.bck t.bck + 2 * farF s.plc t.plc) = 3 * farF s.hgt t.hgt + 2 * farF s.bck t.bck + 2 * farF s.plc t.plc := IntWalk.i64_in _ (by omega)
      have e6 : IntKind.i64.wrap (3 * farF s.mnr t.mnr) = 3 * farF s.mnr t.mnr := IntWalk.i64_in _ (by omega)
      have e7 : IntKind.i64.wrap (3 * farF s.hgt t.hgt + 2 * farF s.bck t.bck + 2 * farF s.plc t.plc + 3 * farF s.mnr t.mnr) = 3 * farF s.hgt t.hgt + 2 * farF s.bck t.bck + 2 * farF s.plc t.plc + 3 * farF s.mnr t.mnr := IntWalk.i64_in _ (by omega)
      simp only [e1, e2, e3, e4, e5, e6, e7]
      clear e1 e2 e3 e4 e5 e6 e7
      have hA := HV.out
      unfold bne at hA
      rw [hvv] at hA
      obtain ⟨nS, hS, hn0, hn1⟩ : ∃ n : Int, 3 * farF s.hgt t.hgt + 2 * farF s.bck t.bck + 2 * farF s.plc t.plc + 3 * farF s.mnr t.mnr = n ∧ 0 ≤ n ∧ n ≤ 60 := ⟨_, rfl, by omega, by omega⟩
      simp only [hS] at hA ⊢
      have HA := Lib.hid hA
      clear hA hS g11 g12 g21 g22 g31 g32 g41 g42 HV
      cases hr : (s.rnd == t.rnd) <;> cases hc : (s.vcd == t.vcd) <;> cases hl : (p.2.1 == q.2.1) <;> cases hg : (p.2.2 == q.2.2)
    all_goals
      go_wp2
      go_ret
      exact ⟨ret_int (by rw [HA.out, hr, hc, hl, hg]; simp [bit]), (by first | exact HC.out.1.drewNB _ | exact Below.drewB HC.out.1 | exact HC.out.1)⟩
end Go.Proofs.Ytogofchpocoebaa

namespace Go.Proofs.Ytogofchpocoebaa
open Go.RowKit Go.Maps

def wkS : ByteArray := ⟨#[107, 97, 203, 144, 117, 204, 175, 116]⟩
def wkL : List Ph := [(107, false, 0), (97, true, 117), (116, false, 0)]
def wkM : List Ph := [(107, false, 0), (116, false, 0)]
theorem wk_read : readL wkS.data.toList = (wkL, 0, 0) := by decide +kernel
theorem wk_prE : prE wkL = 0 := by decide +kernel
theorem wk_prS : prS wkL = wkS := by decide +kernel
theorem wk_dsE : dsE wkL wkM = 0 := by decide +kernel
theorem wk_dsV : dsV wkL wkM = 19 := by decide +kernel
theorem wk_fitL : ∀ p ∈ wkL, fitP p := by
  intro p hp
  simp [wkL] at hp
  rcases hp with rfl | rfl | rfl <;> (refine ⟨⟨?_, ?_⟩, ?_, ?_⟩ <;> decide)
theorem wk_fitM : ∀ p ∈ wkM, fitP p := by
  intro p hp
  simp [wkM] at hp
  rcases hp with rfl | rfl <;> (refine ⟨⟨?_, ?_⟩, ?_, ?_⟩ <;> decide)

theorem rdM (w : World) : Rd (w.alloc (.cells #[.int .i32 107, .bool false, .int .i32 0, .int .i32 116, .bool false, .int .i32 0] 43)) w.heap.size (w.alloc (.cells #[.int .i32 107, .bool false, .int .i32 0, .int .i32 116, .bool false, .int .i32 0] 43)).heap.size 3 (some ⟨w.heap.size, 0, none⟩) 2 (phs wkM) := by
  refine ⟨rfl, fun _ => ⟨w.heap.size, 0, rfl, Nat.le_refl _, by simp, fun j u hu => ?_⟩⟩
  rw [Nat.zero_add, (Blk.new w 43 _).cell]
  have e : (#[.int .i32 107, .bool false, .int .i32 0, .int .i32 116, .bool false, .int .i32 0] : Array Value) = (phs wkM).toArray := rfl
  rw [e, List.getElem?_toArray]
  exact hu

set_option maxHeartbeats 4000000 in
set_option maxRecDepth 100000 in
theorem works_any (w : World) : Calls Try.prog 40 #[] w fun e w' => e = .returned (.bool true) ∧ Below w.heap.size w w' := by
  go_enter Try.func40, Try.ntmps40
  go_wp2_with fail
  refine (read_any wkS _ (by decide)).mono ?_
  rintro e w1 ⟨v, rfl, ho, hb⟩
  rw [wk_read] at ho ⊢
  obtain ⟨A, c, rfl⟩ := own_slice ho
  have hr := own_rd ho
  have hc := own_cap ho
  have e3 : wkL.length = 3 := rfl
  rw [e3] at hr hc ⊢
  have H1 := Lib.hid (And.intro hr hb)
  clear hr hb ho e3
  go_upto_region 2 with (fail)
  refine wp_abs (fun wx => Rd wx w.heap.size w1.heap.size 3 A 3 (phs wkL) ∧ Below w.heap.size w wx ∧ Blk wx w1.heap.size 68 #[.int .i64 0, .int .i64 0]) ⟨H1.out.1.below ((Below.refl _ _).alloc (Nat.le_refl _) _) (Nat.le_refl _), H1.out.2.trans (((Below.refl _ _).alloc (Nat.le_refl _) _).mono H1.out.2.size), Blk.new _ _ _⟩ ?_
  generalize w1.heap.size = sb
  clear H1
  rintro w2 ⟨hr, hb, hs⟩
  have H2 := Lib.hid (And.intro hr (And.intro hb hs))
  clear hr hb hs
  go_wp2_with fail
  refine (print_any A 3 c w.heap.size wkL _ (H2.out.1.more (Nat.le_refl _) (Nat.le_of_lt H2.out.2.2.lt)) wk_fitL (by decide)).mono ?_
  rintro e w3 ⟨rfl, hb⟩
  rw [wk_prE, wk_prS]
  have H3 := Lib.hid (And.intro (H2.out.1.below hb (Nat.le_of_lt H2.out.2.2.lt)) (And.intro (H2.out.2.1.trans (hb.mono H2.out.2.1.size)) (H2.out.2.2.below hb H2.out.2.2.lt)))
  clear hb H2
  have hs3 := H3.out.2.2.lt
  go_wp2_with fail
  refine (distance_any A _ 3 c 2 _ w.heap.size w3.heap.size wkL wkM _ (H3.out.1.below ((Below.refl _ _).alloc (Nat.le_refl _) _) (by omega) |>.more (Nat.le_refl _) (by simp; omega)) (rdM _) wk_fitL wk_fitM).mono ?_
  rintro e w4 ⟨rfl, hb⟩
  rw [wk_dsE, wk_dsV]
  have hb0 : Below w3.heap.size w3 w4 := ((Below.refl _ _).alloc (Nat.le_refl _) _).trans (hb.mono (by simp))
  have H4 := Lib.hid (And.intro (H3.out.1.below hb0 (by omega)) (And.intro (H3.out.2.1.trans (hb0.mono H3.out.2.1.size)) (H3.out.2.2.below hb0 hs3)))
  clear hb hb0 H3
  obtain ⟨b, o, hl, rfl, _, _, a0, a1, a2⟩ := H4.out.1.ph (k := 1) (by decide)
  have s0 : w4.cell? ⟨sb, 0, none⟩ = some (.int .i64 0) := H4.out.2.2.cell 0
  have s1 : w4.cell? ⟨sb, 1, none⟩ = some (.int .i64 0) := H4.out.2.2.cell 1
  have e1 : wkL[1] = (97, true, 117) := rfl
  rw [e1] at a0 a1 a2
  simp only [Nat.one_mul] at a0 a1 a2
  simp only [wkS]
  clear e1 hl
  go_wp2
  go_ret
  exact ⟨rfl, H4.out.2.1⟩
end Go.Proofs.Ytogofchpocoebaa

namespace Go.Proofs.Ytogofchpocoebaa
open Go.RowKit Go.Maps

/-- memory while the law runs -/
structure PcSt (w0 : World) (pb qb : Nat) (p q : Ph) (W : World) : Prop where
  below : Below w0.heap.size w0 W
  bp : Blk W pb 43 #[.int .i32 p.1, .bool p.2.1, .int .i32 p.2.2]
  bq : Blk W qb 43 #[.int .i32 q.1, .bool q.2.1, .int .i32 q.2.2]
theorem PcSt.on {w0 : World} {pb qb : Nat} {p q : Ph} {W W' : World} (h : PcSt w0 pb qb p q W) (hb : Below W.heap.size W W') : PcSt w0 pb qb p q W' :=
  ⟨h.below.trans (hb.mono h.below.size), h.bp.below hb h.bp.lt, h.bq.below hb h.bq.lt⟩
theorem PcSt.cells {w0 : World} {pb qb : Nat} {p q : Ph} {W : World} (h : PcSt w0 pb qb p q W) : (W.cell? ⟨pb, 0, none⟩ = some (.int .i32 p.1) ∧ W.cell? ⟨pb, 1, none⟩ = some (.bool p.2.1) ∧ W.cell? ⟨pb, 2, none⟩ = some (.int .i32 p.2.2)) ∧ W.cell? ⟨qb, 0, none⟩ = some (.int .i32 q.1) ∧ W.cell? ⟨qb, 1, none⟩ = some (.bool q.2.1) ∧ W.cell? ⟨qb, 2, none⟩ = some (.int .i32 q.2.2) :=
  ⟨⟨h.bp.cell 0, h.bp.cell 1, h.bp.cell 2⟩, h.bq.cell 0, h.bq.cell 1, h.bq.cell 2⟩

set_option maxHeartbeats 2000000 in
set_option maxRecDepth 100000 in
theorem phoneCosts_any (p q : Ph) (w : World) (hp : fit32 p.1) (hq : fit32 q.1) : Calls Try.prog 4 #[.agg #[.int .i32 p.1, .bool p.2.1, .int .i32 p.2.2], .agg #[.int .i32 q.1, .bool q.2.1, .int .i32 q.2.2]] w fun e w' => e = .returned (.bool true) ∧ Below w.heap.size w w' := by
  have HF := Lib.hid (And.intro hp hq)
  clear hp hq
  go_enter Try.func4, Try.ntmps4
  go_upto_region 1 with (fail)
  refine wp_abs (PcSt w w.heap.size (w.heap.size + 1) p q) ⟨((Below.refl _ _).alloc (Nat.le_refl _) _).alloc (by simp) _, (Blk.new _ _ _).alloc _, blk_new_eq (by simp)⟩ ?_
  generalize hpb : w.heap.size = pb
  generalize hqb : pb + 1 = qb
  clear hpb hqb
  rintro w1 hs
  have H1 := Lib.hid hs
  clear hs
  go_wp2_with fail
  refine (works_any _).mono ?_
  rintro e w2 ⟨rfl, hb⟩
  have H2 := Lib.hid (H1.out.on hb)
  clear H1 hb
  obtain ⟨⟨a0, a1, a2⟩, b0, b1, b2⟩ := H2.out.cells
  go_wp2_with fail
  refine (Apart_any p q _ HF.out.1 HF.out.2).mono ?_
  rintro e w3 ⟨rfl, hb⟩
  have H3 := Lib.hid (H2.out.on hb)
  clear H2 hb a0 a1 a2 b0 b1 b2
  obtain ⟨⟨a0, a1, a2⟩, b0, b1, b2⟩ := H3.out.cells
  go_wp2_with fail
  refine (Lone_any p _ HF.out.1).mono ?_
  rintro e wx ⟨rfl, hb⟩
  have HX := Lib.hid (H3.out.on hb)
  clear H3 hb a0 a1 a2 b0 b1 b2
  have hK : ∀ W', Below wx.heap.size wx W' → (W'.cell? ⟨pb, 0, none⟩ = some (.int .i32 p.1) ∧ W'.cell? ⟨pb, 1, none⟩ = some (.bool p.2.1) ∧ W'.cell? ⟨pb, 2, none⟩ = some (.int .i32 p.2.2)) ∧ W'.cell? ⟨qb, 0, none⟩ = some (.int .i32 q.1) ∧ W'.cell? ⟨qb, 1, none⟩ = some (.bool q.2.1) ∧ W'.cell? ⟨qb, 2, none⟩ = some (.int .i32 q.2.2) := fun W' hb => (HX.out.on hb).cells
  have HK := Lib.hid hK
  clear hK
  obtain ⟨⟨a0, a1, a2⟩, b0, b1, b2⟩ := HX.out.cells
  have HV := Lib.hid (And.intro (show apV p q = if isF p && isF q then apartF p q else 0 from rfl) (show apE p q = if isF p && isF q then 0 else 2 from rfl))
  have HW := Lib.hid (And.intro (show loneV p = if isF p then loneF p else 0 from rfl) (show loneE p = if isF p then 0 else 2 from rfl))
  generalize apV p q = av at *
  generalize apE p q = ae at *
  generalize loneV p = lv at *
  generalize loneE p = le at *
  go_upto_region 5 with (fail)
  go_region_held3 (fun W' => (W'.cell? ⟨pb, 0, none⟩ = some (.int .i32 p.1) ∧ W'.cell? ⟨pb, 1, none⟩ = some (.bool p.2.1) ∧ W'.cell? ⟨pb, 2, none⟩ = some (.int .i32 p.2.2)) ∧ W'.cell? ⟨qb, 0, none⟩ = some (.int .i32 q.1) ∧ W'.cell? ⟨qb, 1, none⟩ = some (.bool q.2.1) ∧ W'.cell? ⟨qb, 2, none⟩ = some (.int .i32 q.2.2))
    ((refine HK.out _ ?_; first | exact HZ.out | exact ⟨rfl, rfl, rfl, Nat.le_refl _, fun _ _ => rfl⟩))
    (first
      | (go_at_call 43
         refine (refIs_any _ _).mono ?_
         rintro e wz ⟨rfl, hb⟩
         have HZ : Hid (Below wx.heap.size wx wz) := Lib.hid (by first | exact HZ.out.trans (hb.mono HZ.out.size) | exact ⟨hb.os, hb.tape, hb.output, hb.size, hb.block⟩)
         clear hb))
  all_goals
    have HS := Lib.hid (HX.out.on HZ.out)
    clear HX HK a0 a1 a2 b0 b1 b2
    obtain ⟨⟨a0, a1, a2⟩, b0, b1, b2⟩ := HS.out.cells
    cases hF : isF p with
    | false =>
      obtain ⟨e1, e2⟩ := HV.out
      obtain ⟨e3, e4⟩ := HW.out
      simp only [hF, Bool.false_and, Bool.false_eq_true, if_false] at e1 e2 e3 e4
      subst e1 e2 e3 e4
      clear HV HW
      go_wp2_with fail
      refine (works_any _).mono ?_
      rintro e w9 ⟨rfl, hb⟩
      have H9 := Lib.hid (HS.out.below.trans (hb.mono HS.out.below.size))
      clear hb
      go_wp2
      go_ret
      exact ⟨rfl, H9.out⟩
    | true =>
      cases hG : isF q with
      | false =>
        obtain ⟨e1, e2⟩ := HV.out
        obtain ⟨e3, e4⟩ := HW.out
        simp only [hF, hG, Bool.and_false, Bool.false_eq_true, if_false, if_true] at e1 e2 e3 e4
        subst e1 e2 e3 e4
        clear HV HW
        go_wp2_with fail
        refine (refLone_any p _).mono ?_
        rintro e w7 ⟨rfl, hb⟩
        have H7 := Lib.hid (HS.out.on hb)
        clear hb
        go_wp2_with fail
        refine (works_any _).mono ?_
        rintro e w9 ⟨rfl, hb⟩
        have H9 := Lib.hid (H7.out.below.trans (hb.mono H7.out.below.size))
        clear hb
        go_wp2
        go_ret
        exact ⟨rfl, H9.out⟩
      | true =>
        obtain ⟨e1, e2⟩ := HV.out
        obtain ⟨e3, e4⟩ := HW.out
        simp only [hF, hG, Bool.and_true, if_true] at e1 e2 e3 e4
        subst e1 e2 e3 e4
        clear HV HW
        go_wp2_with fail
        refine (refApart_any p q _).mono ?_
        rintro e w6 ⟨rfl, hb⟩
        have H6 := Lib.hid (HS.out.on hb)
        clear hb a0 a1 a2 b0 b1 b2
        obtain ⟨⟨a0, a1, a2⟩, b0, b1, b2⟩ := H6.out.cells
        go_wp2_with fail
        refine (refLone_any p _).mono ?_
        rintro e w7 ⟨rfl, hb⟩
        have H7 := Lib.hid (H6.out.on hb)
        clear hb
        go_wp2_with fail
        refine (works_any _).mono ?_
        rintro e w9 ⟨rfl, hb⟩
        have H9 := Lib.hid (H7.out.below.trans (hb.mono H7.out.below.size))
        clear hb
        go_wp2
        go_ret
        exact ⟨rfl, H9.out⟩
end Go.Proofs.Ytogofchpocoebaa
