/- The law SyllableKnown, walked. -/
import Derived.Test.YtogofchpocoebaaW28
import Derived.Test.YtogofchpocoebaaW10
import Derived.Test.YtogofchpocoebaaW12
import Derived.Test.YtogofchpocoebaaW17
import Derived.Test.YtogofchpocoebaaR1
namespace Go.Proofs.Ytogofchpocoebaa
open Go.RowKit Go.Maps

def t1C (x : ByteArray × Bool) : List Value := [.string x.1, .bool x.2]
def T1 : List (ByteArray × Bool) := [(⟨#[]⟩, true), (⟨#[197, 139]⟩, false), (⟨#[116, 114]⟩, true), (⟨#[114, 116]⟩, false), (⟨#[115, 112]⟩, true), (⟨#[115, 112, 108]⟩, true), (⟨#[116, 108]⟩, true), (⟨#[97]⟩, false), (⟨#[115, 109]⟩, true), (⟨#[115, 112, 110]⟩, false), (⟨#[115, 116, 114, 108]⟩, false)]
theorem T1_ok : T1.all (fun x => decide (x.1.size ≤ 1000) && (rwF x.1).all isF && (onsetF (rwF x.1) == x.2)) = true := by decide +kernel
def t2C (x : ByteArray × ByteArray) : List Value := [.string x.1, .string x.2]
def T2 : List (ByteArray × ByteArray) := [(⟨#[97, 115, 116, 114, 97]⟩, ⟨#[97, 46, 115, 116, 114, 97]⟩), (⟨#[97, 110, 116, 97]⟩, ⟨#[97, 110, 46, 116, 97]⟩), (⟨#[97, 197, 139, 97]⟩, ⟨#[97, 197, 139, 46, 97]⟩), (⟨#[97, 116, 116, 97]⟩, ⟨#[97, 116, 46, 116, 97]⟩), (⟨#[97, 107, 115, 116, 114, 97]⟩, ⟨#[97, 107, 46, 115, 116, 114, 97]⟩)]
theorem T2_ok : T2.all (fun x => decide (x.1.size ≤ 1000) && (rwF x.1).all isF && (spE (rwF x.1) == 0) && (mayF (rwF x.1) (spL (rwF x.1)) == 0) && (spT (rwF x.1) (spL (rwF x.1)) == x.2.data.toList)) = true := by decide +kernel
def t3C (x : ByteArray × Int × Int) : List Value := [.string x.1, .int .i64 x.2.1, .int .i64 x.2.2]
def T3 : List (ByteArray × Int × Int) := [(⟨#[46, 97]⟩, 111, 0), (⟨#[97, 46]⟩, 111, 1), (⟨#[97, 46, 46, 116, 97]⟩, 111, 2), (⟨#[116, 46, 97]⟩, 110, 1), (⟨#[]⟩, 110, 0), (⟨#[97, 203, 136, 203, 140, 116, 97]⟩, 111, 3), (⟨#[203, 136]⟩, 111, 0), (⟨#[97, 101]⟩, 110, 1), (⟨#[97, 46, 116]⟩, 110, 3), (⟨#[97, 203, 136, 116, 97, 255]⟩, 80, 5)]
theorem T3_ok : T3.all (fun x => decide (x.1.size ≤ 1000) && ((srL x.1.data.toList).1.isEmpty && (srL x.1.data.toList).2.1.isEmpty && (srL x.1.data.toList).2.2.1 == x.2.1 && (srL x.1.data.toList).2.2.2 == x.2.2)) = true := by decide +kernel

theorem tabl_at {α : Type} (c : α → List Value) (sz : Nat) (hc : ∀ a, (c a).length = sz) {W : World} {b : Nat} {t : TypeId} {T : List α} (h : Blk W b t (T.flatMap c).toArray) {k : Nat} (hk : k < T.length) {j : Nat} (hj : j < sz) : W.cell? ⟨b, k * sz + j, none⟩ = (c T[k])[j]? := by
  rw [← flat_at c sz hc T k hk j hj]
  have := h.cell (k * sz + j)
  rw [this]
  simp
theorem rd_blk {W : World} {b sz n : Nat} {t : TypeId} {xs : List Value} (h : Blk W b t xs.toArray) (hn : xs.length = n * sz) : Rd W 0 W.heap.size sz (some ⟨b, 0, none⟩) n xs :=
  ⟨hn, fun _ => ⟨b, 0, rfl, Nat.zero_le _, h.lt, fun j u hu => by
    have := h.cell (0 + j)
    rw [this, Nat.zero_add]
    simpa using hu⟩⟩
def pq1 : List Ph := [(115, true, 0), (112, false, 0)]
def pq2 : List Ph := [(116, true, 0)]
theorem pq1_on : onsetF pq1 = false := by decide +kernel
theorem pq2_on : onsetF pq2 = true := by decide +kernel
def yk3 : List Sy := [(0, 0, 0, 1, false), (0, 0, 0, 0, false), (0, 0, 0, 2, false)]
def yk2 : List Sy := [(0, 0, 0, 0, true), (0, 0, 0, 0, false)]
def yk0 : List Sy := [(0, 0, 0, 0, false), (0, 0, 0, 0, false)]
theorem yk3_pt : ptT yk3 = [92, 120, 47] ∧ ptE yk3 = 0 := by decide +kernel
theorem yk2_wt : wtK yk2 2 = 3 := by decide +kernel
theorem yk0_mn : mnF yk0 = -1 := by decide +kernel
def rst : ByteArray := ⟨#[115, 116]⟩
theorem rst_ok : (rwF rst).all isF = true ∧ spE (rwF rst) = 110 := by decide +kernel

set_option maxHeartbeats 32000000 in
set_option maxRecDepth 100000 in
theorem syllableKnown_any (w : World) : Calls Try.prog 23 #[] w fun e w' => e = .returned (.bool true) ∧ Below w.heap.size w w' := by
  go_enter Try.func23, Try.ntmps23
  go_wp2_with fail
  refine (works11_any _).mono ?_
  rintro e w1 ⟨rfl, hb⟩
  have H1 := Lib.hid hb
  clear hb
  go_upto_region 5 with (fail)
  refine wp_abs (fun wx => Below w.heap.size w wx ∧ Blk wx w1.heap.size 141 (T1.flatMap t1C).toArray) ⟨H1.out.trans (((Below.refl _ _).alloc (Nat.le_refl _) _).mono H1.out.size), Blk.new _ _ _⟩ ?_
  clear H1
  generalize w1.heap.size = tb at *
  rintro w2 h2
  have H2 := Lib.hid h2
  clear h2
  go_loopw [3, 36] (fun _ v36 wr => ∃ k : Nat, k ≤ 11 ∧ v36 = .int .i64 k ∧ Hid (Below w.heap.size w wr ∧ Blk wr tb 141 (T1.flatMap t1C).toArray)) (fun _ v36 _ => 11 - (intOf v36).toNat)
  case atStart => exact ⟨0, by omega, rfl, H2⟩
  case round =>
    obtain ⟨k, hk, rfl, HR⟩ := hrel
    clear H2
    by_cases hlt : k < 11
    · have hkT : k < T1.length := hlt
      have z0 : wr.cell? ⟨tb, k * 2, none⟩ = some (.string T1[k].1) := tabl_at t1C 2 (fun _ => rfl) HR.out.2 hkT (j := 0) (by omega)
      have z1 : wr.cell? ⟨tb, k * 2 + 1, none⟩ = some (.bool T1[k].2) := tabl_at t1C 2 (fun _ => rfl) HR.out.2 hkT (j := 1) (by omega)
      have hok := List.all_eq_true.1 T1_ok _ (List.getElem_mem hkT)
      simp only [Bool.and_eq_true, decide_eq_true_eq, beq_iff_eq] at hok
      generalize T1[k] = x at *
      obtain ⟨x, bo⟩ := x
      obtain ⟨⟨o1, o2⟩, o3⟩ := hok
      have o3 : onsetF (rwF x) = bo := o3
      have HOK := Lib.hid (And.intro (show x.size ≤ 1000 from o1) (And.intro (show (rwF x).all isF = true from o2) o3))
      have z0 : wr.cell? ⟨tb, k * 2, none⟩ = some (.string x) := z0
      have z1 : wr.cell? ⟨tb, k * 2 + 1, none⟩ = some (.bool bo) := z1
      clear o1 o2 o3 hkT
      have i1 : (0 : Int) ≤ (k : Int) := by omega
      have i2 : (k : Int) < 11 := by omega
      go_upto_region 7 with (fail)
      refine wp_abs (fun wx => (Below w.heap.size w wx ∧ Blk wx tb 141 (T1.flatMap t1C).toArray) ∧ Blk wx wr.heap.size 141 #[.string x, .bool bo]) ⟨⟨HR.out.1.trans (((Below.refl _ _).alloc (Nat.le_refl _) _).mono HR.out.1.size), HR.out.2.alloc _⟩, Blk.new _ _ _⟩ ?_
      clear z0 z1 HR
      generalize wr.heap.size = pb at *
      rintro w3 h3
      have H3 := Lib.hid h3
      have y0 : w3.cell? ⟨pb, 0, none⟩ = some (.string x) := h3.2.cell 0
      have y1 : w3.cell? ⟨pb, 1, none⟩ = some (.bool bo) := h3.2.cell 1
      clear h3
      have HK := Lib.hid (fun (W' : World) (hb : Below w3.heap.size w3 W') => show W'.cell? ⟨pb, 0, none⟩ = some (.string x) ∧ W'.cell? ⟨pb, 1, none⟩ = some (.bool bo) from ⟨(H3.out.2.below hb H3.out.2.lt).cell 0, (H3.out.2.below hb H3.out.2.lt).cell 1⟩)
      go_region_held3 (fun W' => W'.cell? ⟨pb, 0, none⟩ = some (.string x) ∧ W'.cell? ⟨pb, 1, none⟩ = some (.bool bo))
        ((refine HK.out _ ?_; repeat (first | exact HZ2.out | exact HZ.out | exact Below.refl _ _ | (with_reducible refine bdrew ?_))))
        (first
          | (go_at_call 89
             refine (row_any x _ HOK.out.1).mono ?_
             rintro e wz ⟨v, rfl, ho, hb⟩
             have HZ : Hid (Below w3.heap.size w3 wz) := Lib.hid (by first | exact hb | exact ⟨hb.os, hb.tape, hb.output, hb.size, hb.block⟩)
             obtain ⟨A7, c7, rfl⟩ := own_slice ho
             have HO := Lib.hid ((own_rd ho).more (Nat.zero_le _) (Nat.le_refl _))
             have HC := Lib.hid (own_cap ho)
             clear ho hb)
          | (go_at_call 85
             refine (onset_any A7 _ c7 0 wz.heap.size (rwF x) _ (HO.out.below (by repeat (first | exact Below.refl _ _ | (with_reducible refine bdrew ?_))) (Nat.le_refl _)) (Nat.le_refl _) (by have := HC.out; omega) (all_fit HOK.out.2.1)).mono ?_
             rintro e wy ⟨rfl, hb⟩
             rw [HOK.out.2.2]
             have HZ2 : Hid (Below w3.heap.size w3 wy) := Lib.hid (HZ.out.trans (Below.mono (by first | exact hb | exact ⟨hb.os, hb.tape, hb.output, hb.size, hb.block⟩) HZ.out.size))
             clear hb))
      have HZ3 := Lib.hid (And.intro (H3.out.1.1.trans (HZ2.out.mono H3.out.1.1.size)) (H3.out.1.2.below HZ2.out H3.out.1.2.lt))
      clear HK HZ HZ2 HO HC H3
      go_wp2
      go_roundw
      case rel => exact ⟨k + 1, by omega, by go_num, Lib.hid HZ3.out⟩
      case measure => simp [intOf]; omega
    · obtain rfl : k = 11 := by omega
      have H4 := Lib.hid HR.out.1
      clear HR
      go_wp2_with fail
      refine (onset_any _ 2 2 0 _ pq1 _ (rd_blk (t := 43) (xs := phs pq1) (Blk.new wr 43 (phs pq1).toArray) rfl) (Nat.le_refl _) (by unfold maxLen; omega) (all_fit (by decide +kernel))).mono ?_
      rintro e w5 ⟨rfl, hb⟩
      rw [pq1_on]
      have H5 := Lib.hid (H4.out.trans ((((Below.refl _ wr).alloc (Nat.le_refl _) (.cells (phs pq1).toArray 43)).trans (hb.mono (by simp))).mono H4.out.size))
      clear hb H4
      go_wp2_with fail
      refine (onset_any _ 1 1 0 _ pq2 _ (rd_blk (t := 43) (xs := phs pq2) (Blk.new w5 43 (phs pq2).toArray) rfl) (Nat.le_refl _) (by unfold maxLen; omega) (all_fit (by decide +kernel))).mono ?_
      rintro e w6 ⟨rfl, hb⟩
      rw [pq2_on]
      have H6 := Lib.hid (H5.out.trans ((((Below.refl _ w5).alloc (Nat.le_refl _) (.cells (phs pq2).toArray 43)).trans (hb.mono (by simp))).mono H5.out.size))
      clear hb H5
      go_upto_region 13 with (fail)
      refine wp_abs (fun wx => Below w.heap.size w wx ∧ Blk wx w6.heap.size 143 (T2.flatMap t2C).toArray) ⟨H6.out.trans (((Below.refl _ _).alloc (Nat.le_refl _) _).mono H6.out.size), Blk.new _ _ _⟩ ?_
      clear H6
      generalize w6.heap.size = tc at *
      rintro w7 h7
      have H7 := Lib.hid h7
      clear h7
      go_loopw [5, 6, 7, 8, 9, 66] (fun _ _ _ _ _ v66 wr => ∃ k : Nat, k ≤ 5 ∧ v66 = .int .i64 k ∧ Hid (Below w.heap.size w wr ∧ Blk wr tc 143 (T2.flatMap t2C).toArray)) (fun _ _ _ _ _ v66 _ => 5 - (intOf v66).toNat)
      case atStart => exact ⟨0, by omega, rfl, H7⟩
      case round =>
        obtain ⟨k, hk, rfl, HR⟩ := hrel
        clear H7
        by_cases hlt : k < 5
        · have hkT : k < T2.length := hlt
          have z0 : wr.cell? ⟨tc, k * 2, none⟩ = some (.string T2[k].1) := tabl_at t2C 2 (fun _ => rfl) HR.out.2 hkT (j := 0) (by omega)
          have z1 : wr.cell? ⟨tc, k * 2 + 1, none⟩ = some (.string T2[k].2) := tabl_at t2C 2 (fun _ => rfl) HR.out.2 hkT (j := 1) (by omega)
          have hok := List.all_eq_true.1 T2_ok _ (List.getElem_mem hkT)
          simp only [Bool.and_eq_true, decide_eq_true_eq, beq_iff_eq] at hok
          generalize T2[k] = x at *
          obtain ⟨x, want⟩ := x
          obtain ⟨⟨⟨⟨o1, o2⟩, o3⟩, o4⟩, o5⟩ := hok
          have HOK := Lib.hid (And.intro (show x.size ≤ 1000 from o1) (And.intro (show (rwF x).all isF = true from o2) (And.intro (show spE (rwF x) = 0 from o3) (And.intro (show mayF (rwF x) (spL (rwF x)) = 0 from o4) (show spT (rwF x) (spL (rwF x)) = want.data.toList from o5)))))
          have z0 : wr.cell? ⟨tc, k * 2, none⟩ = some (.string x) := z0
          have z1 : wr.cell? ⟨tc, k * 2 + 1, none⟩ = some (.string want) := z1
          clear o1 o2 o3 o4 o5 hkT
          have i1 : (0 : Int) ≤ (k : Int) := by omega
          have i2 : (k : Int) < 5 := by omega
          go_upto_region 15 with (fail)
          refine wp_abs (fun wx => (Below w.heap.size w wx ∧ Blk wx tc 143 (T2.flatMap t2C).toArray) ∧ Blk wx wr.heap.size 143 #[.string x, .string want]) ⟨⟨HR.out.1.trans (((Below.refl _ _).alloc (Nat.le_refl _) _).mono HR.out.1.size), HR.out.2.alloc _⟩, Blk.new _ _ _⟩ ?_
          clear z0 z1 HR
          generalize wr.heap.size = pb at *
          rintro w8 h8
          have H8 := Lib.hid h8
          have y0 : w8.cell? ⟨pb, 0, none⟩ = some (.string x) := h8.2.cell 0
          clear h8
          go_wp2_with fail
          refine (row_any x _ HOK.out.1).mono ?_
          rintro e w9 ⟨v, rfl, ho, hb⟩
          obtain ⟨A9, c9, rfl⟩ := own_slice ho
          have H9 := Lib.hid (And.intro (And.intro (H8.out.1.1.trans (hb.mono H8.out.1.1.size)) (And.intro (H8.out.1.2.below hb H8.out.1.2.lt) (H8.out.2.below hb H8.out.2.lt))) ((own_rd ho).more (Nat.zero_le _) (Nat.le_refl _)))
          have hc9 := (own_cap ho).1
          clear hb ho H8 y0
          go_wp2_with fail
          refine (split_any A9 _ c9 0 _ (rwF x) _ H9.out.2 (Nat.le_refl _) hc9 (all_fit HOK.out.2.1)).mono ?_
          rintro e w10 ⟨v, rfl, ho, hb⟩
          rw [HOK.out.2.2.1]
          obtain ⟨D, dd, rfl⟩ := own_slice ho
          have H10 := Lib.hid (And.intro (And.intro (H9.out.1.1.trans (hb.mono H9.out.1.1.size)) (And.intro (H9.out.1.2.1.below hb H9.out.1.2.1.lt) (H9.out.1.2.2.below hb H9.out.1.2.2.lt))) ((own_rd ho).more (Nat.zero_le _) (Nat.le_refl _)))
          clear hb ho H9
          have y0 : w10.cell? ⟨pb, 0, none⟩ = some (.string x) := H10.out.1.2.2.cell 0
          go_wp2_with fail
          refine (row_any x _ HOK.out.1).mono ?_
          rintro e w11 ⟨v, rfl, ho, hb⟩
          obtain ⟨A11, c11, rfl⟩ := own_slice ho
          have H11 := Lib.hid (And.intro (And.intro (H10.out.1.1.trans (hb.mono H10.out.1.1.size)) (And.intro (H10.out.1.2.1.below hb H10.out.1.2.1.lt) (H10.out.1.2.2.below hb H10.out.1.2.2.lt))) (And.intro (H10.out.2.up hb hb.size) ((own_rd ho).more (Nat.zero_le _) (Nat.le_refl _))))
          have hc11 := (own_cap ho).1
          clear hb ho H10 y0
          go_wp2_with fail
          refine (sprint_any A11 D _ c11 _ dd 0 _ 0 _ (rwF x) (spL (rwF x)) _ H11.out.2.2 H11.out.2.1 (Nat.le_refl _) (Nat.le_refl _) hc11 (all_fit HOK.out.2.1)).mono ?_
          rintro e w12 ⟨rfl, hb⟩
          rw [HOK.out.2.2.2.1, HOK.out.2.2.2.2]
          have hbt : bts want.data.toList = want := rfl
          rw [hbt]
          clear hbt
          have H12 := Lib.hid (And.intro (H11.out.1.1.trans (hb.mono H11.out.1.1.size)) (And.intro (H11.out.1.2.1.below hb H11.out.1.2.1.lt) (H11.out.1.2.2.below hb H11.out.1.2.2.lt)))
          clear hb H11
          have y1 : w12.cell? ⟨pb, 1, none⟩ = some (.string want) := H12.out.2.2.cell 1
          go_wp2
          go_roundw
          case rel => exact ⟨k + 1, by omega, by go_num, Lib.hid ⟨H12.out.1, H12.out.2.1⟩⟩
          case measure => simp [intOf]; omega
        · obtain rfl : k = 5 := by omega
          have H13 := Lib.hid HR.out.1
          clear HR
          go_upto_region 21 with (fail)
          refine wp_abs (fun wx => Below w.heap.size w wx ∧ Blk wx wr.heap.size 145 (T3.flatMap t3C).toArray) ⟨H13.out.trans (((Below.refl _ _).alloc (Nat.le_refl _) _).mono H13.out.size), Blk.new _ _ _⟩ ?_
          clear H13
          generalize wr.heap.size = td at *
          rintro w14 h14
          have H14 := Lib.hid h14
          clear h14
          go_loopw [11, 12, 13, 14, 122] (fun _ _ _ _ v122 wr => ∃ k : Nat, k ≤ 10 ∧ v122 = .int .i64 k ∧ Hid (Below w.heap.size w wr ∧ Blk wr td 145 (T3.flatMap t3C).toArray)) (fun _ _ _ _ v122 _ => 10 - (intOf v122).toNat)
          case atStart => exact ⟨0, by omega, rfl, H14⟩
          case round =>
            obtain ⟨k, hk, rfl, HR⟩ := hrel
            clear H14
            by_cases hlt : k < 10
            · have hkT : k < T3.length := hlt
              have z0 : wr.cell? ⟨td, k * 3, none⟩ = some (.string T3[k].1) := tabl_at t3C 3 (fun _ => rfl) HR.out.2 hkT (j := 0) (by omega)
              have z1 : wr.cell? ⟨td, k * 3 + 1, none⟩ = some (.int .i64 T3[k].2.1) := tabl_at t3C 3 (fun _ => rfl) HR.out.2 hkT (j := 1) (by omega)
              have z2 : wr.cell? ⟨td, k * 3 + 2, none⟩ = some (.int .i64 T3[k].2.2) := tabl_at t3C 3 (fun _ => rfl) HR.out.2 hkT (j := 2) (by omega)
              have hok := List.all_eq_true.1 T3_ok _ (List.getElem_mem hkT)
              simp only [Bool.and_eq_true, decide_eq_true_eq, beq_iff_eq, List.isEmpty_iff] at hok
              generalize T3[k] = x at *
              obtain ⟨x, E, X⟩ := x
              obtain ⟨o1, ⟨⟨o2, o3⟩, o4⟩, o5⟩ := hok
              have HOK := Lib.hid (And.intro (show x.size ≤ maxLen by have h : x.size ≤ 1000 := o1; unfold maxLen; omega) (show srL x.data.toList = ([], [], E, X) from Prod.ext o2 (Prod.ext o3 (Prod.ext o4 o5))))
              have z0 : wr.cell? ⟨td, k * 3, none⟩ = some (.string x) := z0
              have z1 : wr.cell? ⟨td, k * 3 + 1, none⟩ = some (.int .i64 E) := z1
              have z2 : wr.cell? ⟨td, k * 3 + 2, none⟩ = some (.int .i64 X) := z2
              clear o1 o2 o3 o4 o5 hkT
              have i1 : (0 : Int) ≤ (k : Int) := by omega
              have i2 : (k : Int) < 10 := by omega
              go_upto_region 23 with (fail)
              refine wp_abs (fun wx => (Below w.heap.size w wx ∧ Blk wx td 145 (T3.flatMap t3C).toArray) ∧ Blk wx wr.heap.size 145 #[.string x, .int .i64 E, .int .i64 X]) ⟨⟨HR.out.1.trans (((Below.refl _ _).alloc (Nat.le_refl _) _).mono HR.out.1.size), HR.out.2.alloc _⟩, Blk.new _ _ _⟩ ?_
              clear z0 z1 z2 HR
              generalize wr.heap.size = pb at *
              rintro w15 h15
              have H15 := Lib.hid h15
              have y0 : w15.cell? ⟨pb, 0, none⟩ = some (.string x) := h15.2.cell 0
              clear h15
              go_wp2_with fail
              refine (sread_any x _ HOK.out.1).mono ?_
              rintro e w16 ⟨v0, v1, rfl, h0, h1, hb⟩
              rw [HOK.out.2] at h0 h1 ⊢
              dsimp only at h0 h1 ⊢
              obtain ⟨A16, c16, rfl⟩ := own_slice h0
              obtain ⟨D16, d16, rfl⟩ := own_slice h1
              have H16 := Lib.hid (And.intro (H15.out.1.1.trans (hb.mono H15.out.1.1.size)) (And.intro (H15.out.1.2.below hb H15.out.1.2.lt) (H15.out.2.below hb H15.out.2.lt)))
              have e0 : ([] : List Ph).length = 0 := rfl
              have e1 : ([] : List Sy).length = 0 := rfl
              rw [e0, e1]
              clear hb h0 h1 H15 y0 e0 e1
              go_upto_region 24 with (fail)
              refine wp_abs (fun wx => (Below w.heap.size w wx ∧ Blk wx td 145 (T3.flatMap t3C).toArray ∧ Blk wx pb 145 #[.string x, .int .i64 E, .int .i64 X]) ∧ Blk wx w16.heap.size 68 #[.int .i64 E, .int .i64 X]) ⟨⟨H16.out.1.trans (((Below.refl _ _).alloc (Nat.le_refl _) _).mono H16.out.1.size), H16.out.2.1.alloc _, H16.out.2.2.alloc _⟩, Blk.new _ _ _⟩ ?_
              clear H16
              generalize w16.heap.size = sb at *
              rintro w17 h17
              have y1 : w17.cell? ⟨pb, 1, none⟩ = some (.int .i64 E) := h17.1.2.2.cell 1
              have y2 : w17.cell? ⟨pb, 2, none⟩ = some (.int .i64 X) := h17.1.2.2.cell 2
              have s0 : w17.cell? ⟨sb, 0, none⟩ = some (.int .i64 E) := h17.2.cell 0
              have s1 : w17.cell? ⟨sb, 1, none⟩ = some (.int .i64 X) := h17.2.cell 1
              have H17 := Lib.hid (And.intro h17.1.1 h17.1.2.1)
              clear h17
              go_wp2
              go_roundw
              case rel =>
                refine ⟨_, _, _, _, _, _, _, _, _, _, _, _, _, _, _, _, _, _, _, _, _, _, _, _, _, _, _, _, _, _, _, ?_, rfl⟩
                exact ⟨k + 1, by omega, by go_num, H17⟩
              case measure => simp [intOf]; omega
            · obtain rfl : k = 10 := by omega
              have H18 := Lib.hid HR.out.1
              clear HR
              go_wp2_with fail
              refine (row_any rst _ (by decide)).mono ?_
              rintro e w19 ⟨v, rfl, ho, hb⟩
              obtain ⟨A19, c19, rfl⟩ := own_slice ho
              have H19 := Lib.hid (And.intro (H18.out.trans (hb.mono H18.out.size)) ((own_rd ho).more (Nat.zero_le _) (Nat.le_refl _)))
              have hc19 := (own_cap ho).1
              clear hb ho H18
              go_wp2_with fail
              refine (split_any A19 _ c19 0 _ (rwF rst) _ H19.out.2 (Nat.le_refl _) hc19 (all_fit rst_ok.1)).mono ?_
              rintro e w20 ⟨v, rfl, ho, hb⟩
              rw [rst_ok.2]
              obtain ⟨D20, d20, rfl⟩ := own_slice ho
              have H20 := Lib.hid (H19.out.1.trans (hb.mono H19.out.1.size))
              clear hb ho H19
              go_wp2_with fail
              refine (pattern_any _ 3 3 0 _ yk3 _ (rd_blk (t := 37) (xs := sys yk3) (Blk.new w20 37 (sys yk3).toArray) rfl) (Nat.le_refl _) (by omega)).mono ?_
              rintro e w21 ⟨rfl, hb⟩
              rw [yk3_pt.1, yk3_pt.2]
              have hw : (bts [92, 120, 47] == (⟨#[92, 120, 47]⟩ : ByteArray)) = true := by decide +kernel
              have hs : (bts [92, 120, 47]).toList = [92, 120, 47] := by decide +kernel
              generalize bts [92, 120, 47] = tt at *
              have H21 := Lib.hid (H20.out.trans ((((Below.refl _ w20).alloc (Nat.le_refl _) (.cells (sys yk3).toArray 37)).trans (hb.mono (by simp))).mono H20.out.size))
              clear hb H20
              go_wp2_with fail
              refine (weight_any _ 2 2 0 _ yk2 _ (rd_blk (t := 37) (xs := sys yk2) (Blk.new w21 37 (sys yk2).toArray) rfl) (Nat.le_refl _) (by omega)).mono ?_
              rintro e w22 ⟨rfl, hb⟩
              rw [yk2_wt]
              have H22 := Lib.hid (H21.out.trans ((((Below.refl _ w21).alloc (Nat.le_refl _) (.cells (sys yk2).toArray 37)).trans (hb.mono (by simp))).mono H21.out.size))
              clear hb H21
              go_wp2_with fail
              refine (main_any _ 2 2 0 _ yk0 _ (rd_blk (t := 37) (xs := sys yk0) (Blk.new w22 37 (sys yk0).toArray) rfl) (Nat.le_refl _) (by omega)).mono ?_
              rintro e w23 ⟨rfl, hb⟩
              rw [yk0_mn]
              have H23 := Lib.hid (H22.out.trans ((((Below.refl _ w22).alloc (Nat.le_refl _) (.cells (sys yk0).toArray 37)).trans (hb.mono (by simp))).mono H22.out.size))
              clear hb H22
              go_wp2_with fail
              refine (may_any none none 0 0 0 0 0 0 0 0 [] [] _ Rd.nil Rd.nil (Nat.zero_le _) (Nat.zero_le _) (by simp)).mono ?_
              rintro e w24 ⟨rfl, hb⟩
              rw [show mayF [] [] = 110 by decide +kernel]
              have H24 := Lib.hid (H23.out.trans (hb.mono H23.out.size))
              clear hb H23
              go_wp2
              go_ret
              exact ⟨rfl, H24.out⟩
end Go.Proofs.Ytogofchpocoebaa
