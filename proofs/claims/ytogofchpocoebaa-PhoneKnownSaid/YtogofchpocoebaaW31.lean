/- The law PhoneKnown, walked. -/
import Derived.Test.YtogofchpocoebaaW29
import Derived.Test.YtogofchpocoebaaW30
import Derived.Test.YtogofchpocoebaaS17
namespace Go.Proofs.Ytogofchpocoebaa
open Go.RowKit Go.Maps

def k1C (x : ByteArray × Option Addr × List Ph × Int × Int) : List Value := [.string x.1, .slice x.2.1 x.2.2.1.length x.2.2.1.length, .int .i64 x.2.2.2.1, .int .i64 x.2.2.2.2]
def K1 (b : Nat) : List (ByteArray × Option Addr × List Ph × Int × Int) := [(⟨#[97, 105, 204, 175]⟩, some ⟨b, 0, none⟩, [(97, false, 105)], 0, 0), (⟨#[97, 105]⟩, some ⟨b + 1, 0, none⟩, [(97, false, 0), (105, false, 0)], 0, 0), (⟨#[97, 203, 144, 117, 204, 175]⟩, some ⟨b + 1 + 1, 0, none⟩, [(97, true, 117)], 0, 0), (⟨#[203, 144]⟩, none, [], 80, 0), (⟨#[116, 204, 175]⟩, none, [], 80, 1), (⟨#[97, 255]⟩, none, [], 80, 1), (⟨#[115, 203, 144, 116]⟩, some ⟨b + 1 + 1 + 1, 0, none⟩, [(115, true, 0), (116, false, 0)], 0, 0), (⟨#[116, 105, 204, 175]⟩, none, [], 80, 2)]
def k1q (x : ByteArray × Option Addr × List Ph × Int × Int) : Bool := decide (x.1.size ≤ 1000) && decide (x.2.2.1.length ≤ 1000) && (readL x.1.data.toList).1 == x.2.2.1 && (readL x.1.data.toList).2.1 == x.2.2.2.1 && (readL x.1.data.toList).2.2 == x.2.2.2.2
theorem K1_ok (b : Nat) : (K1 b).all k1q = true := by kernel_rfl
def k2C (x : ByteArray × ByteArray × Int) : List Value := [.string x.1, .string x.2.1, .int .i64 x.2.2]
def K2 : List (ByteArray × ByteArray × Int) := [(⟨#[112]⟩, ⟨#[98]⟩, 1), (⟨#[112]⟩, ⟨#[116]⟩, 4), (⟨#[115]⟩, ⟨#[202, 131]⟩, 2), (⟨#[105]⟩, ⟨#[121]⟩, 1), (⟨#[105]⟩, ⟨#[97]⟩, 20), (⟨#[97]⟩, ⟨#[97, 203, 144]⟩, 2), (⟨#[97]⟩, ⟨#[97, 105, 204, 175]⟩, 3), (⟨#[112]⟩, ⟨#[97]⟩, 40)]
def onF (s : ByteArray) : Ph := (readL s.data.toList).1.getD 0 ph0
def k2q (x : ByteArray × ByteArray × Int) : Bool := decide (x.1.size ≤ 1000) && decide (x.2.1.size ≤ 1000) && (readL x.1.data.toList).1 == [onF x.1] && (readL x.1.data.toList).2.1 == 0 && (readL x.1.data.toList).2.2 == 0 && (readL x.2.1.data.toList).1 == [onF x.2.1] && (readL x.2.1.data.toList).2.1 == 0 && (readL x.2.1.data.toList).2.2 == 0 && isF (onF x.1) && isF (onF x.2.1) && apV (onF x.1) (onF x.2.1) == x.2.2 && apE (onF x.1) (onF x.2.1) == 0
theorem K2_ok : K2.all k2q = true := by decide +kernel
theorem rd_all {W : World} {b0 : Nat} (h0 : Blk W b0 43 (phs [(97, false, 105)]).toArray) (h1 : Blk W (b0 + 1) 43 (phs [(97, false, 0), (105, false, 0)]).toArray) (h2 : Blk W (b0 + 1 + 1) 43 (phs [(97, true, 117)]).toArray) (h3 : Blk W (b0 + 1 + 1 + 1) 43 (phs [(115, true, 0), (116, false, 0)]).toArray) :
    ∀ x ∈ K1 b0, Rd W 0 W.heap.size 3 x.2.1 x.2.2.1.length (phs x.2.2.1) := by
  intro x hx
  simp only [K1, List.mem_cons, List.not_mem_nil, or_false] at hx
  rcases hx with rfl | rfl | rfl | rfl | rfl | rfl | rfl | rfl
  · exact rd_blk h0 rfl
  · exact rd_blk h1 rfl
  · exact rd_blk h2 rfl
  · exact Rd.nil
  · exact Rd.nil
  · exact Rd.nil
  · exact rd_blk h3 rfl
  · exact Rd.nil
theorem fit_one {p : Ph} (h : isF p = true) : fitP p := all_fit (l := [p]) (by simp [h]) p (by simp)
theorem p68_any2 (s : ByteArray) (p : Ph) (w : World) (h : s.size ≤ maxLen ∧ readL s.data.toList = ([p], 0, 0)) : Calls Try.prog 68 #[.string s] w fun e w' => e = .returned (.agg #[.int .i32 p.1, .bool p.2.1, .int .i32 p.2.2]) ∧ Below w.heap.size w w' := p68_any s p w h.1 h.2
def kat : List Ph := [(107, false, 0), (97, false, 0), (116, false, 0)]
def att : List Ph := [(97, false, 0), (116, false, 0)]
theorem kat_rd : readL [107, 97, 116] = (kat, 0, 0) := by kernel_rfl
theorem att_rd : readL [97, 116] = (att, 0, 0) := by kernel_rfl
theorem kat_ds : dsV kat att = 10 ∧ dsE kat att = 0 := by decide +kernel
theorem kat_wi : wiB kat att 9 = false ∧ wiE kat att 9 = 0 ∧ wiV kat att 10 = 10 ∧ wiB kat att 10 = true ∧ wiE kat att 10 = 0 ∧ wiE kat att (-1) = 2 := by decide +kernel
theorem kat_al : alL kat att = [(0, -1), (1, 0), (2, 1)] := by decide +kernel
theorem tr331 : trV (traits 331) = .agg #[.bool false, .int .i64 0, .int .i64 0, .bool false, .int .i64 5, .int .i64 3, .bool true] ∧ (tabF 331).isSome = true := ⟨by kernel_rfl, by decide +kernel⟩
theorem tr248 : trV (traits 248) = .agg #[.bool true, .int .i64 4, .int .i64 0, .bool true, .int .i64 0, .int .i64 0, .bool false] ∧ (tabF 248).isSome = true := ⟨by kernel_rfl, by decide +kernel⟩
theorem tr99 : trV (traits 99) = .agg #[.bool false, .int .i64 0, .int .i64 0, .bool false, .int .i64 0, .int .i64 0, .bool false] ∧ (tabF 99).isSome = false := ⟨by kernel_rfl, by decide +kernel⟩
theorem kat_fit : ∀ p ∈ kat, fitP p := all_fit (by decide +kernel)
theorem att_fit : ∀ p ∈ att, fitP p := all_fit (by decide +kernel)

set_option maxHeartbeats 32000000 in
set_option maxRecDepth 100000 in
theorem phoneKnown_any (w : World) : Calls Try.prog 12 #[] w fun e w' => e = .returned (.bool true) ∧ Below w.heap.size w w' := by
  go_enter Try.func12, Try.ntmps12
  go_wp2_with fail
  refine (works_any _).mono ?_
  rintro e w1 ⟨rfl, hb⟩
  have H1 := Lib.hid hb
  clear hb
  go_upto_region 4 with (fail)
  refine wp_abs (fun wx => Below w.heap.size w wx ∧ Blk wx (w1.heap.size + 1 + 1 + 1 + 1) 97 ((K1 w1.heap.size).flatMap k1C).toArray ∧ ∀ x ∈ K1 w1.heap.size, Rd wx 0 wx.heap.size 3 x.2.1 x.2.2.1.length (phs x.2.2.1)) ⟨H1.out.trans (((((((Below.refl _ _).alloc (Nat.le_refl _) _).alloc (by simp) _).alloc (by simp; omega) _).alloc (by simp; omega) _).alloc (by simp; omega) _).mono H1.out.size), blk_new_eq (by simp), rd_all (((((Blk.new _ _ _).alloc _).alloc _).alloc _).alloc _) ((((blk_new_eq (by simp)).alloc _).alloc _).alloc _) (((blk_new_eq (by simp)).alloc _).alloc _) ((blk_new_eq (by simp)).alloc _)⟩ ?_
  clear H1
  generalize w1.heap.size + 1 + 1 + 1 + 1 = tb at *
  generalize w1.heap.size = b0 at *
  rintro w2 h2
  have H2 := Lib.hid h2
  clear h2
  go_loopw [2, 3, 4, 65] (fun _ _ _ v65 wr => ∃ k : Nat, k ≤ 8 ∧ v65 = .int .i64 k ∧ Hid (Below w.heap.size w wr ∧ Below w2.heap.size w2 wr)) (fun _ _ _ v65 _ => 8 - (intOf v65).toNat)
  case atStart => exact ⟨0, by omega, rfl, Lib.hid ⟨H2.out.1, Below.refl _ _⟩⟩
  case round =>
    obtain ⟨k, hk, rfl, HR⟩ := hrel
    by_cases hlt : k < 8
    · have hkT : k < (K1 b0).length := hlt
      have hbt := H2.out.2.1.below HR.out.2 H2.out.2.1.lt
      have z0 : wr.cell? ⟨tb, k * 4, none⟩ = some (.string (K1 b0)[k].1) := tabl_at k1C 4 (fun _ => rfl) hbt hkT (j := 0) (by omega)
      have z1 : wr.cell? ⟨tb, k * 4 + 1, none⟩ = some (.slice (K1 b0)[k].2.1 (K1 b0)[k].2.2.1.length (K1 b0)[k].2.2.1.length) := tabl_at k1C 4 (fun _ => rfl) hbt hkT (j := 1) (by omega)
      have z2 : wr.cell? ⟨tb, k * 4 + 2, none⟩ = some (.int .i64 (K1 b0)[k].2.2.2.1) := tabl_at k1C 4 (fun _ => rfl) hbt hkT (j := 2) (by omega)
      have z3 : wr.cell? ⟨tb, k * 4 + 3, none⟩ = some (.int .i64 (K1 b0)[k].2.2.2.2) := tabl_at k1C 4 (fun _ => rfl) hbt hkT (j := 3) (by omega)
      have hok := List.all_eq_true.1 (K1_ok b0) _ (List.getElem_mem hkT)
      have hrd := H2.out.2.2 _ (List.getElem_mem hkT)
      unfold k1q at hok
      simp only [Bool.and_eq_true, decide_eq_true_eq, beq_iff_eq] at hok
      generalize (K1 b0)[k] = x at *
      obtain ⟨x, A, want, E, X⟩ := x
      obtain ⟨⟨⟨⟨o1, o2⟩, o3⟩, o4⟩, o5⟩ := hok
      have HOK := Lib.hid (And.intro (show x.size ≤ maxLen by have h : x.size ≤ 1000 := o1; unfold maxLen; omega) (And.intro (show want.length ≤ maxLen by have h : want.length ≤ 1000 := o2; unfold maxLen; omega) (And.intro (show readL x.data.toList = (want, E, X) from Prod.ext o3 (Prod.ext o4 o5)) (show Rd w2 0 w2.heap.size 3 A want.length (phs want) from hrd))))
      have z0 : wr.cell? ⟨tb, k * 4, none⟩ = some (.string x) := z0
      have z1 : wr.cell? ⟨tb, k * 4 + 1, none⟩ = some (.slice A want.length want.length) := z1
      have z2 : wr.cell? ⟨tb, k * 4 + 2, none⟩ = some (.int .i64 E) := z2
      have z3 : wr.cell? ⟨tb, k * 4 + 3, none⟩ = some (.int .i64 X) := z3
      clear o1 o2 o3 o4 o5 hkT hbt hrd
      have i1 : (0 : Int) ≤ (k : Int) := by omega
      have i2 : (k : Int) < 8 := by omega
      go_upto_region 6 with (fail)
      refine wp_abs (fun wx => (Below w.heap.size w wx ∧ Below w2.heap.size w2 wx) ∧ Blk wx wr.heap.size 97 #[.string x, .slice A want.length want.length, .int .i64 E, .int .i64 X]) ⟨⟨HR.out.1.trans (((Below.refl _ _).alloc (Nat.le_refl _) _).mono HR.out.1.size), HR.out.2.trans (((Below.refl _ _).alloc (Nat.le_refl _) _).mono HR.out.2.size)⟩, Blk.new _ _ _⟩ ?_
      clear z0 z1 z2 z3 HR
      generalize wr.heap.size = pb at *
      rintro w3 h3
      have y0 : w3.cell? ⟨pb, 0, none⟩ = some (.string x) := h3.2.cell 0
      have H3 := Lib.hid h3
      clear h3
      go_wp2_with fail
      refine (read_any x _ HOK.out.1).mono ?_
      rintro e w4 ⟨v, rfl, ho, hb⟩
      rw [HOK.out.2.2.1] at ho ⊢
      dsimp only at ho ⊢
      obtain ⟨A4, c4, rfl⟩ := own_slice ho
      have H4 := Lib.hid (And.intro (And.intro (H3.out.1.1.trans (hb.mono H3.out.1.1.size)) (H3.out.1.2.trans (hb.mono H3.out.1.2.size))) (And.intro (H3.out.2.below hb H3.out.2.lt) ((own_rd ho).more (Nat.zero_le _) (Nat.le_refl _))))
      clear hb ho H3 y0
      go_upto_region 7 with (fail)
      refine wp_abs (fun wx => (Below w.heap.size w wx ∧ Below w2.heap.size w2 wx ∧ Rd wx 0 wx.heap.size 3 A4 want.length (phs want)) ∧ Blk wx pb 97 #[.string x, .slice A want.length want.length, .int .i64 E, .int .i64 X] ∧ Blk wx w4.heap.size 68 #[.int .i64 E, .int .i64 X]) ?fs ?_
      case fs =>
        have hb : Below w4.heap.size w4 (w4.alloc (.cells #[.int .i64 E, .int .i64 X] 68)) := (Below.refl _ _).alloc (Nat.le_refl _) _
        exact ⟨⟨H4.out.1.1.trans (hb.mono H4.out.1.1.size), H4.out.1.2.trans (hb.mono H4.out.1.2.size), H4.out.2.2.up hb hb.size⟩, H4.out.2.1.alloc _, Blk.new _ _ _⟩
      clear H4
      generalize w4.heap.size = sb at *
      rintro w5 h5
      have y1 : w5.cell? ⟨pb, 1, none⟩ = some (.slice A want.length want.length) := h5.2.1.cell 1
      have y2 : w5.cell? ⟨pb, 2, none⟩ = some (.int .i64 E) := h5.2.1.cell 2
      have y3 : w5.cell? ⟨pb, 3, none⟩ = some (.int .i64 X) := h5.2.1.cell 3
      have s0 : w5.cell? ⟨sb, 0, none⟩ = some (.int .i64 E) := h5.2.2.cell 0
      have s1 : w5.cell? ⟨sb, 1, none⟩ = some (.int .i64 X) := h5.2.2.cell 1
      have H5 := Lib.hid h5.1
      clear h5
      go_wp2_with fail
      refine (equalH_any A4 A _ c4 _ _ 0 0 _ _ want want _ H5.out.2.2 (HOK.out.2.2.2.up H5.out.2.1 H5.out.2.1.size) HOK.out.2.1 HOK.out.2.1 (Nat.le_refl _) (Nat.le_refl _)).mono ?_
      rintro e w6 ⟨rfl, hb⟩
      rw [decide_eq_true (rfl : want = want)]
      have H6 := Lib.hid (And.intro (H5.out.1.trans (hb.mono H5.out.1.size)) (H5.out.2.1.trans (hb.mono H5.out.2.1.size)))
      clear hb H5 y1 y2 y3 s0 s1
      go_wp2
      go_roundw
      case rel => exact ⟨k + 1, by omega, by go_num, H6⟩
      case measure => simp [intOf]; omega
    · obtain rfl : k = 8 := by omega
      have H7 := Lib.hid HR.out.1
      clear HR
      go_upto_region 12 with (fail)
      refine wp_abs (fun wx => Below w.heap.size w wx ∧ Blk wx wr.heap.size 100 (K2.flatMap k2C).toArray) ⟨H7.out.trans (((Below.refl _ _).alloc (Nat.le_refl _) _).mono H7.out.size), Blk.new _ _ _⟩ ?_
      clear H7
      generalize wr.heap.size = tc at *
      rintro w8 h8
      have H8 := Lib.hid h8
      clear h8
      go_loopw [7, 8, 9, 97] (fun _ _ _ v97 wr => ∃ k : Nat, k ≤ 8 ∧ v97 = .int .i64 k ∧ Hid (Below w.heap.size w wr ∧ Blk wr tc 100 (K2.flatMap k2C).toArray)) (fun _ _ _ v97 _ => 8 - (intOf v97).toNat)
      case atStart => exact ⟨0, by omega, rfl, H8⟩
      case round =>
        obtain ⟨k, hk, rfl, HR⟩ := hrel
        clear H8
        by_cases hlt : k < 8
        · have hkT : k < K2.length := hlt
          have z0 : wr.cell? ⟨tc, k * 3, none⟩ = some (.string K2[k].1) := tabl_at k2C 3 (fun _ => rfl) HR.out.2 hkT (j := 0) (by omega)
          have z1 : wr.cell? ⟨tc, k * 3 + 1, none⟩ = some (.string K2[k].2.1) := tabl_at k2C 3 (fun _ => rfl) HR.out.2 hkT (j := 1) (by omega)
          have z2 : wr.cell? ⟨tc, k * 3 + 2, none⟩ = some (.int .i64 K2[k].2.2) := tabl_at k2C 3 (fun _ => rfl) HR.out.2 hkT (j := 2) (by omega)
          have hok := List.all_eq_true.1 K2_ok _ (List.getElem_mem hkT)
          unfold k2q at hok
          simp only [Bool.and_eq_true, decide_eq_true_eq, beq_iff_eq] at hok
          generalize K2[k] = x at *
          obtain ⟨x, y, N⟩ := x
          obtain ⟨⟨⟨⟨⟨⟨⟨⟨⟨⟨⟨o1, o2⟩, o3⟩, o4⟩, o5⟩, o6⟩, o7⟩, o8⟩, o9⟩, o10⟩, o11⟩, o12⟩ := hok
          have HA := Lib.hid (And.intro (show x.size ≤ maxLen by have h : x.size ≤ 1000 := o1; unfold maxLen; omega) (show readL x.data.toList = ([onF x], 0, 0) from Prod.ext o3 (Prod.ext o4 o5)))
          have HB := Lib.hid (And.intro (show y.size ≤ maxLen by have h : y.size ≤ 1000 := o2; unfold maxLen; omega) (show readL y.data.toList = ([onF y], 0, 0) from Prod.ext o6 (Prod.ext o7 o8)))
          have HN := Lib.hid (And.intro (show apV (onF x) (onF y) = N from o11) (And.intro (show apE (onF x) (onF y) = 0 from o12) (And.intro (fit_one (show isF (onF x) = true from o9)).1 (fit_one (show isF (onF y) = true from o10)).1)))
          have z0 : wr.cell? ⟨tc, k * 3, none⟩ = some (.string x) := z0
          have z1 : wr.cell? ⟨tc, k * 3 + 1, none⟩ = some (.string y) := z1
          have z2 : wr.cell? ⟨tc, k * 3 + 2, none⟩ = some (.int .i64 N) := z2
          clear o1 o2 o3 o4 o5 o6 o7 o8 o9 o10 o11 o12 hkT
          generalize onF x = p at *
          generalize onF y = q at *
          have i1 : (0 : Int) ≤ (k : Int) := by omega
          have i2 : (k : Int) < 8 := by omega
          go_upto_region 14 with (fail)
          refine wp_abs (fun wx => (Below w.heap.size w wx ∧ Blk wx tc 100 (K2.flatMap k2C).toArray) ∧ Blk wx wr.heap.size 100 #[.string x, .string y, .int .i64 N]) ⟨⟨HR.out.1.trans (((Below.refl _ _).alloc (Nat.le_refl _) _).mono HR.out.1.size), HR.out.2.alloc _⟩, Blk.new _ _ _⟩ ?_
          clear z0 z1 z2 HR
          generalize wr.heap.size = pb at *
          rintro w3 h3
          have H3 := Lib.hid h3
          have y0 : w3.cell? ⟨pb, 0, none⟩ = some (.string x) := h3.2.cell 0
          have y1 : w3.cell? ⟨pb, 1, none⟩ = some (.string y) := h3.2.cell 1
          clear h3
          have HK := Lib.hid (fun (W' : World) (hb : Below w3.heap.size w3 W') => show W'.cell? ⟨pb, 0, none⟩ = some (.string x) ∧ W'.cell? ⟨pb, 1, none⟩ = some (.string y) from ⟨(H3.out.2.below hb H3.out.2.lt).cell 0, (H3.out.2.below hb H3.out.2.lt).cell 1⟩)
          go_region_held3 (fun W' => W'.cell? ⟨pb, 0, none⟩ = some (.string x) ∧ W'.cell? ⟨pb, 1, none⟩ = some (.string y))
            ((refine HK.out _ ?_; repeat (first | exact HZ.out | exact Below.refl _ _ | (with_reducible refine bdrew ?_))))
            (first
              | (go_at_call 68
                 refine (p68_any2 _ _ _ (by first | exact HA.out | exact HB.out)).mono ?_
                 rintro e wz ⟨rfl, hb⟩
                 have HZ : Hid (Below w3.heap.size w3 wz) := Lib.hid (by first | exact HZ.out.trans (hb.mono HZ.out.size) | exact ⟨hb.os, hb.tape, hb.output, hb.size, hb.block⟩ | exact HZ.out.trans (Below.mono ⟨hb.os, hb.tape, hb.output, hb.size, hb.block⟩ HZ.out.size))
                 clear hb)
              | (go_at_call 41
                 refine (Apart_any p q _ HN.out.2.2.1 HN.out.2.2.2).mono ?_
                 rintro e wz ⟨rfl, hb⟩
                 rw [HN.out.1, HN.out.2.1]
                 have HZ : Hid (Below w3.heap.size w3 wz) := Lib.hid (by first | exact HZ.out.trans (hb.mono HZ.out.size) | exact HZ.out.trans (Below.mono ⟨hb.os, hb.tape, hb.output, hb.size, hb.block⟩ HZ.out.size))
                 clear hb))
          all_goals
            have HZ3 := Lib.hid (And.intro (H3.out.1.1.trans (HZ.out.mono H3.out.1.1.size)) (And.intro (H3.out.1.2.below HZ.out H3.out.1.2.lt) (H3.out.2.below HZ.out H3.out.2.lt)))
            clear HK HZ H3 y0 y1
            have y2 := HZ3.out.2.2.cell 2
            simp at y2
            go_wp2
            go_roundw
            case rel => first | (refine ⟨_, _, _, _, _, _, _, _, _, _, _, _, _, _, _, _, _, _, _, _, _, _, _, _, _, _, _, _, _, ?_, rfl⟩; exact ⟨k + 1, by omega, by go_num, Lib.hid ⟨HZ3.out.1, HZ3.out.2.1⟩⟩) | (refine ⟨_, _, _, _, _, _, _, _, _, _, _, _, _, _, _, _, _, _, _, _, _, _, _, _, _, _, _, _, ?_, rfl⟩; exact ⟨k + 1, by omega, by go_num, Lib.hid ⟨HZ3.out.1, HZ3.out.2.1⟩⟩) | (refine ⟨_, _, _, _, _, _, _, _, _, _, _, _, _, _, _, _, _, _, _, _, _, _, _, _, _, _, _, _, _, _, ?_, rfl⟩; exact ⟨k + 1, by omega, by go_num, Lib.hid ⟨HZ3.out.1, HZ3.out.2.1⟩⟩) | (refine ⟨_, _, _, _, _, _, _, _, _, _, _, _, _, _, _, _, _, _, _, _, _, _, _, _, _, _, _, _, _, _, _, ?_, rfl⟩; exact ⟨k + 1, by omega, by go_num, Lib.hid ⟨HZ3.out.1, HZ3.out.2.1⟩⟩)
            case measure => simp [intOf]; omega
        · obtain rfl : k = 8 := by omega
          have H9 := Lib.hid HR.out.1
          clear HR
          go_wp2_with fail
          refine (Of_any 331 _ (by unfold fit32; omega)).mono ?_
          rintro e wa ⟨rfl, hb⟩
          rw [tr331.1, tr331.2]
          have HA := Lib.hid (H9.out.trans (hb.mono H9.out.size))
          clear hb H9
          go_upto_region 19 with (fail)
          refine wp_abs (fun wx => Below w.heap.size w wx ∧ Blk wx wa.heap.size 56 #[.bool false, .int .i64 0, .int .i64 0, .bool false, .int .i64 5, .int .i64 3, .bool true]) ⟨HA.out.trans (((Below.refl _ _).alloc (Nat.le_refl _) _).mono HA.out.size), Blk.new _ _ _⟩ ?_
          clear HA
          generalize wa.heap.size = ba at *
          rintro wb hB
          have HB := Lib.hid hB
          clear hB
          go_wp2_with fail
          refine (Of_any 248 _ (by unfold fit32; omega)).mono ?_
          rintro e wc ⟨rfl, hb⟩
          rw [tr248.1, tr248.2]
          have HC := Lib.hid (And.intro (HB.out.1.trans (hb.mono HB.out.1.size)) (HB.out.2.below hb HB.out.2.lt))
          clear hb HB
          go_upto_region 20 with (fail)
          refine wp_abs (fun wx => Below w.heap.size w wx ∧ Blk wx ba 56 #[.bool false, .int .i64 0, .int .i64 0, .bool false, .int .i64 5, .int .i64 3, .bool true] ∧ Blk wx wc.heap.size 56 #[.bool true, .int .i64 4, .int .i64 0, .bool true, .int .i64 0, .int .i64 0, .bool false]) ⟨HC.out.1.trans (((Below.refl _ _).alloc (Nat.le_refl _) _).mono HC.out.1.size), HC.out.2.alloc _, Blk.new _ _ _⟩ ?_
          clear HC
          generalize wc.heap.size = bc at *
          rintro wd hD
          have HD := Lib.hid hD
          clear hD
          go_wp2_with fail
          refine (Of_any 99 _ (by unfold fit32; omega)).mono ?_
          rintro e we ⟨rfl, hb⟩
          rw [tr99.1, tr99.2]
          have HE := Lib.hid (And.intro (HD.out.1.trans (hb.mono HD.out.1.size)) (And.intro (HD.out.2.1.below hb HD.out.2.1.lt) (HD.out.2.2.below hb HD.out.2.2.lt)))
          clear hb HD
          go_upto_region 21 with (fail)
          refine wp_abs (fun wx => Below w.heap.size w wx ∧ Blk wx ba 56 #[.bool false, .int .i64 0, .int .i64 0, .bool false, .int .i64 5, .int .i64 3, .bool true] ∧ Blk wx bc 56 #[.bool true, .int .i64 4, .int .i64 0, .bool true, .int .i64 0, .int .i64 0, .bool false]) ⟨HE.out.1.trans (((Below.refl _ _).alloc (Nat.le_refl _) _).mono HE.out.1.size), HE.out.2.1.alloc _, HE.out.2.2.alloc _⟩ ?_
          clear HE
          rintro wf ⟨hF, hp, hq⟩
          have a0 : wf.cell? ⟨ba, 0, none⟩ = some (.bool false) := hp.cell 0
          have a1 : wf.cell? ⟨ba, 1, none⟩ = some (.int .i64 0) := hp.cell 1
          have a2 : wf.cell? ⟨ba, 2, none⟩ = some (.int .i64 0) := hp.cell 2
          have a3 : wf.cell? ⟨ba, 3, none⟩ = some (.bool false) := hp.cell 3
          have a4 : wf.cell? ⟨ba, 4, none⟩ = some (.int .i64 5) := hp.cell 4
          have a5 : wf.cell? ⟨ba, 5, none⟩ = some (.int .i64 3) := hp.cell 5
          have a6 : wf.cell? ⟨ba, 6, none⟩ = some (.bool true) := hp.cell 6
          have c0 : wf.cell? ⟨bc, 0, none⟩ = some (.bool true) := hq.cell 0
          have c1 : wf.cell? ⟨bc, 1, none⟩ = some (.int .i64 4) := hq.cell 1
          have c2 : wf.cell? ⟨bc, 2, none⟩ = some (.int .i64 0) := hq.cell 2
          have c3 : wf.cell? ⟨bc, 3, none⟩ = some (.bool true) := hq.cell 3
          have c4 : wf.cell? ⟨bc, 4, none⟩ = some (.int .i64 0) := hq.cell 4
          have c5 : wf.cell? ⟨bc, 5, none⟩ = some (.int .i64 0) := hq.cell 5
          have c6 : wf.cell? ⟨bc, 6, none⟩ = some (.bool false) := hq.cell 6
          have HF := Lib.hid hF
          clear hF hp hq
          go_wp2_with fail
          refine (read_any ⟨#[107, 97, 116]⟩ _ (by unfold maxLen; decide)).mono ?_
          rintro e wg ⟨v, rfl, ho, hb⟩
          have hs : readL (⟨#[107, 97, 116]⟩ : ByteArray).data.toList = (kat, 0, 0) := kat_rd
          rw [hs] at ho ⊢
          have e3 : kat.length = 3 := rfl
          dsimp only at ho ⊢
          rw [e3] at ho
          obtain ⟨A, ca, rfl⟩ := own_slice ho
          have HG := Lib.hid (And.intro (HF.out.trans (hb.mono HF.out.size)) ((own_rd ho).more (Nat.zero_le _) (Nat.le_refl _)))
          clear hb ho hs HF a0 a1 a2 a3 a4 a5 a6 c0 c1 c2 c3 c4 c5 c6
          go_upto_region 24 with (fail)
          refine wp_abs (fun wx => Below w.heap.size w wx ∧ Rd wx 0 wx.heap.size 3 A 3 (phs kat)) ⟨HG.out.1.trans (((Below.refl _ _).alloc (Nat.le_refl _) _).mono HG.out.1.size), HG.out.2.up ((Below.refl _ _).alloc (Nat.le_refl _) _) (by simp)⟩ ?_
          clear HG
          rintro wh hH
          have HH := Lib.hid hH
          clear hH
          go_wp2_with fail
          refine (read_any ⟨#[97, 116]⟩ _ (by unfold maxLen; decide)).mono ?_
          rintro e wi ⟨v, rfl, ho, hb⟩
          have hs : readL (⟨#[97, 116]⟩ : ByteArray).data.toList = (att, 0, 0) := att_rd
          rw [hs] at ho ⊢
          have e2 : att.length = 2 := rfl
          dsimp only at ho ⊢
          rw [e2] at ho
          obtain ⟨B, cb, rfl⟩ := own_slice ho
          have HI := Lib.hid (And.intro (HH.out.1.trans (hb.mono HH.out.1.size)) (And.intro (HH.out.2.up hb hb.size) ((own_rd ho).more (Nat.zero_le _) (Nat.le_refl _))))
          clear hb ho hs HH e3 e2
          go_upto_region 25 with (fail)
          refine wp_abs (fun wx => Below w.heap.size w wx ∧ Rd wx 0 wx.heap.size 3 A 3 (phs kat) ∧ Rd wx 0 wx.heap.size 3 B 2 (phs att)) ⟨HI.out.1.trans (((Below.refl _ _).alloc (Nat.le_refl _) _).mono HI.out.1.size), HI.out.2.1.up ((Below.refl _ _).alloc (Nat.le_refl _) _) (by simp), HI.out.2.2.up ((Below.refl _ _).alloc (Nat.le_refl _) _) (by simp)⟩ ?_
          clear HI
          rintro wj hJ
          have HJ := Lib.hid hJ
          clear hJ
          go_wp2_with fail
          refine (distance_any A B 3 ca 2 cb 0 0 kat att _ HJ.out.2.1 HJ.out.2.2 kat_fit att_fit).mono ?_
          rintro e wk ⟨rfl, hb⟩
          rw [kat_ds.1, kat_ds.2]
          have HK := Lib.hid (And.intro (HJ.out.1.trans (hb.mono HJ.out.1.size)) (And.intro (HJ.out.2.1.up hb hb.size) (HJ.out.2.2.up hb hb.size)))
          clear hb HJ
          go_wp2_with fail
          refine (within_any A B 3 ca 2 cb 0 0 kat att 9 _ HK.out.2.1 HK.out.2.2 kat_fit att_fit).mono ?_
          rintro e wl ⟨rfl, hb⟩
          rw [kat_wi.1, kat_wi.2.1]
          have HL := Lib.hid (And.intro (HK.out.1.trans (hb.mono HK.out.1.size)) (And.intro (HK.out.2.1.up hb hb.size) (HK.out.2.2.up hb hb.size)))
          clear hb HK
          generalize wiV kat att 9 = g1
          go_wp2_with fail
          refine (within_any A B 3 ca 2 cb 0 0 kat att 10 _ HL.out.2.1 HL.out.2.2 kat_fit att_fit).mono ?_
          rintro e wm ⟨rfl, hb⟩
          rw [kat_wi.2.2.1, kat_wi.2.2.2.1, kat_wi.2.2.2.2.1]
          have HM := Lib.hid (And.intro (HL.out.1.trans (hb.mono HL.out.1.size)) (And.intro (HL.out.2.1.up hb hb.size) (HL.out.2.2.up hb hb.size)))
          clear hb HL
          go_wp2_with fail
          refine (within_any A B 3 ca 2 cb 0 0 kat att (-1) _ HM.out.2.1 HM.out.2.2 kat_fit att_fit).mono ?_
          rintro e wn ⟨rfl, hb⟩
          rw [kat_wi.2.2.2.2.2]
          have HN := Lib.hid (And.intro (HM.out.1.trans (hb.mono HM.out.1.size)) (And.intro (HM.out.2.1.up hb hb.size) (HM.out.2.2.up hb hb.size)))
          clear hb HM
          generalize wiV kat att (-1) = g2
          generalize wiB kat att (-1) = g3
          go_wp2_with fail
          refine (align_any A B 3 ca 2 cb 0 0 kat att _ HN.out.2.1 HN.out.2.2 kat_fit att_fit).mono ?_
          rintro e wo ⟨v, rfl, ho, hb⟩
          rw [kat_ds.2] at ho ⊢
          rw [if_pos rfl, kat_al] at ho
          obtain ⟨D, dd, rfl⟩ := own_slice ho
          have HO := Lib.hid (And.intro (HN.out.1.trans (hb.mono HN.out.1.size)) ((own_rd ho).more (Nat.zero_le _) (Nat.le_refl _)))
          have e4 : ([(0, -1), (1, 0), (2, 1)] : List (Int × Int)).length = 3 := rfl
          rw [e4] at HO ⊢
          clear hb ho HN e4
          go_wp2_with fail
          refine (pairsEq_any D _ 3 dd 3 0 0 _ _ [(0, -1), (1, 0), (2, 1)] _ (HO.out.2.up ((Below.refl _ _).alloc (Nat.le_refl _) _) (by simp)) (rd_blk (t := 95) (xs := prs [(0, -1), (1, 0), (2, 1)]) (Blk.new wo 95 (prs [(0, -1), (1, 0), (2, 1)]).toArray) rfl) (by unfold maxLen; omega) (Nat.le_refl _) (Nat.le_refl _)).mono ?_
          rintro e wp ⟨rfl, hb⟩
          have HP := Lib.hid (HO.out.1.trans ((((Below.refl _ wo).alloc (Nat.le_refl _) (.cells (prs [(0, -1), (1, 0), (2, 1)]).toArray 95)).trans (hb.mono (by simp))).mono HO.out.1.size))
          clear hb HO
          go_wp2
          go_ret
          exact ⟨rfl, HP.out⟩
end Go.Proofs.Ytogofchpocoebaa
