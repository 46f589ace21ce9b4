/- fold.pairs: the joined letters, one behind another. -/
import Derived.Test.YtialpfmaekagjaaC2
import Derived.Test.YtialpfmaekagjaaR2
import Derived.Test.YtialpfmaekagjaaT2
namespace Go.Proofs.Ytialpfmaekagjaa
open Go.RowKit
attribute [local go_sem] Oper.semAt_some

/-- the joined letters' text -/
def rowsB : ByteArray := ⟨#[204, 128, 65, 195, 128, 69, 195, 136, 73, 195, 140, 79, 195, 146, 85, 195, 153, 97, 195, 160, 101, 195, 168, 105, 195, 172, 111, 195, 178, 117, 195, 185, 208, 149, 208, 128, 208, 152, 208, 141, 208, 181, 209, 144, 208, 184, 209, 157, 204, 129, 65, 195, 129, 69, 195, 137, 73, 195, 141, 79, 195, 147, 85, 195, 154, 89, 195, 157, 97, 195, 161, 101, 195, 169, 105, 195, 173, 111, 195, 179, 117, 195, 186, 121, 195, 189, 67, 196, 134, 76, 196, 185, 78, 197, 131, 82, 197, 148, 83, 197, 154, 90, 197, 185, 99, 196, 135, 108, 196, 186, 110, 197, 132, 114, 197, 149, 115, 197, 155, 122, 197, 186, 206, 145, 206, 134, 206, 149, 206, 136, 206, 151, 206, 137, 206, 153, 206, 138, 206, 159, 206, 140, 206, 165, 206, 142, 206, 169, 206, 143, 206, 177, 206, 172, 206, 181, 206, 173, 206, 183, 206, 174, 206, 185, 206, 175, 206, 191, 207, 140, 207, 133, 207, 141, 207, 137, 207, 142, 208, 147, 208, 131, 208, 154, 208, 140, 208, 179, 209, 147, 208, 186, 209, 156, 207, 138, 206, 144, 207, 139, 206, 176, 204, 130, 65, 195, 130, 69, 195, 138, 73, 195, 142, 79, 195, 148, 85, 195, 155, 97, 195, 162, 101, 195, 170, 105, 195, 174, 111, 195, 180, 117, 195, 187, 67, 196, 136, 71, 196, 156, 72, 196, 164, 74, 196, 180, 83, 197, 156, 87, 197, 180, 89, 197, 182, 99, 196, 137, 103, 196, 157, 104, 196, 165, 106, 196, 181, 115, 197, 157, 119, 197, 181, 121, 197, 183, 204, 131, 65, 195, 131, 78, 195, 145, 79, 195, 149, 97, 195, 163, 110, 195, 177, 111, 195, 181, 73, 196, 168, 85, 197, 168, 105, 196, 169, 117, 197, 169, 204, 132, 65, 196, 128, 69, 196, 146, 73, 196, 170, 79, 197, 140, 85, 197, 170, 97, 196, 129, 101, 196, 147, 105, 196, 171, 111, 197, 141, 117, 197, 171, 204, 134, 65, 196, 130, 69, 196, 148, 71, 196, 158, 73, 196, 172, 79, 197, 142, 85, 197, 172, 97, 196, 131, 101, 196, 149, 103, 196, 159, 105, 196, 173, 111, 197, 143, 117, 197, 173, 208, 152, 208, 153, 208, 163, 208, 142, 208, 184, 208, 185, 209, 131, 209, 158, 204, 135, 67, 196, 138, 69, 196, 150, 71, 196, 160, 73, 196, 176, 90, 197, 187, 99, 196, 139, 101, 196, 151, 103, 196, 161, 122, 197, 188, 204, 136, 65, 195, 132, 69, 195, 139, 73, 195, 143, 79, 195, 150, 85, 195, 156, 97, 195, 164, 101, 195, 171, 105, 195, 175, 111, 195, 182, 117, 195, 188, 121, 195, 191, 89, 197, 184, 208, 149, 208, 129, 208, 134, 208, 135, 208, 181, 209, 145, 209, 150, 209, 151, 206, 153, 206, 170, 206, 165, 206, 171, 206, 185, 207, 138, 207, 133, 207, 139, 204, 138, 65, 195, 133, 85, 197, 174, 97, 195, 165, 117, 197, 175, 204, 139, 79, 197, 144, 85, 197, 176, 111, 197, 145, 117, 197, 177, 204, 140, 67, 196, 140, 68, 196, 142, 69, 196, 154, 76, 196, 189, 78, 197, 135, 82, 197, 152, 83, 197, 160, 84, 197, 164, 90, 197, 189, 99, 196, 141, 100, 196, 143, 101, 196, 155, 108, 196, 190, 110, 197, 136, 114, 197, 153, 115, 197, 161, 116, 197, 165, 122, 197, 190, 204, 167, 67, 195, 135, 71, 196, 162, 75, 196, 182, 76, 196, 187, 78, 197, 133, 82, 197, 150, 83, 197, 158, 84, 197, 162, 99, 195, 167, 103, 196, 163, 107, 196, 183, 108, 196, 188, 110, 197, 134, 114, 197, 151, 115, 197, 159, 116, 197, 163, 204, 168, 65, 196, 132, 69, 196, 152, 73, 196, 174, 85, 197, 178, 97, 196, 133, 101, 196, 153, 105, 196, 175, 117, 197, 179]⟩
/-- the others' text -/
def othersB : ByteArray := ⟨#[195, 159, 115, 115, 32, 195, 166, 97, 101, 32, 195, 184, 111, 32, 195, 176, 100, 32, 195, 190, 116, 104, 32, 196, 145, 100, 32, 196, 167, 104, 32, 196, 177, 105, 32, 196, 179, 105, 106, 32, 196, 184, 113, 32, 197, 128, 108, 32, 197, 130, 108, 32, 197, 137, 110, 32, 197, 139, 110, 103, 32, 197, 147, 111, 101, 32, 197, 167, 116, 32, 197, 191, 115, 32, 207, 130, 207, 131, 32]⟩
/-- the wide ranges' text -/
def widesB : ByteArray := ⟨#[225, 132, 128, 225, 133, 159, 226, 186, 128, 227, 128, 190, 227, 129, 129, 228, 182, 191, 228, 184, 128, 234, 147, 143, 234, 176, 128, 237, 158, 163, 239, 164, 128, 239, 171, 191, 239, 184, 176, 239, 185, 175, 239, 188, 128, 239, 189, 160, 239, 191, 160, 239, 191, 166, 240, 159, 140, 128, 240, 159, 153, 143, 240, 159, 164, 128, 240, 159, 167, 191, 240, 160, 128, 128, 240, 191, 191, 189]⟩

theorem iter_abs {P : Program} {c : Code} {Q : Exit → Act → World → Prop} {a : Act} {W : World} {T : ByteArray} {pos : Nat} (T0 : ByteArray) (hT : T = T0) (h : ∀ T, T = T0 → c.wp P Q a (W.iter T pos)) : c.wp P Q a (W.iter T pos) := h T hT

/-- the pairs that are told from a place on: what the pair holds, and whether a base comes next (1) -/
def pairsGo (s : ByteArray) : Nat → Nat → Int → Int → Nat → List (Int × Int × Int)
  | 0, _, _, _, _ => []
  | f + 1, pos, p0, p1, n =>
    if pos < s.size then
      if kindF ((Utf8.decode s pos).1 : Int) == 2 then pairsGo s f (pos + (Utf8.decode s pos).2) p0 ((Utf8.decode s pos).1 : Int) 1
      else if n == 1 then pairsGo s f (pos + (Utf8.decode s pos).2) ((Utf8.decode s pos).1 : Int) p1 0
      else (p0, p1, ((Utf8.decode s pos).1 : Int)) :: pairsGo s f (pos + (Utf8.decode s pos).2) p0 p1 1
    else []
theorem pairsGo_end (s : ByteArray) (f pos : Nat) (p0 p1 : Int) (n : Nat) (h : ¬ pos < s.size) : pairsGo s f pos p0 p1 n = [] := by
  cases f with
  | zero => rfl
  | succ f => unfold pairsGo; rw [if_neg h]
theorem pairsGo_more (s : ByteArray) (f pos : Nat) (p0 p1 : Int) (n : Nat) (h : pos < s.size) (hf : s.size - pos < f) : ∃ f', s.size - (pos + (Utf8.decode s pos).2) < f' ∧ pairsGo s f pos p0 p1 n =
    if kindF ((Utf8.decode s pos).1 : Int) == 2 then pairsGo s f' (pos + (Utf8.decode s pos).2) p0 ((Utf8.decode s pos).1 : Int) 1
      else if n == 1 then pairsGo s f' (pos + (Utf8.decode s pos).2) ((Utf8.decode s pos).1 : Int) p1 0
      else (p0, p1, ((Utf8.decode s pos).1 : Int)) :: pairsGo s f' (pos + (Utf8.decode s pos).2) p0 p1 1 := by
  cases f with
  | zero => omega
  | succ f =>
    have := width_pos s pos h
    exact ⟨f, by omega, by conv => lhs; unfold pairsGo; rw [if_pos h]⟩
def pairsL : List (Int × Int × Int) := pairsGo rowsB (rowsB.size + 1) 0 0 0 1
def prA (p : Int × Int × Int) : Array Value := #[.agg #[.int .i32 p.1, .int .i32 p.2.1], .int .i32 p.2.2]
structure PrSt (W : World) (T : ByteArray) (pos : Nat) (p0 p1 : Int) (wr : World) : Prop where
  it : wr.heap[W.heap.size + 1]? = some (.stringIter T pos)
  bp : Blk wr W.heap.size 120 #[.int .i32 p0, .int .i32 p1]
theorem PrSt.only {W wr w' : World} {T : ByteArray} {pos : Nat} {p0 p1 : Int} {S : Nat → Prop} (h : PrSt W T pos p0 p1 wr) (ho : Only S wr w') (hS : ∀ b, S b → b < W.heap.size ∨ W.heap.size + 2 ≤ b) : PrSt W T pos p0 p1 w' :=
  ⟨(ho.block _ (Array.getElem?_eq_some_iff.1 h.it).1 (fun hs => by have := hS _ hs; omega)).trans h.it, h.bp.only ho (fun hs => by have := hS _ hs; omega)⟩

set_option maxRecDepth 100000 in
set_option maxHeartbeats 8000000 in
theorem pairs_gives (W : World) : GivesT Try.prog 54 #[] (pairsL.map prA) (fun _b => False) W := by
  intro l J hJ hY h0
  show Calls Try.prog 54 #[.func (.yield l) #[] #[]] W _
  have HJ := Lib.hid (And.intro hJ h0)
  have HY := Lib.hid (show YieldsT Try.prog W (fun b => False) l J from hY)
  clear hJ hY h0
  go_enter Try.func54, Try.ntmps54
  go_wp2
  refine iter_abs rowsB rfl ?_
  intro T hT
  have HT := Lib.hid hT
  have HL := Lib.hid (show pairsL = pairsGo T (T.size + 1) 0 0 0 1 by rw [hT]; rfl)
  have HSZ := Lib.hid (show T.size ≤ 3000 by rw [hT]; decide +kernel)
  clear hT
  go_loopw [3] (fun v3 wr => ∃ (pos f n : Nat) (p0 p1 : Int) (S : Nat → Prop), pos ≤ T.size ∧ v3 = .bool (n == 1) ∧ Hid (J ((pairsGo T f pos p0 p1 n).map prA) S wr ∧ PrSt W T pos p0 p1 wr ∧ W.heap.size + 2 ≤ wr.heap.size ∧ T.size - pos < f ∧ (∀ b, S b → W.heap.size + 2 ≤ b ∧ b < wr.heap.size))) (fun _ w' => T.size - w'.iterPos (W.heap.size + 1))
  case atStart =>
    refine ⟨0, T.size + 1, 1, 0, 0, fun _ => False, by omega, rfl, Lib.hid ⟨?_, ⟨?_, ?_⟩, by simp [World.iter], by omega, fun _ h => h.elim⟩⟩
    · rw [← HL.out]
      exact HJ.out.1 _ _ _ _ HJ.out.2 (Only.of_below (((Below.refl _ W).alloc (Nat.le_refl _) _).trans ((iter_below _ _ _).mono (by simp))) _)
    · have := World.iter_heap (W.alloc (.cells #[.int .i32 0, .int .i32 0] 120)) T 0
      simpa using this
    · exact (Blk.new W 120 _).iter T 0
  case round =>
    obtain ⟨pos, f, n, p0, p1, S, hpos, rfl, HR⟩ := hrel
    by_cases hp : pos < T.size
    · have hnx : ∀ ty, (Instr.next (.pointer (some ⟨W.heap.size + 1, 0, none⟩)) true ty).run Try.prog wr = _ := fun ty => Lib.run_next_any_at wr (W.heap.size + 1) T pos ty HR.out.2.1.it hp
      obtain ⟨f', hf1, hf2⟩ := pairsGo_more T f pos p0 p1 n hp HR.out.2.2.2.1
      have hd := decode_le T pos
      have hd2 := decode_fit T pos hp
      have hw1 := width_pos T pos hp
      generalize (Utf8.decode T pos).1 = r at *
      generalize (Utf8.decode T pos).2 = dw at *
      have hho : Only (fun b => b = W.heap.size + 1) wr (wr.iterAt (W.heap.size + 1) T (pos + dw)) := Only.iterAt (S := fun b => b = W.heap.size + 1) (Only.refl _ wr) (.inl rfl) T (pos + dw)
      have HS := Lib.hid (show J ((pairsGo T f pos p0 p1 n).map prA) S (wr.iterAt (W.heap.size + 1) T (pos + dw)) ∧ PrSt W T (pos + dw) p0 p1 (wr.iterAt (W.heap.size + 1) T (pos + dw)) ∧ W.heap.size + 2 ≤ (wr.iterAt (W.heap.size + 1) T (pos + dw)).heap.size ∧ (∀ b, S b → W.heap.size + 2 ≤ b ∧ b < (wr.iterAt (W.heap.size + 1) T (pos + dw)).heap.size) from
        ⟨HJ.out.1 _ _ _ _ HR.out.1 (hho.weak (fun b _ e => by subst e; exact ⟨by omega, fun h => by have := (HR.out.2.2.2.2 _ h).1; omega⟩)), ⟨Lib.iterAt_heap wr _ T pos (pos + dw) HR.out.2.1.it, HR.out.2.1.bp.only hho (by omega)⟩, by rw [Lib.iterAt_size]; exact HR.out.2.2.1, by rw [Lib.iterAt_size]; exact HR.out.2.2.2.2⟩)
      have HF := Lib.hid (And.intro hf1 hf2)
      clear hf1 hf2 hho
      go_upto_region 5 with (fail)
      refine wp_abs (fun wx => J ((pairsGo T f pos p0 p1 n).map prA) S wx ∧ PrSt W T (pos + dw) p0 p1 wx ∧ W.heap.size + 2 ≤ wx.heap.size ∧ (∀ b, S b → W.heap.size + 2 ≤ b ∧ b < wx.heap.size)) HS.out ?_
      clear hnx HS
      rintro wx ⟨hj, hst, hsz, hSb⟩
      have b0 : wx.cell? ⟨W.heap.size, 0, none⟩ = some (.int .i32 p0) := hst.bp.cell 0
      have b1 : wx.cell? ⟨W.heap.size, 1, none⟩ = some (.int .i32 p1) := hst.bp.cell 1
      have f0 : wx.frozen? ⟨W.heap.size, 0, none⟩ = false := hst.bp.frozen 0
      have f1 : wx.frozen? ⟨W.heap.size, 1, none⟩ = false := hst.bp.frozen 1
      have HX := Lib.hid (And.intro hj (And.intro hst (And.intro hsz hSb)))
      clear hj hst hsz hSb
      go_wp2_with fail
      refine (kind_any (r : Int) wx).mono ?_
      rintro e w2 ⟨rfl, ew⟩
      subst ew
      have hrel : ∀ (n' : Nat) (q0 q1 : Int) (wy : World) (S' : Nat → Prop), J ((pairsGo T f' (pos + dw) q0 q1 n').map prA) S' wy → PrSt W T (pos + dw) q0 q1 wy → W.heap.size + 2 ≤ wy.heap.size → (∀ b, S' b → W.heap.size + 2 ≤ b ∧ b < wy.heap.size) →
        Hid (J ((pairsGo T f' (pos + dw) q0 q1 n').map prA) S' wy ∧ PrSt W T (pos + dw) q0 q1 wy ∧ W.heap.size + 2 ≤ wy.heap.size ∧ T.size - (pos + dw) < f' ∧ (∀ b, S' b → W.heap.size + 2 ≤ b ∧ b < wy.heap.size)) :=
        fun n' q0 q1 wy S' h1 h2 h3 h4 => Lib.hid ⟨h1, h2, h3, HF.out.1, h4⟩
      have hmeas : ∀ (wy : World) (q0 q1 : Int), PrSt W T (pos + dw) q0 q1 wy → T.size - wy.iterPos (W.heap.size + 1) < T.size - wr.iterPos (W.heap.size + 1) := fun wy q0 q1 h => by
        rw [iterPos_of h.it, iterPos_of HR.out.2.1.it]; omega
      have HRL := Lib.hid (And.intro hrel hmeas)
      clear hrel hmeas
      cases hk : (kindF (r : Int) == 2) with
      | true =>
        have HE := Lib.hid (show pairsGo T f pos p0 p1 n = pairsGo T f' (pos + dw) p0 (r : Int) 1 by rw [HF.out.2, hk]; rfl)
        have HP := Lib.hid (show PrSt W T (pos + dw) p0 (r : Int) (w2.setCell ⟨W.heap.size, 1, none⟩ (.int .i32 (r : Int))) from ⟨(Below.heap_setCell _ _ _ _ (by simp)).trans HX.out.2.1.it, HX.out.2.1.bp.set_ 1 _⟩)
        go_wp2
        go_roundw
        case rel =>
          refine ⟨pos + dw, f', 1, p0, (r : Int), S, by omega, rfl, HRL.out.1 _ _ _ _ _ ?_ HP.out (by simpa using HX.out.2.2.1) (by simpa using HX.out.2.2.2)⟩
          rw [← HE.out]
          exact HJ.out.1 _ _ _ _ HX.out.1 ((Only.refl (fun b => W.heap.size ≤ b ∧ ¬ S b) w2).setCell (.inl ⟨by simp, fun h => by have := (HX.out.2.2.2 _ h).1; simp at this; omega⟩) _)
        case measure => exact HRL.out.2 _ _ _ HP.out
      | false =>
        cases hn : (n == 1) with
        | true =>
          have HE := Lib.hid (show pairsGo T f pos p0 p1 n = pairsGo T f' (pos + dw) (r : Int) p1 0 by rw [HF.out.2, hk, hn]; rfl)
          have HP := Lib.hid (show PrSt W T (pos + dw) (r : Int) p1 (w2.setCell ⟨W.heap.size, 0, none⟩ (.int .i32 (r : Int))) from ⟨(Below.heap_setCell _ _ _ _ (by simp)).trans HX.out.2.1.it, HX.out.2.1.bp.set_ 0 _⟩)
          have HN := Lib.hid hn
          clear hn
          go_wp2
          go_roundw
          case rel =>
            refine ⟨pos + dw, f', 0, (r : Int), p1, S, by omega, rfl, HRL.out.1 _ _ _ _ _ ?_ HP.out (by simpa using HX.out.2.2.1) (by simpa using HX.out.2.2.2)⟩
            rw [← HE.out]
            exact HJ.out.1 _ _ _ _ HX.out.1 ((Only.refl (fun b => W.heap.size ≤ b ∧ ¬ S b) w2).setCell (.inl ⟨by simp, fun h => by have := (HX.out.2.2.2 _ h).1; simp at this; omega⟩) _)
          case measure => exact HRL.out.2 _ _ _ HP.out
        | false =>
          have HE := Lib.hid (show pairsGo T f pos p0 p1 n = (p0, p1, (r : Int)) :: pairsGo T f' (pos + dw) p0 p1 1 by rw [HF.out.2, hk, hn]; rfl)
          have HN := Lib.hid hn
          clear hn
          have hj := HX.out.1
          rw [HE.out] at hj
          obtain ⟨fn, tmps, assign, body, hy, hR⟩ := HY.out (prA (p0, p1, (r : Int))) _ S w2 (fun b h => by have := HX.out.2.2.2 b h; omega) (by have := HX.out.2.2.1; omega) hj
          have HRR := Lib.hid hR
          replace hy : (Instr.yield l #[.agg #[.int .i32 p0, .int .i32 p1], .int .i32 (r : Int)]).run Try.prog w2 = _ := hy
          clear hR hj
          go_upto_region 9 with (fail)
          refine (wpIn_wide (n := 0)).1 ?_
          have wf : ∀ k, Fence.wide.fn k := fun _ => trivial
          have wd : Fence.wide.depth = none := rfl
          gi_wp2_with (with_reducible refine HRR.out.mono ?_)
          rintro e w3 ⟨rfl, S', hj3, hS', ho⟩
          have hsz := ho.size
          have HQ := Lib.hid (show J ((pairsGo T f' (pos + dw) p0 p1 1).map prA) S' w3 ∧ PrSt W T (pos + dw) p0 p1 w3 ∧ W.heap.size + 2 ≤ w3.heap.size ∧ (∀ b, S' b → W.heap.size + 2 ≤ b ∧ b < w3.heap.size) from ⟨hj3, HX.out.2.1.only ho (fun b hb => by
            rcases hb with hb | hb
            · exact .inl hb.1
            · exact .inr (HX.out.2.2.2 b hb).1), by have := HX.out.2.2.1; omega, fun b hb => by
              rcases hS' b hb with h | h
              · have := HX.out.2.2.2 b h; omega
              · have := HX.out.2.2.1; omega⟩)
          clear hj3 hS' ho hsz hy
          gi_wp2
          go_wp2
          go_roundw
          case rel => exact ⟨pos + dw, f', 1, p0, p1, S', by omega, rfl, HRL.out.1 _ _ _ _ _ HQ.out.1 HQ.out.2.1 HQ.out.2.2.1 HQ.out.2.2.2⟩
          case measure => exact HRL.out.2 _ _ _ HQ.out.2.1
    · have hnx : ∀ ty, (Instr.next (.pointer (some ⟨W.heap.size + 1, 0, none⟩)) true ty).run Try.prog wr = _ := fun ty => Lib.run_next_end_at wr (W.heap.size + 1) T pos ty HR.out.2.1.it hp
      have he := pairsGo_end T f pos p0 p1 n hp
      have HJ3 := Lib.hid (show J [] S wr by have h := HR.out.1; rw [he] at h; exact h)
      have HS3 := Lib.hid HR.out.2.2.2.2
      clear he HR
      go_wp2
      go_end0
      exact ⟨⟨_, rfl⟩, S, fun b h => by have := HS3.out b h; omega, HJ3.out⟩
end Go.Proofs.Ytialpfmaekagjaa
