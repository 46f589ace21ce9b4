/- The reference's Next: the longest phone at a place.
   The reference's Each and Read: the phones of a text, where each begins. -/
import Derived.Test.YtogofchpocoebaaP5
import Derived.Test.YtogofchpocoebaaS2
import Derived.Test.YtogofchpocoebaaQ11
namespace Go.Proofs.Ytogofchpocoebaa
open Go.RowKit Go.Maps

theorem cut_pre (s t : ByteArray) (n : Nat) (_h : n + t.size ≤ s.size) : ((s.extract n (n + t.size)).toList == t.toList) = t.data.toList.isPrefixOf (s.data.toList.drop n) := by
  have hl : s.data.toList.length = s.size := rfl
  have ht : t.data.toList.length = t.size := rfl
  have e : s.extract n (n + t.size) = bts ((s.data.toList.drop n).take t.size) := by
    apply ByteArray.ext
    rw [ByteArray.data_extract]
    apply Array.ext'
    simp [bts]
  rw [e, ByteArray.toList_eq, ByteArray.toList_eq, Bool.eq_iff_iff, beq_iff_eq, List.isPrefixOf_iff_prefix, List.prefix_iff_eq_take, ht]
  exact eq_comm

theorem begins_any (s t : ByteArray) (n : Nat) (w : World) (hs : s.size ≤ maxLen) (hn : n ≤ s.size) :
    Calls Try.prog 161 #[.string s, .int .i64 n, .string t] w fun e w' => e = .returned (.bool (t.data.toList.isPrefixOf (s.data.toList.drop n))) ∧ Below w.heap.size w w' := by
  unfold maxLen at hs
  by_cases h : n + t.size ≤ s.size
  · have hd : decide ((t.size : Int) ≤ (s.size : Int) - (n : Int)) = true := by simp; omega
    have HC := Lib.hid (cut_pre s t n h)
    go_enter Try.func161, Try.ntmps161
    go_wp2
    go_ret
    exact ⟨ret_bool (by rw [← HC.out]), Below.refl _ _⟩
  · have hd : decide ((t.size : Int) ≤ (s.size : Int) - (n : Int)) = false := by simp; omega
    have HC := Lib.hid (show t.data.toList.isPrefixOf (s.data.toList.drop n) = false by
      rw [Bool.eq_false_iff]
      intro h1
      have := (List.isPrefixOf_iff_prefix.1 h1).length_le
      rw [List.length_drop] at this
      have hl : s.data.toList.length = s.size := rfl
      have ht : t.data.toList.length = t.size := rfl
      omega)
    go_enter Try.func161, Try.ntmps161
    go_wp2
    go_ret
    exact ⟨ret_bool HC.out.symm, Below.refl _ _⟩

/-- memory while Next runs: the best so far, the rows, the glides -/
structure NeSt (w0 : World) (g gl : Nat) (p : Ph) (W : World) : Prop where
  br : Blk W w0.heap.size 43 #[.int .i32 0, .bool false, .int .i32 0]
  bp : Blk W (w0.heap.size + 1) 43 #[.int .i32 p.1, .bool p.2.1, .int .i32 p.2.2]
  bg : Blk W g 65 (rws rowsL).toArray
  bl : Blk W gl 230 #[.int .i32 0, .int .i32 105, .int .i32 117]
  below : Below w0.heap.size w0 W
  lg : w0.heap.size + 2 ≤ g
  ll : w0.heap.size + 2 ≤ gl
theorem NeSt.on {w0 : World} {g gl : Nat} {p : Ph} {W W' : World} (h : NeSt w0 g gl p W) (hb : Below W.heap.size W W') : NeSt w0 g gl p W' :=
  ⟨h.br.below hb h.br.lt, h.bp.below hb h.bp.lt, h.bg.below hb h.bg.lt, h.bl.below hb h.bl.lt, h.below.trans (hb.mono h.below.size), h.lg, h.ll⟩
theorem NeSt.set {w0 : World} {g gl : Nat} {p : Ph} {W : World} (h : NeSt w0 g gl p W) (q : Ph) : NeSt w0 g gl q (((W.setCell ⟨w0.heap.size + 1, 0, none⟩ (.int .i32 q.1)).setCell ⟨w0.heap.size + 1, 1, none⟩ (.bool q.2.1)).setCell ⟨w0.heap.size + 1, 2, none⟩ (.int .i32 q.2.2)) := by
  have l1 := h.lg
  have l2 := h.ll
  refine ⟨((h.br.far (by simp) _).far (by simp) _).far (by simp) _, by simpa using ((h.bp.set_ 0 (.int .i32 q.1)).set_ 1 (.bool q.2.1)).set_ 2 (.int .i32 q.2.2), ((h.bg.far (by simp; omega) _).far (by simp; omega) _).far (by simp; omega) _, ((h.bl.far (by simp; omega) _).far (by simp; omega) _).far (by simp; omega) _, ((h.below.setCell (by simp) _).setCell (by simp) _).setCell (by simp) _, l1, l2⟩
theorem tmod3 (k : Nat) (h : k < 6) : (k : Int).tmod 3 = ((k % 3 : Nat) : Int) := by
  have : k = 0 ∨ k = 1 ∨ k = 2 ∨ k = 3 ∨ k = 4 ∨ k = 5 := by omega
  rcases this with rfl | rfl | rfl | rfl | rfl | rfl <;> rfl
theorem glide_cell {W : World} {gl : Nat} (h : Blk W gl 230 #[.int .i32 0, .int .i32 105, .int .i32 117]) {k : Nat} (hk : k < 6) : W.cell? ⟨gl, k % 3, none⟩ = some (.int .i32 (sixG k)) := by
  rw [h.cell]
  have : k = 0 ∨ k = 1 ∨ k = 2 ∨ k = 3 ∨ k = 4 ∨ k = 5 := by omega
  rcases this with rfl | rfl | rfl | rfl | rfl | rfl <;> rfl

set_option maxHeartbeats 4000000 in
set_option maxRecDepth 100000 in
theorem refNext_any (s : ByteArray) (n : Nat) (w : World) (hs : s.size ≤ maxLen) (hn : n ≤ s.size) : Calls Try.prog 127 #[.string s, .int .i64 n] w fun e w' =>
    e = .returned (.tuple #[.agg #[.int .i32 (nextL (s.data.toList.drop n)).1.1, .bool (nextL (s.data.toList.drop n)).1.2.1, .int .i32 (nextL (s.data.toList.drop n)).1.2.2], .int .i64 ((nextL (s.data.toList.drop n)).2 : Nat)]) ∧ Below w.heap.size w w' := by
  generalize hlv : s.data.toList.drop n = lv
  have HL := Lib.hid hlv
  clear hlv
  have HE := Lib.hid (bestAt_end lv)
  go_enter Try.func127, Try.ntmps127
  go_upto_region 2 with (fail)
  refine wp_abs (fun wx => Blk wx w.heap.size 43 #[.int .i32 0, .bool false, .int .i32 0] ∧ Blk wx (w.heap.size + 1) 43 #[.int .i32 0, .bool false, .int .i32 0] ∧ Below w.heap.size w wx) ?f1 ?_
  case f1 => exact ⟨((Blk.new _ _ _).alloc _), blk_new_eq (by simp), ((Below.refl _ _).alloc (Nat.le_refl _) _).alloc (by simp) _⟩
  rintro w1 ⟨b1, b2, hb⟩
  have H1 := Lib.hid (And.intro b1 (And.intro b2 hb))
  clear b1 b2 hb
  go_wp2_with fail
  refine (refRows_any w1).mono ?_
  rintro e w2 ⟨g, rfl, hg, hb, hlo⟩
  have H2 := Lib.hid (And.intro (H1.out.1.below hb H1.out.1.lt) (And.intro (H1.out.2.1.below hb H1.out.2.1.lt) (And.intro (H1.out.2.2.trans (hb.mono H1.out.2.2.size)) (And.intro hg (And.intro hlo H1.out.2.1.lt)))))
  clear hg hb hlo H1
  go_upto_region 4 with (fail)
  refine wp_abs (NeSt w g w2.heap.size (0, false, 0)) ?f2 ?_
  case f2 =>
    have hb := (Below.refl _ w2).alloc (Nat.le_refl _) (.cells #[.int .i32 0, .int .i32 105, .int .i32 117] 230)
    have l := H2.out.2.2.2.2.2
    exact ⟨H2.out.1.below hb H2.out.1.lt, H2.out.2.1.below hb H2.out.2.1.lt, H2.out.2.2.2.1.below hb H2.out.2.2.2.1.lt, Blk.new _ _ _, H2.out.2.2.1.trans (hb.mono H2.out.2.2.1.size), by have := H2.out.2.2.2.2.1; omega, by have := H2.out.2.1.lt; omega⟩
  generalize w2.heap.size = gl
  clear H2
  intro w3 hS
  have HS := Lib.hid hS
  clear hS
  go_wp2
  go_loopw [7, 10, 11, 12, 13] (fun v7 v10 _ _ _ wr => ∃ i : Nat, i ≤ 38 ∧ v10 = .int .i64 i ∧ v7 = .int .i64 (((bestAt lv i 0).2 : Nat) : Int) ∧ Hid (NeSt w g gl (bestAt lv i 0).1 wr)) (fun _ v10 _ _ _ _ => 38 - (intOf v10).toNat)
  case atStart => exact ⟨0, by omega, rfl, rfl, HS⟩
  case round =>
    obtain ⟨i, hi, rfl, rfl, HR⟩ := hrel
    clear HS
    by_cases hlt : i < 38
    · have hil : i < rowsL.length := by rw [rowsL_len]; exact hlt
      have HROW := Lib.hid (bestAt_row lv hil)
      have HST := Lib.hid (fun k (hk : k < 6) => bestAt_step lv hil hk)
      have hcell : ∀ W : World, Blk W g 65 (rws rowsL).toArray → W.cell? ⟨g, i * 8, none⟩ = some (.int .i32 rowsL[i].1) := fun W hW => by
        rw [hW.cell, List.getElem?_toArray]
        have := flat_at rowC 8 rowC_len rowsL i hil 0 (by omega)
        rw [Nat.add_zero] at this
        exact this
      have HC := Lib.hid hcell
      generalize rowsL[i].1 = r at *
      clear hcell
      have i1 : (0 : Int) ≤ (i : Int) := by omega
      have i2 : (i : Int) < 38 := by omega
      go_wp2
      go_loopw [7, 11, 12, 13] (fun v7 v11 _ _ wy => ∃ k : Nat, k ≤ 6 ∧ v11 = .int .i64 k ∧ v7 = .int .i64 (((bestAt lv i k).2 : Nat) : Int) ∧ Hid (NeSt w g gl (bestAt lv i k).1 wy)) (fun _ v11 _ _ _ => 6 - (intOf v11).toNat)
      case atStart => exact ⟨0, by omega, rfl, rfl, HR⟩
      case round =>
        clear HR
        obtain ⟨k, hk, rfl, rfl, HR⟩ := hrel
        by_cases hlk : k < 6
        · have h6 := sixAt_is r hlk
          have ht3 := tmod3 k hlk
          have cg : wr.cell? ⟨g, i * 8, none⟩ = some (.int .i32 r) := HC.out _ HR.out.bg
          have cg0 : wr.cell? ⟨g, 0 + i * 8, none⟩ = some (.int .i32 r) := by rw [Nat.zero_add]; exact cg
          have cl : wr.cell? ⟨gl, k % 3, none⟩ = some (.int .i32 (sixG k)) := glide_cell HR.out.bl hlk
          have cl0 : wr.cell? ⟨gl, 0 + k % 3, none⟩ = some (.int .i32 (sixG k)) := by rw [Nat.zero_add]; exact cl
          have m1 : (0 : Int) ≤ ((k % 3 : Nat) : Int) := by omega
          have m2 : ((k % 3 : Nat) : Int) < 3 := by omega
          have l1 := HR.out.bg.lt
          have l2 := HR.out.bl.lt
          go_upto_region 11 with (fail)
          go_region
          refine exit_abs (fun wx => NeSt w g gl (bestAt lv i k).1 wx ∧ Blk wx wr.heap.size 43 #[.int .i32 (sixAt r k).1, .bool (sixAt r k).2.1, .int .i32 (sixAt r k).2.2]) ⟨HR.out.on (bdrawn ((Below.refl _ _).alloc (Nat.le_refl _) _) _), ?fb⟩ ?_
          case fb =>
            rw [h6]
            have : decide ((3 : Int) ≤ (k : Int)) = decide (3 ≤ k) := decide_eq_decide.2 (by omega)
            try rw [this]
            exact (Blk.new _ _ _).drewN _
          clear cg cg0 cl cl0 m1 m2 ht3 h6
          generalize wr.heap.size = pb at *
          have HSTEP := Lib.hid (HST.out k hlk)
          generalize sixAt r k = p at *
          generalize hB : bestAt lv i k = B at *
          clear hB HR
          rintro wx ⟨hS, hX⟩
          have x0 : wx.cell? ⟨pb, 0, none⟩ = some (.int .i32 p.1) := hX.cell 0
          have x1 : wx.cell? ⟨pb, 1, none⟩ = some (.bool p.2.1) := hX.cell 1
          have x2 : wx.cell? ⟨pb, 2, none⟩ = some (.int .i32 p.2.2) := hX.cell 2
          have HX := Lib.hid (And.intro hS hX)
          clear hS hX
          go_wp2_with fail
          refine (refText_any p wx).mono ?_
          rintro e wy ⟨rfl, hb⟩
          have HY := Lib.hid (And.intro (HX.out.1.on hb) (HX.out.2.below hb HX.out.2.lt))
          clear hb HX x0 x1 x2
          have x0 : wy.cell? ⟨pb, 0, none⟩ = some (.int .i32 p.1) := HY.out.2.cell 0
          have x1 : wy.cell? ⟨pb, 1, none⟩ = some (.bool p.2.1) := HY.out.2.cell 1
          have x2 : wy.cell? ⟨pb, 2, none⟩ = some (.int .i32 p.2.2) := HY.out.2.cell 2
          go_wp2_with fail
          refine (refIs_any p wy).mono ?_
          rintro e wz ⟨rfl, hb⟩
          have HZ := Lib.hid (And.intro (HY.out.1.on hb) (HY.out.2.below hb HY.out.2.lt))
          clear hb HY x0 x1 x2
          cases hF : isF p with
          | false =>
            have HN := Lib.hid (show tryP lv B p = B by unfold tryP; rw [hF]; rfl)
            clear hF
            go_wp2
            go_roundw
            case rel => exact ⟨k + 1, by omega, by go_num, by rw [HSTEP.out, HN.out], Lib.hid (by rw [HSTEP.out, HN.out]; exact HZ.out.1)⟩
            case measure => simp [intOf]; omega
          | true =>
            go_wp2_with fail
            refine (begins_any s (bts (textP p)) n _ hs hn).mono ?_
            rintro e wv ⟨rfl, hb⟩
            rw [HL.out, show (bts (textP p)).data.toList = textP p from rfl]
            have HV := Lib.hid (And.intro (HZ.out.1.on hb) (HZ.out.2.below hb HZ.out.2.lt))
            clear hb HZ
            cases hP : (textP p).isPrefixOf lv with
            | false =>
              have HN := Lib.hid (show tryP lv B p = B by unfold tryP; rw [hF, hP]; rfl)
              clear hF hP
              go_wp2
              go_roundw
              case rel => exact ⟨k + 1, by omega, by go_num, by rw [HSTEP.out, HN.out], Lib.hid (by rw [HSTEP.out, HN.out]; exact HV.out.1)⟩
              case measure => simp [intOf]; omega
            | true =>
              have HZZ := Lib.hid (bts_size (textP p))
              by_cases hlen : B.2 < (textP p).length
              · have HN := Lib.hid (show tryP lv B p = (p, (textP p).length) by unfold tryP; rw [hF, hP, decide_eq_true hlen]; rfl)
                have hd : decide (((B.2 : Nat) : Int) < (((bts (textP p)).size : Nat) : Int)) = true := by rw [HZZ.out]; simp; omega
                have hd2 : B.2 < (bts (textP p)).size := by rw [HZZ.out]; exact hlen
                have x0 : wv.cell? ⟨pb, 0, none⟩ = some (.int .i32 p.1) := HV.out.2.cell 0
                have x1 : wv.cell? ⟨pb, 1, none⟩ = some (.bool p.2.1) := HV.out.2.cell 1
                have x2 : wv.cell? ⟨pb, 2, none⟩ = some (.int .i32 p.2.2) := HV.out.2.cell 2
                have b0 : wv.cell? ⟨w.heap.size + 1, 0, none⟩ = some (.int .i32 B.1.1) := HV.out.1.bp.cell 0
                have b1 : wv.cell? ⟨w.heap.size + 1, 1, none⟩ = some (.bool B.1.2.1) := HV.out.1.bp.cell 1
                have b2 : wv.cell? ⟨w.heap.size + 1, 2, none⟩ = some (.int .i32 B.1.2.2) := HV.out.1.bp.cell 2
                have f0 := HV.out.1.bp.frozen
                clear hF hP hlen
                go_wp2
                go_roundw
                case rel => exact ⟨k + 1, by omega, by go_num, by rw [HSTEP.out, HN.out, HZZ.out], Lib.hid (by rw [HSTEP.out, HN.out]; exact HV.out.1.set p)⟩
                case measure => simp [intOf]; omega
              · have HN := Lib.hid (show tryP lv B p = B by unfold tryP; rw [hF, hP, decide_eq_false hlen]; rfl)
                have hd : decide (((B.2 : Nat) : Int) < (((bts (textP p)).size : Nat) : Int)) = false := by rw [HZZ.out]; simp; omega
                have hd2 : ¬ B.2 < (bts (textP p)).size := by rw [HZZ.out]; exact hlen
                clear hF hP hlen
                go_wp2
                go_roundw
                case rel => exact ⟨k + 1, by omega, by go_num, by rw [HSTEP.out, HN.out], Lib.hid (by rw [HSTEP.out, HN.out]; exact HV.out.1)⟩
                case measure => simp [intOf]; omega
        · obtain rfl : k = 6 := by omega
          have HX := Lib.hid HROW.out
          go_wp2
          go_roundw
          case rel => exact ⟨i + 1, by omega, by go_num, by rw [HX.out], Lib.hid (by rw [← HX.out]; exact HR.out)⟩
          case measure => simp [intOf]; omega
    · obtain rfl : i = 38 := by omega
      rw [HE.out]
      have hst := HR.out
      rw [HE.out] at hst
      generalize hNN : nextL lv = N at *
      have HN := Lib.hid hNN
      clear hNN
      have d0 := hst.bp.cell 0
      have d1 := hst.bp.cell 1
      have d2 := hst.bp.cell 2
      have e0 := hst.br.cell 0
      have e1 := hst.br.cell 1
      have e2 := hst.br.cell 2
      have f0 := hst.br.frozen
      simp at d0 d1 d2 e0 e1 e2
      have HF := Lib.hid hst
      clear hst
      go_wp2
      have HG := ((HF.out.br.set_ 0 (.int .i32 N.1.1)).set_ 1 (.bool N.1.2.1)).set_ 2 (.int .i32 N.1.2.2)
      have z0 := HG.cell 0
      have z1 := HG.cell 1
      have z2 := HG.cell 2
      simp at z0 z1 z2
      refine bodyPost_ret (v := .tuple #[.agg #[.int .i32 N.1.1, .bool N.1.2.1, .int .i32 N.1.2.2], .int .i64 ((N.2 : Nat) : Int)]) (by simp [results, Try.results127, go_sem, z0, z1, z2]) rfl ?_
      exact ⟨by rw [HN.out], ((HF.out.below.setCell (by simp) _).setCell (by simp) _).setCell (by simp) _⟩
end Go.Proofs.Ytogofchpocoebaa

namespace Go.Proofs.Ytogofchpocoebaa
open Go.RowKit Go.Maps

def fsts (l : List (Ph × Nat)) : List Ph := l.map (·.1)
def snds (l : List (Ph × Nat)) : List Value := l.map fun x => .int .i64 (x.2 : Nat)
theorem fsts_len (l : List (Ph × Nat)) : (fsts l).length = l.length := by simp [fsts]
theorem snds_len (l : List (Ph × Nat)) : (snds l).length = l.length := by simp [snds]

/-- memory while Each runs: what was read so far, and where -/
structure EaSt (w0 : World) (v5 v6 : Value) (out : List (Ph × Nat)) (W : World) : Prop where
  o5 : W.ownsRow w0.heap.size 43 3 v5 out.length (phs (fsts out))
  o6 : W.ownsRow w0.heap.size 3 1 v6 out.length (snds out)
  below : Below w0.heap.size w0 W
theorem EaSt.on {w0 : World} {v5 v6 : Value} {out : List (Ph × Nat)} {W W' : World} (h : EaSt w0 v5 v6 out W) (hb : Below W.heap.size W W') : EaSt w0 v5 v6 out W' :=
  ⟨own_stay h.o5 (Only.of_below hb _), own_stay h.o6 (Only.of_below hb _), h.below.trans (hb.mono h.below.size)⟩
/-- one phone more -/
theorem EaSt.app {w0 : World} {v5 v6 v5' v6' : Value} {out : List (Ph × Nat)} {W W1 W2 W3 : World} (h : EaSt w0 v5 v6 out W) (p : Ph) (n : Nat) (h1 : W1.ownsRow w0.heap.size 43 3 v5' (out.length + 1) (phs (fsts out) ++ phC p)) (g1 : W.grownBy W1 v5.ownBlock)
    (hb : Below W1.heap.size W1 W2) (h2 : W3.ownsRow w0.heap.size 3 1 v6' (out.length + 1) (snds out ++ [.int .i64 (n : Nat)])) (g2 : W2.grownBy W3 v6.ownBlock) : EaSt w0 v5' v6' (out ++ [(p, n)]) W3 := by
  have b1 : Only (fun k => v5.ownBlock = some k) W W1 := (Only.refl _ _).grown g1 (fun _ hg => .inl hg)
  have b2 : Only (fun k => v6.ownBlock = some k) W2 W3 := (Only.refl _ _).grown g2 (fun _ hg => .inl hg)
  have o6 : W1.ownsRow w0.heap.size 3 1 v6 out.length (snds out) := own_keep h.o6 (own_ne h.o6 h.o5 (by decide)) b1
  have o6' : W2.ownsRow w0.heap.size 3 1 v6 out.length (snds out) := own_stay o6 (Only.of_below hb _)
  have o5' := own_stay h1 (Only.of_below hb _)
  have o5'' := own_keep o5' (own_ne o5' o6' (by decide)) b2
  have l0 := h.below.size
  refine ⟨?_, ?_, ?_⟩
  · rw [List.length_append]
    simpa [phs, fsts] using o5''
  · rw [List.length_append]
    simpa [snds] using h2
  · refine h.below.trans ((b1.below l0 (fun k hk hh => ?_)).trans (((hb.mono (Nat.le_trans l0 b1.size))).trans (b2.below (Nat.le_trans l0 (Nat.le_trans b1.size hb.size)) (fun k hk hh => ?_))))
    · have := (h.o5.lt _ hh).1; omega
    · have := (o6'.lt _ hh).1; omega

set_option maxHeartbeats 4000000 in
set_option maxRecDepth 100000 in
theorem refEach_any (s : ByteArray) (w : World) (hz : s.size ≤ 1000000000) : Calls Try.prog 59 #[.string s] w fun e w' => ∃ v5 v6, e = .returned (.tuple #[v5, v6, .int .i64 ((evL s.data.toList).2 : Nat)]) ∧ EaSt w v5 v6 (evL s.data.toList).1 w' := by
  obtain ⟨i0, hi, hz0, hz1, hz2⟩ := info_parts info43
  obtain ⟨j0, hj, jz0, jz1, jz2⟩ := info_parts info3
  have HI := Lib.hid (And.intro hi (And.intro hz0 (And.intro hz1 hz2)))
  have HJ := Lib.hid (And.intro hj (And.intro jz0 (And.intro jz1 jz2)))
  clear hi hz0 hz1 hz2 hj jz0 jz1 jz2
  have HL := Lib.hid (show s.size = s.data.toList.length from rfl)
  have HM := Lib.hid (show s.size ≤ maxLen by unfold maxLen; omega)
  have hev : evL s.data.toList = evGo s.data.toList (s.data.toList.length + 1) 0 := rfl
  have HE := Lib.hid hev
  clear hev
  go_enter Try.func59, Try.ntmps59
  go_wp2
  go_loopw [5, 6, 7, 8, 9] (fun v5 v6 v7 _ _ wr => ∃ (out : List (Ph × Nat)) (pos f : Nat), v7 = .int .i64 pos ∧ pos ≤ s.size ∧ out.length ≤ pos ∧ Hid (EaSt w v5 v6 out wr ∧ evL s.data.toList = (out ++ (evGo s.data.toList f pos).1, (evGo s.data.toList f pos).2) ∧ s.size - pos < f)) (fun _ _ v7 _ _ _ => s.size - (intOf v7).toNat)
  case atStart => exact ⟨[], 0, s.data.toList.length + 1, rfl, by omega, by simp, Lib.hid ⟨⟨World.ownsRow_nil _ _ _ _, World.ownsRow_nil _ _ _ _, Below.refl _ _⟩, by rw [HE.out]; rfl, by have := HL.out; omega⟩⟩
  case round =>
    obtain ⟨out, pos, f, rfl, hpos, hol, HR⟩ := hrel
    by_cases hp : pos < s.size
    · go_wp2_with fail
      refine (refNext_any s pos wr HM.out hpos).mono ?_
      rintro e wa ⟨rfl, hb⟩
      have hle := next_fit (l := s.data.toList) (at_ := pos) (by have := HL.out; omega)
      rw [← HL.out] at hle
      have HA := Lib.hid (HR.out.1.on hb)
      clear hb
      generalize hN : nextL (s.data.toList.drop pos) = N at *
      obtain ⟨⟨pr, plg, pg⟩, nw⟩ := N
      dsimp only at hle ⊢
      have HN := Lib.hid hN
      clear hN
      go_upto_region 6 with (fail)
      refine wp_abs (fun wx => EaSt w u5 u6 out wx ∧ Blk wx wa.heap.size 43 #[.int .i32 pr, .bool plg, .int .i32 pg]) ⟨HA.out.on ((Below.refl _ _).alloc (Nat.le_refl _) _), Blk.new _ _ _⟩ ?_
      generalize wa.heap.size = xb at *
      rintro wx ⟨hS, hX⟩
      have b0 : wx.cell? ⟨xb, 0, none⟩ = some (.int .i32 pr) := hX.cell 0
      have b1 : wx.cell? ⟨xb, 1, none⟩ = some (.bool plg) := hX.cell 1
      have b2 : wx.cell? ⟨xb, 2, none⟩ = some (.int .i32 pg) := hX.cell 2
      have HX := Lib.hid (And.intro hS hX)
      clear hS hX HA
      by_cases hnw : nw = 0
      · have hnb : ((nw : Int) == 0) = true := by rw [hnw]; rfl
        have HV := Lib.hid (show evL s.data.toList = (out, pos) by rw [HR.out.2.1, evGo_end _ _ _ (.inr (by rw [HN.out]; exact hnw)), List.append_nil])
        clear hnw b0 b1 b2
        go_wp2
        refine bodyPost_ret (v := .tuple #[u5, u6, .int .i64 (pos : Int)]) (by simp [results, Try.results59, go_sem]) rfl ?_
        exact ⟨_, _, by rw [HV.out], by rw [HV.out]; exact HX.out.1⟩
      · have hnb : ((nw : Int) == 0) = false := by simp; omega
        obtain ⟨f', hf1, hf2⟩ := evGo_step (f := f) HN.out (by have := HL.out; omega) (by have := HL.out; have := HR.out.2.2; omega) hnw
        dsimp only at hf1 hf2
        have HF := Lib.hid (And.intro hf1 hf2)
        clear hf1 hf2
        obtain ⟨A5, c5, e5⟩ := own_slice HX.out.1.o5
        obtain ⟨A6, c6, e6⟩ := own_slice HX.out.1.o6
        subst e5 e6
        go_upto_region 9 with (at_builtin; go_must (refine wpList_append_rd _ rfl _ _ 22 rfl w.heap.size 43 i0 (.agg #[.int .i32 0, .bool false, .int .i32 0]) 3 12 Try.underlying22 HI.out.1 HI.out.2.1 HI.out.2.2.1 HI.out.2.2.2 rfl (by decide) _ _ _ rfl (HX.out.1.o5.alloc _) _ _ _ 1 1 _ rfl (rd_new _ _ _ _ rfl) (by simp [Value.oneCell']) (by unfold maxLen; omega) (by omega) (by have := HX.out.1.below.size; simp; omega) ?_; intro v4 w4 _ hown hgrow _; have H4 := Lib.hid (And.intro hown (And.intro hgrow (And.intro (HX.out.1.o6.alloc (.cells #[.int .i32 pr, .bool plg, .int .i32 pg] 43)) (HX.out.1.on ((Below.refl _ _).alloc (Nat.le_refl _) (.cells #[.int .i32 pr, .bool plg, .int .i32 pg] 43)))))); clear hown hgrow))
        have l4 := H4.out.2.1.size
        have l3 := HX.out.1.below.size
        have ho6 : w4.ownsRow w.heap.size 3 1 (.slice A6 out.length c6) out.length (snds out) := own_keep H4.out.2.2.1 (own_ne H4.out.2.2.1 (HX.out.1.o5.alloc _) (by decide)) ((Only.refl _ _).grown H4.out.2.1 (fun _ hg => .inl hg))
        have H6 := Lib.hid ho6
        clear ho6
        go_wp2_with (at_builtin; go_must (refine wpList_append_rd _ rfl _ _ 71 rfl w.heap.size 3 j0 (.int .i64 0) 1 8 Try.underlying71 HJ.out.1 HJ.out.2.1 HJ.out.2.2.1 HJ.out.2.2.2 rfl (by decide) _ _ _ rfl (H6.out.alloc _) _ _ _ 1 1 _ rfl (rd_new _ _ _ _ rfl) (by simp [Value.oneCell']) (by unfold maxLen; omega) (by omega) (by simp at l4; simp; omega) ?_; intro v6 w6 _ hown hgrow _; have H7 := Lib.hid (H4.out.2.2.2.app (pr, plg, pg) pos H4.out.1 H4.out.2.1 ((Below.refl _ _).alloc (Nat.le_refl _) _) hown hgrow); clear hown hgrow))
        go_roundw
        case rel => exact ⟨out ++ [((pr, plg, pg), pos)], pos + nw, f', by go_num, by omega, by simp; omega, Lib.hid ⟨H7.out, by rw [HR.out.2.1, HF.out.2]; simp, HF.out.1⟩⟩
        case measure => simp [intOf]; omega
    · have hpe : pos = s.size := by omega
      have HV := Lib.hid (show evL s.data.toList = (out, pos) by rw [HR.out.2.1, evGo_end _ _ _ (.inl (by have := HL.out; omega)), List.append_nil])
      go_wp2
      refine bodyPost_ret (v := .tuple #[u5, u6, .int .i64 (pos : Int)]) (by simp [results, Try.results59, go_sem]) rfl ?_
      exact ⟨_, _, by rw [HV.out], by rw [HV.out]; exact HR.out.1⟩

set_option maxHeartbeats 4000000 in
set_option maxRecDepth 100000 in
theorem refRead_any (s : ByteArray) (w : World) (hz : s.size ≤ 1000000000) : Calls Try.prog 58 #[.string s] w fun e w' => ∃ v, e = .returned (.tuple #[v, .agg #[.int .i64 (readL s.data.toList).2.1, .int .i64 (readL s.data.toList).2.2]]) ∧
    w'.ownsRow w.heap.size 43 3 v (readL s.data.toList).1.length (phs (readL s.data.toList).1) ∧ Below w.heap.size w w' := by
  have HL := Lib.hid (show s.size = s.data.toList.length from rfl)
  have HE := Lib.hid (read_ev s.data.toList)
  have hle := ev_end_le s.data.toList
  go_enter Try.func58, Try.ntmps58
  go_upto_region 1 with (fail)
  refine wp_abs (fun wx => Blk wx w.heap.size 68 #[.int .i64 0, .int .i64 0] ∧ Below w.heap.size w wx) ⟨Blk.new _ _ _, (Below.refl _ _).alloc (Nat.le_refl _) _⟩ ?_
  rintro w1 ⟨hB, hb⟩
  have H1 := Lib.hid (And.intro hB hb)
  clear hB hb
  go_wp2_with fail
  refine (refEach_any s w1 hz).mono ?_
  rintro e w2 ⟨v5, v6, rfl, hE⟩
  have H2 := Lib.hid (And.intro (H1.out.1.below hE.below H1.out.1.lt) (And.intro (H1.out.2.trans (hE.below.mono H1.out.2.size)) (And.intro hE H1.out.2.size)))
  obtain ⟨A5, c5, rfl⟩ := own_slice hE.o5
  obtain ⟨A6, c6, rfl⟩ := own_slice hE.o6
  have h6 := own_rd hE.o6
  have HH6 := Lib.hid h6
  clear hE h6
  generalize hev : evL s.data.toList = ev at *
  have e0 : w2.cell? ⟨w.heap.size, 0, none⟩ = some (.int .i64 0) := H2.out.1.cell 0
  have e1 : w2.cell? ⟨w.heap.size, 1, none⟩ = some (.int .i64 0) := H2.out.1.cell 1
  have f0 := H2.out.1.frozen
  have lz := H2.out.1.lt
  have lz1 := H1.out.1.lt
  clear H1
  by_cases hlong : 128 < ev.1.length
  · have hd : decide ((128 : Int) < (ev.1.length : Int)) = true := by simp; omega
    obtain ⟨b, o, eA, hL, hB, hc⟩ := HH6.out.2 (by omega)
    subst eA
    have hx : (snds ev.1)[128]? = some (.int .i64 ((ev.1[128].2 : Nat) : Int)) := by
      unfold snds
      rw [List.getElem?_map, List.getElem?_eq_getElem hlong]; rfl
    have c6' : w2.cell? ⟨b, o + 128, none⟩ = some (.int .i64 ((ev.1[128].2 : Nat) : Int)) := hc _ _ hx
    have HV := Lib.hid (show readL s.data.toList = (([], 3, ((ev.1[128].2 : Nat) : Int)) : List Ph × Int × Int) by
      rw [HE.out]; unfold rdAll
      rw [if_pos (by simpa using hlong)]
      simp [List.getElem?_eq_getElem hlong])
    generalize ev.1[128].2 = m at *
    clear hx hc hL hB
    have i2 : (128 : Int) < (ev.1.length : Int) := by omega
    go_upto_region 3 with (fail)
    go_region
    go_wp2
    have HF := ((H2.out.1.set_ 0 (.int .i64 3)).set_ 1 (.int .i64 m))
    have z0 := HF.cell 0
    have z1 := HF.cell 1
    simp at z0 z1
    refine bodyPost_ret (v := .tuple #[.slice none 0 0, .agg #[.int .i64 3, .int .i64 m]]) (by simp [results, Try.results58, go_sem, z0, z1]) rfl ?_
    refine ⟨.slice none 0 0, by rw [HV.out], ?_, (((bdrawn H2.out.2.1 _).setCell (by simp) _).setCell (by simp) _)⟩
    rw [HV.out]
    exact World.ownsRow_nil _ _ _ _
  · have hd : decide ((128 : Int) < (ev.1.length : Int)) = false := by simp; omega
    by_cases hend : ev.2 < s.size
    · have hd2 : decide ((ev.2 : Int) < (s.size : Int)) = true := by simp; omega
      have HV := Lib.hid (show readL s.data.toList = ([], 80, ((ev.2 : Nat) : Int)) by
        rw [HE.out]; unfold rdAll
        rw [if_neg (by simpa using hlong), if_pos (by rw [← HL.out]; exact hend)])
      go_wp2
      have HF := ((H2.out.1.set_ 0 (.int .i64 80)).set_ 1 (.int .i64 ev.2))
      have z0 := HF.cell 0
      have z1 := HF.cell 1
      simp at z0 z1
      refine bodyPost_ret (v := .tuple #[.slice none 0 0, .agg #[.int .i64 80, .int .i64 (ev.2 : Nat)]]) (by simp [results, Try.results58, go_sem, z0, z1]) rfl ?_
      refine ⟨.slice none 0 0, by rw [HV.out], ?_, (H2.out.2.1.setCell (by simp) _).setCell (by simp) _⟩
      rw [HV.out]
      exact World.ownsRow_nil _ _ _ _
    · have hd2 : decide ((ev.2 : Int) < (s.size : Int)) = false := by simp; omega
      have HV := Lib.hid (show readL s.data.toList = (fsts ev.1, 0, 0) by
        rw [HE.out]; unfold rdAll
        rw [if_neg (by simpa using hlong), if_neg (by rw [← HL.out]; exact hend), List.nil_append]; rfl)
      go_wp2
      have HF := ((H2.out.1.set_ 0 (.int .i64 0)).set_ 1 (.int .i64 0))
      have z0 := HF.cell 0
      have z1 := HF.cell 1
      simp at z0 z1
      refine bodyPost_ret (v := .tuple #[.slice A5 ev.1.length c5, .agg #[.int .i64 0, .int .i64 0]]) (by simp [results, Try.results58, go_sem, z0, z1]) rfl ?_
      refine ⟨_, by rw [HV.out], ?_, (H2.out.2.1.setCell (by simp) _).setCell (by simp) _⟩
      rw [HV.out, fsts_len]
      have ho := H2.out.2.2.1.o5
      have hs := H2.out.2.2.2
      exact own_more (own_setCell (own_setCell ho (by simpa using lz1) _) (by simpa using lz1) _) (by omega)
end Go.Proofs.Ytogofchpocoebaa
