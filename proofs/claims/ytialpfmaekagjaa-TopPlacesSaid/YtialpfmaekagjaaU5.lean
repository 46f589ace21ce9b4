/- TopPlaces for a text that is not too long. -/
import Derived.Test.YtialpfmaekagjaaU4
import Derived.Test.YtialpfmaekagjaaO2
import Derived.Test.YtialpfmaekagjaaA1
import Derived.Test.YtialpfmaekagjaaU1
import Derived.Test.YtialpfmaekagjaaT4
import Derived.Sort.QuietIn
namespace Go.Proofs.Ytialpfmaekagjaa
open Go.RowKit

/-- the cells of the piece at k -/
theorem row_at {w : World} {lo hi n : Nat} {A : Option Addr} {l : List P4} (h : Rd w lo hi 4 A n (ocCs l)) (hn : l.length = n) {k : Nat} {o : P4} (hk : l[k]? = some o) : ∃ b f, A = some ⟨b, f, none⟩ ∧ lo ≤ b ∧ b < hi ∧
    w.cell? ⟨b, f + k * 4, none⟩ = some (.int .i64 o.1) ∧ w.cell? ⟨b, f + k * 4 + 1, none⟩ = some (.int .i64 o.2.1) ∧ w.cell? ⟨b, f + k * 4 + 2, none⟩ = some (.int .i32 o.2.2.1) ∧ w.cell? ⟨b, f + k * 4 + 3, none⟩ = some (.bool o.2.2.2) := by
  obtain ⟨hlt, hk⟩ := List.getElem?_eq_some_iff.1 hk
  obtain ⟨b, f, hA, hlo, hb, hc⟩ := h.2 (by omega)
  have hat : ∀ j, j < 4 → ∀ u, (ocC l[k])[j]? = some u → w.cell? ⟨b, f + k * 4 + j, none⟩ = some u := fun j hj u hu => by
    have h := hc (k * 4 + j) u (by rw [ocCs_at l k hlt j hj]; exact hu)
    rw [← Nat.add_assoc] at h
    exact h
  rw [hk] at hat
  exact ⟨b, f, hA, hlo, hb, hat 0 (by omega) _ rfl, hat 1 (by omega) _ rfl, hat 2 (by omega) _ rfl, hat 3 (by omega) _ rfl⟩

/-- three numbers of a place written -/
theorem blk_three {w : World} {g : Nat} {p : Pl} (h : Blk w g 29 (plA p)) (x y z : Nat) : Blk (((w.setCell ⟨g, 0, none⟩ (.int .i64 x)).setCell ⟨g, 1, none⟩ (.int .i64 y)).setCell ⟨g, 2, none⟩ (.int .i64 z)) g 29 (plA ⟨x, y, z, p.l, p.c⟩) := by
  have := ((h.set_ 0 (.int .i64 x)).set_ 1 (.int .i64 y)).set_ 2 (.int .i64 z)
  simpa [plA] using this
theorem blk_four {w : World} {g : Nat} {p : Pl} (h : Blk w g 29 (plA p)) (z : Nat) : Blk (w.setCell ⟨g, 4, none⟩ (.int .i64 z)) g 29 (plA ⟨p.b, p.r, p.u, p.l, z⟩) := by
  have := h.set_ 4 (.int .i64 z)
  simpa [plA] using this
theorem blk_line {w : World} {g : Nat} {p : Pl} (h : Blk w g 29 (plA p)) (y z : Nat) : Blk ((w.setCell ⟨g, 3, none⟩ (.int .i64 y)).setCell ⟨g, 4, none⟩ (.int .i64 z)) g 29 (plA ⟨p.b, p.r, p.u, y, z⟩) := by
  have := (h.set_ 3 (.int .i64 y)).set_ 4 (.int .i64 z)
  simpa [plA] using this

set_option maxHeartbeats 8000000 in
set_option maxRecDepth 100000 in
theorem top_short (s : ByteArray) (hs : s.size ≤ 65536) (at_ : Int) (w : World) :
    Calls Try.prog 3 #[.string s, .int .i64 at_] w fun e w' => e = .returned (.bool true) ∧ Below w.heap.size w w' := by
  have hd0 : decide ((65536 : Int) < (s.size : Int)) = false := decide_eq_false (by omega)
  have HS := Lib.hid hs
  clear hs
  go_enter Try.func3, Try.ntmps3
  go_wp2_with fail
  refine (wakes_any _).mono ?_
  rintro e w1 ⟨rfl, hb⟩
  have HB1 := Lib.hid hb
  clear hb
  go_wp2_with fail
  refine (new_any s HS.out _).mono ?_
  rintro e w2 ⟨rfl, hb, X, C, Y, D, fl, hm1, hm2, hm3, hfl⟩
  have HM := Lib.hid (And.intro (show MpSt w2 w1.heap.size s X C Y D (plL s) fl from ⟨hm1, hm2, hm3⟩) hfl)
  have HB2 := Lib.hid (HB1.out.trans (hb.mono HB1.out.size))
  clear hb hm1 hm2 hm3 hfl HB1
  generalize w1.heap.size = M at *
  go_wp2_with fail
  refine (text_any w2 M s X Y C D (plL s) fl HM.out.1).mono ?_
  rintro e w2' ⟨rfl, ew⟩
  subst w2'
  go_upto_region 9 with (fail)
  obtain ⟨g, hg⟩ : ∃ g, w2.heap.size = g := ⟨_, rfl⟩
  refine wp_abs (fun wx => Blk wx w2.heap.size 29 (plA pl0) ∧ Below w2.heap.size w2 wx) ⟨Blk.new _ _ _, (Below.refl _ _).alloc (Nat.le_refl _) _⟩ ?_
  rintro w3 ⟨hv, hb⟩
  have HG := Lib.hid hg
  rw [hg] at hv ⊢
  have HB3 := Lib.hid (And.intro hv hb)
  clear hg hv hb
  go_wp2_with fail
  refine (own_any s HS.out _).mono ?_
  rintro e w4 ⟨A, CC, rfl, hrd, hb⟩
  have HB4 := Lib.hid (show Blk w4 g 29 (plA pl0) ∧ Below w2.heap.size w2 w4 from ⟨HB3.out.1.below hb HB3.out.1.lt, HB3.out.2.trans (hb.mono HB3.out.2.size)⟩)
  have HRD := Lib.hid (And.intro hrd (show g < w3.heap.size from HB3.out.1.lt))
  clear hb HB3 hrd hd0
  obtain ⟨n, hn⟩ : ∃ n, (owL s).length = n := ⟨_, rfl⟩
  have HN := Lib.hid (And.intro hn (show n ≤ 65536 by have := pl_many s; have := HS.out; omega))
  rw [hn]
  clear hn
  go_upto_region 11 with (fail)
  have HT : Hid (∀ wr, Only (fun b => b = g) w4 wr → Below w2.heap.size w2 wr) := Lib.hid fun wr ho => HB4.out.2.trans (ho.below HB4.out.2.size (fun k hk e => by have := HG.out; omega))
  go_loopw [9, 10] (fun v9 _ wr => ∃ i : Nat, v9 = .int .i64 i ∧ i ≤ n + 1 ∧ Hid (∃ p, (plL s)[i - 1]? = some p ∧ Blk wr g 29 (plA p) ∧ Only (fun b => b = g) w4 wr)) (fun v9 _ _ => n + 1 - (intOf v9).toNat)
  case atStart => exact ⟨0, rfl, by omega, Lib.hid ⟨pl0, pl_first s, HB4.out.1, Only.refl _ _⟩⟩
  case round =>
    obtain ⟨i, rfl, hi, HR⟩ := hrel
    by_cases hin : i ≤ n
    · go_upto_if 45 with (fail)
      go_cut [10] from 38 to 138 (fun _ wx => ∃ p', Hid ((plL s)[i]? = some p' ∧ Blk wx g 29 (plA p') ∧ Only (fun b => b = g) w4 wx))
      case first =>
        rcases i with _ | j
        · go_wp2_with fail
          go_meet
          obtain ⟨p, hp⟩ := HR.out
          exact ⟨p, Lib.hid hp⟩
        · obtain ⟨p, hp, hbl, hon⟩ := HR.out
          replace hp : (plL s)[j]? = some p := hp
          have hjn : j < (owL s).length := by rw [HN.out.1]; omega
          obtain ⟨o, ho⟩ := ow_some s hjn
          obtain ⟨hlt, ho2, hnx⟩ := pl_next s hp ho
          subst ho2
          have hfit := decode_fit s p.b hlt
          have hpb := pl_bound s j (by omega) p hp
          have hbk := brk_told s p.b hlt _ rfl
          have hdw := dec_pos s p.b hlt
          obtain ⟨b, f, hA, hlo, hbh, q0, q1, q2, q3⟩ := row_at HRD.out.1 (by simp) (k := j) (o := brkP (p.b, (Utf8.decode s p.b).2, (Utf8.decode s p.b).1, false)) (by rw [List.getElem?_map, ho]; rfl)
          subst hA
          have hbg : ¬ b = g := by have := HRD.out.2; omega
          replace q0 := (hon.cell (o := f + j * 4) hbh hbg).trans q0
          replace q1 := (hon.cell (o := f + j * 4 + 1) hbh hbg).trans q1
          replace q2 := (hon.cell (o := f + j * 4 + 2) hbh hbg).trans q2
          replace q3 := (hon.cell (o := f + j * 4 + 3) hbh hbg).trans q3
          have hbw : b < wr.heap.size := Nat.lt_of_lt_of_le hbh hon.size
          simp only [brkP] at q0 q1 q2 q3
          obtain ⟨bo, hbo⟩ : ∃ bo, (decide ((Utf8.decode s p.b).1 = 65533) && decide ((Utf8.decode s p.b).2 = 1)) = bo := ⟨_, rfl⟩
          rw [hbo] at q3
          clear hbo ho hlo
          generalize (Utf8.decode s p.b).1 = rr at *
          generalize (Utf8.decode s p.b).2 = dw at *
          obtain ⟨du, hdu⟩ : ∃ d, (if 65536 ≤ rr then 2 else 1) = d := ⟨_, rfl⟩
          have HU : Hid (∀ W, Calls Try.prog 8 #[.agg #[.int .i64 p.b, .int .i64 dw, .int .i32 rr, .bool bo]] W fun e w' => e = .returned (.int .i64 du) ∧ Below W.heap.size W w') := Lib.hid fun W => by
            have := topUnits_any p.b dw rr bo W
            rw [hdu] at this
            exact this
          have hdu2 : du ≤ 2 := by rw [← hdu]; split <;> omega
          have HNX : Hid (∀ bk, brkF s p.b rr = bk → (plL s)[j + 1]? = some ⟨p.b + dw, p.r + 1, p.u + du, if bk then p.l + 1 else p.l, if bk then 0 else p.c + 1⟩) := Lib.hid fun bk hb2 => by
            rw [hnx]
            unfold nextP
            rw [hb2, hdu]
          have HBK := Lib.hid hbk
          have HBN := Lib.hid (show p.b + dw ≤ 65536 ∧ p.b + dw ≤ s.size ∧ p.r ≤ 65536 ∧ p.u ≤ 131072 ∧ du ≤ 2 ∧ p.l ≤ 65536 ∧ p.c ≤ 65536 ∧ j ≤ 65536 ∧ j < n ∧ n ≤ 65536 ∧ 0 < p.b + dw by have := HS.out; have := hdw; have := HN.out.2; have := HN.out.1; omega)
          have HO := Lib.hid hon
          have HBL := Lib.hid hbl
          have HNE := Lib.hid (And.intro hbg hbw)
          clear hdw hnx hdu hdu2 hbk hpb hfit hlt hp hjn hon hbl hbh hin HR hi
          go_upto_region 14 with (fail)
          go_cut [10] from 38 to 138 (fun _ wx => Hid (Blk wx g 29 (plA ⟨p.b + dw, p.r + 1, p.u + du, p.l, p.c⟩) ∧ Only (fun b => b = g) w4 wx))
          case first =>
            obtain ⟨hn1, hn0, hn2, hn3, hn4, hn5, hn6, hn7, hn8, hn9, hn10⟩ := HBN.out
            have c0 : wr.cell? ⟨g, 0, none⟩ = some (.int .i64 p.b) := HBL.out.cell 0
            have c1 : wr.cell? ⟨g, 1, none⟩ = some (.int .i64 p.r) := HBL.out.cell 1
            have c2 : wr.cell? ⟨g, 2, none⟩ = some (.int .i64 p.u) := HBL.out.cell 2
            have hji : (j : Int) < (n : Int) := by omega
            have hj0 : (0 : Int) ≤ (j : Int) := by omega
            have hw1 : IntKind.i64.wrap ((p.b : Int) + (dw : Int)) = (p.b : Int) + (dw : Int) := IntWalk.i64_in _ (by omega)
            have hw2 : IntKind.i64.wrap ((p.r : Int) + 1) = (p.r : Int) + 1 := IntWalk.i64_in _ (by omega)
            have hw3 : IntKind.i64.wrap ((p.u : Int) + (du : Int)) = (p.u : Int) + (du : Int) := IntWalk.i64_in _ (by omega)
            have hw4 : IntKind.i64.wrap (j : Int) = (j : Int) := IntWalk.i64_in _ (by omega)
            have hq0 := Bel.cell q0
            have hq1 := Bel.cell q1
            have hq2 := Bel.cell q2
            have hq3 := Bel.cell q3
            have hc0 := Bel.cell c0
            have hc1 := Bel.cell c1
            have hc2 := Bel.cell c2
            clear q0 q1 q2 q3 c0 c1 c2
            refine wp_bel_stores 11 20 22 6 (by kernel_rfl) (by kernel_rfl) ?_
            simp only [List.take_succ_cons, List.take_zero, List.drop_succ_cons, List.drop_zero]
            repeat (go_big_quiet_step (fail))
            refine wpQuiet_nil ?_
            go_big_quiet_step (fail)
            refine wpQuiet_nil ?_
            repeat (go_big_quiet_step (fail))
            go_big_quiet_want
            go_big_quiet_op
            refine ⟨.int .i64 du, fun x => ?_, ?_⟩
            · exact (HU.out x.1).mono (fun e w' h => ⟨h.1, x.next h.2⟩)
            go_big_quiet_on
            refine wpQuiet_nil ?_
            go_big_quiet_step (fail)
            refine wpQuiet_nil ?_
            go_big_quiet_step (fail)
            refine wpQuiet_nil ?_
            rintro _ ⟨xW, rfl⟩
            have HBZ : Hid (Blk xW.1 g 29 (plA p)) := Lib.hid (HBL.out.below xW.2 HBL.out.lt)
            have HZ : Hid (Only (fun b => b = g) wr xW.1) := Lib.hid (Only.of_below xW.2 _)
            clear hq0 hq1 hq2 hq3 hc0 hc1 hc2
            obtain ⟨wt, hwt⟩ : ∃ wt, xW.1 = wt := ⟨_, rfl⟩
            rw [hwt] at HBZ HZ ⊢
            clear hwt
            have c0 : wt.cell? ⟨g, 0, none⟩ = some (.int .i64 p.b) := HBZ.out.cell 0
            have c1 : wt.cell? ⟨g, 1, none⟩ = some (.int .i64 p.r) := HBZ.out.cell 1
            have c2 : wt.cell? ⟨g, 2, none⟩ = some (.int .i64 p.u) := HBZ.out.cell 2
            have f0 : wt.frozen? ⟨g, 0, none⟩ = false := HBZ.out.frozen 0
            have f1 : wt.frozen? ⟨g, 1, none⟩ = false := HBZ.out.frozen 1
            have f2 : wt.frozen? ⟨g, 2, none⟩ = false := HBZ.out.frozen 2
            go_wp2_with fail
            refine noP_normal ?_
            go_wp2_with fail
            go_meet
            exact Lib.hid ⟨blk_three HBZ.out (p.b + dw) (p.r + 1) (p.u + du), HO.out.trans (((HZ.out.setCell (.inl rfl) _).setCell (.inl rfl) _).setCell (.inl rfl) _)⟩
          case rest =>
            have HC := hcut
            clear hcut HU HBL HNE HO
            obtain ⟨N, hN⟩ : ∃ N, p.b + dw = N := ⟨_, rfl⟩
            rw [hN] at HC HNX HBK HBN
            clear hN
            obtain ⟨hn1, hn0, hn2, hn3, hn4, hn5, hn6, hn7, hn8, hn9, hn10⟩ := HBN.out
            have c4 : wc.cell? ⟨g, 4, none⟩ = some (.int .i64 p.c) := HC.out.1.cell 4
            have f4 : wc.frozen? ⟨g, 4, none⟩ = false := HC.out.1.frozen 4
            go_upto_region 16 with (fail)
            refine wp_abs (fun wx => Blk wx g 29 (plA ⟨N, p.r + 1, p.u + du, p.l, p.c + 1⟩) ∧ Only (fun b => b = g) w4 wx) ⟨blk_four HC.out.1 (p.c + 1), HC.out.2.setCell (.inl rfl) _⟩ ?_
            clear c4 f4 HC
            rintro w5 ⟨h5, ho5⟩
            have c0 : w5.cell? ⟨g, 0, none⟩ = some (.int .i64 N) := h5.cell 0
            have c3 : w5.cell? ⟨g, 3, none⟩ = some (.int .i64 p.l) := h5.cell 3
            have f3 : w5.frozen? ⟨g, 3, none⟩ = false := h5.frozen 3
            have c4 : w5.cell? ⟨g, 4, none⟩ = some (.int .i64 (p.c + 1 : Nat)) := h5.cell 4
            have f4 : w5.frozen? ⟨g, 4, none⟩ = false := h5.frozen 4
            have H5 := Lib.hid (And.intro h5 ho5)
            clear h5 ho5
            have hix : ∀ W, (Instr.index 9 (.string s) (.int .i64 ((N : Int) - 1))).run Try.prog W = .ok (.int .u8 ((s.get! (N - 1)).toNat : Nat)) W := fun W => idx_at s (N - 1) _ (by omega) (by omega) W
            have hix2 : Hid (N < s.size → ∀ W, (Instr.index 9 (.string s) (.int .i64 (N : Int))).run Try.prog W = .ok (.int .u8 ((s.get! N).toNat : Nat)) W) := Lib.hid fun h W => idx_at s N _ rfl h W
            have hgv : Hid (N < s.size → ∀ h : N < s.size, (s[N]'h).toNat = (s.get! N).toNat) := Lib.hid fun _ h => get_eq s _ h
            have hgu : ∀ h : N - 1 < s.size, (s[N - 1]'h).toNat = (s.get! (N - 1)).toNat := fun h => get_eq s _ h
            generalize (s.get! (N - 1)).toNat = v at *
            generalize (s.get! N).toNat = x at *
            have hways : v = 10 ∨ (v = 13 ∧ N = s.size) ∨ (v = 13 ∧ N < s.size ∧ x ≠ 10) ∨ (v = 13 ∧ N < s.size ∧ x = 10) ∨ (v ≠ 10 ∧ v ≠ 13) := by omega
            rcases hways with rfl | ⟨rfl, hv1⟩ | ⟨rfl, hv1, hv2⟩ | ⟨rfl, hv1, rfl⟩ | ⟨hv1, hv2⟩
            · clear hix2 hgv
              go_wp2_with fail
              go_meet
              exact ⟨_, Lib.hid ⟨HNX.out true (HBK.out.trans (by simp)), blk_line H5.out.1 (p.l + 1) 0, (H5.out.2.setCell (.inl rfl) _).setCell (.inl rfl) _⟩⟩
            · have hd1 : ((N : Int) == (s.size : Int)) = true := by simp; omega
              have hd2 : decide ((N : Int) = (s.size : Int)) = true := by simp; omega
              have hd3 : (N == s.size) = true := by simp; omega
              have HV := Lib.hid hv1
              clear hix2 hgv hv1
              go_wp2_with fail
              go_meet
              exact ⟨_, Lib.hid ⟨HNX.out true (HBK.out.trans (by have := HV.out; simp; omega)), blk_line H5.out.1 (p.l + 1) 0, (H5.out.2.setCell (.inl rfl) _).setCell (.inl rfl) _⟩⟩
            · have hd1 : ((N : Int) == (s.size : Int)) = false := by simp; omega
              have hd2 : decide ((N : Int) = (s.size : Int)) = false := by simp; omega
              have hd3 : (N == s.size) = false := by simp; omega
              have hd4 : ((x : Int) == 10) = false := by simp; omega
              have hd5 : ((x : Int) != 10) = true := by simp; omega
              have hj2 := hix2.out hv1
              have hj3 := hgv.out hv1
              have HV := Lib.hid (And.intro hv1 hv2)
              clear hix2 hgv
              go_wp2_with fail
              go_meet
              exact ⟨_, Lib.hid ⟨HNX.out true (HBK.out.trans (by have := HV.out; simp; omega)), blk_line H5.out.1 (p.l + 1) 0, (H5.out.2.setCell (.inl rfl) _).setCell (.inl rfl) _⟩⟩
            · have hd1 : ((N : Int) == (s.size : Int)) = false := by simp; omega
              have hd2 : decide ((N : Int) = (s.size : Int)) = false := by simp; omega
              have hd3 : (N == s.size) = false := by simp; omega
              have hj2 := hix2.out hv1
              have hj3 := hgv.out hv1
              have HV := Lib.hid hv1
              clear hix2 hgv
              go_wp2_with fail
              go_meet
              exact ⟨_, Lib.hid ⟨HNX.out false (HBK.out.trans (by have := HV.out; simp; omega)), H5.out⟩⟩
            · have hd1 : ((v : Int) == 10) = false := by simp; omega
              have hd2 : ((v : Int) == 13) = false := by simp; omega
              have hd3 : (v == 10) = false := by simp; omega
              have hd4 : (v == 13) = false := by simp; omega
              clear hix2 hgv
              go_wp2_with fail
              go_meet
              exact ⟨_, Lib.hid ⟨HNX.out false (HBK.out.trans (by simp; omega)), H5.out⟩⟩
      case rest =>
        obtain ⟨p, HC⟩ := hcut
        clear HR
        have HP := Lib.hid HC.out.1
        have HI := Lib.hid (show i + 1 ≤ n + 1 ∧ n ≤ 65536 ∧ i ≤ 65536 ∧ i ≤ n by have := HN.out.2; omega)
        have hi6 : i ≤ 65536 := HI.out.2.2.1
        have HMC := Lib.hid (HM.out.1.on (HT.out wc HC.out.2.2))
        have HPL : Hid (∀ W, Below wc.heap.size wc W → Calls Try.prog 9 #[.pointer (some ⟨M, 0, none⟩), .agg #[.int .i64 p.b, .int .i64 p.r, .int .i64 p.u, .int .i64 p.l, .int .i64 p.c]] W fun e w' => e = .returned (.bool true) ∧ Below W.heap.size W w') := Lib.hid fun W hW =>
          placed_any W M s X Y C D fl (HMC.out.on hW) HM.out.2 HS.out i p HP.out
        have hc0 := Bel.cell (show wc.cell? ⟨g, 0, none⟩ = some (.int .i64 p.b) from HC.out.2.1.cell 0)
        have hc1 := Bel.cell (show wc.cell? ⟨g, 1, none⟩ = some (.int .i64 p.r) from HC.out.2.1.cell 1)
        have hc2 := Bel.cell (show wc.cell? ⟨g, 2, none⟩ = some (.int .i64 p.u) from HC.out.2.1.cell 2)
        have hc3 := Bel.cell (show wc.cell? ⟨g, 3, none⟩ = some (.int .i64 p.l) from HC.out.2.1.cell 3)
        have hc4 := Bel.cell (show wc.cell? ⟨g, 4, none⟩ = some (.int .i64 p.c) from HC.out.2.1.cell 4)
        go_upto_region 19 with (fail)
        by_cases hlt : i < n
        · obtain ⟨o, ho⟩ := ow_some s (show i < (owL s).length by rw [HN.out.1]; exact hlt)
          obtain ⟨hpl, ho2, hnx⟩ := pl_next s HP.out ho
          subst ho2
          obtain ⟨b, f, hA, hlo, hbh, q0, q1, q2, q3⟩ := row_at HRD.out.1 (by simp) (k := i) (o := brkP (p.b, (Utf8.decode s p.b).2, (Utf8.decode s p.b).1, false)) (by rw [List.getElem?_map, ho]; rfl)
          subst hA
          have hbg : ¬ b = g := by have := HRD.out.2; omega
          replace q1 := (HC.out.2.2.cell (o := f + i * 4 + 1) hbh hbg).trans q1
          simp only [brkP] at q1
          have hq1 := Bel.cell q1
          have hfit := decode_fit s p.b hpl
          have HNX : Hid (∀ j q, i < j → (plL s)[j]? = some q → p.b + (Utf8.decode s p.b).2 ≤ q.b) := Lib.hid fun j q hj hq => (pl_le s (show i + 1 ≤ j by omega) hnx hq).1
          clear q0 q1 q2 q3 ho hlo hbh hnx hpl
          generalize (Utf8.decode s p.b).2 = dw at *
          have HF := Lib.hid (show p.b + dw ≤ s.size ∧ p.b + dw ≤ 65536 by have := HS.out; omega)
          have hf1 : p.b + dw ≤ 65536 := HF.out.2
          have hd1 : decide ((i : Int) < (n : Int)) = true := decide_eq_true (by omega)
          have hj0 : (i : Int) < (n : Int) := by omega
          have hd1n : decide (i < n) = true := decide_eq_true hlt
          have hw1 : IntKind.i64.wrap ((p.b : Int) + (dw : Int)) = (p.b : Int) + (dw : Int) := IntWalk.i64_in _ (by omega)
          clear hfit
          rcases Int.lt_or_le at_ p.b with hz1 | hz1
          · have hd2 : decide ((p.b : Int) ≤ at_) = false := decide_eq_false (by omega)
            have HZ1 := Lib.hid hz1
            clear hz1
            refine wp_belP (by kernel_rfl) (by kernel_rfl) ?_
            repeat (go_big_quiet_step (fail))
            go_big_quiet_want
            go_big_quiet_op
            refine ⟨.bool true, fun x => ?_, ?_⟩
            · exact (HPL.out x.1 x.2).mono (fun e w' h => ⟨h.1, x.next h.2⟩)
            go_big_quiet_on
            repeat (go_big_quiet_step (fail))
            clear hd2 hq1
            refine wpQuiet_nil ?_
            rintro _ ⟨xW, rfl⟩
            have HE : Hid (Blk xW.1 g 29 (plA p) ∧ Only (fun b => b = g) w4 xW.1) := Lib.hid ⟨HC.out.2.1.below xW.2 HC.out.2.1.lt, HC.out.2.2.trans (Only.of_below xW.2 _)⟩
            obtain ⟨wt, hwt⟩ : ∃ wt, xW.1 = wt := ⟨_, rfl⟩
            rw [hwt] at HE ⊢
            clear hwt hc0 hc1 hc2 hc3 hc4 HC
            go_wp2
            go_roundw
            case rel => exact ⟨i + 1, by go_num, HI.out.1, Lib.hid ⟨p, HP.out, HE.out⟩⟩
            case measure => have := HI.out; simp [intOf]; omega
          rcases Int.lt_or_le at_ (p.b + dw) with hz2 | hz2
          · obtain ⟨m, rfl⟩ : ∃ m : Nat, at_ = m := ⟨at_.toNat, by omega⟩
            have HIN : Hid (∀ W, Below wc.heap.size wc W → Calls Try.prog 10 #[.pointer (some ⟨M, 0, none⟩), .agg #[.int .i64 p.b, .int .i64 p.r, .int .i64 p.u, .int .i64 p.l, .int .i64 p.c], .int .i64 m] W fun e w' => e = .returned (.bool true) ∧ Below W.heap.size W w') := Lib.hid fun W hW =>
              inside_any W M s X Y C D fl (HMC.out.on hW) HS.out i p HP.out m (by have := HF.out.1; omega) (by omega) (fun j q hj hq => by have := HNX.out j q hj hq; omega)
            have hd2 : decide ((p.b : Int) ≤ (m : Int)) = true := decide_eq_true (by omega)
            have hd2n : decide (p.b ≤ m) = true := decide_eq_true (by omega)
            have hd3 : decide ((m : Int) < (p.b : Int) + (dw : Int)) = true := decide_eq_true (by omega)
            have hd3n : decide (m < p.b + dw) = true := decide_eq_true (by omega)
            have HZ1 := Lib.hid (And.intro hz1 hz2)
            clear hz1 hz2
            refine wp_belP (by kernel_rfl) (by kernel_rfl) ?_
            repeat (go_big_quiet_step (fail))
            go_big_quiet_want
            go_big_quiet_op
            refine ⟨.bool true, fun x => ?_, ?_⟩
            · exact (HPL.out x.1 x.2).mono (fun e w' h => ⟨h.1, x.next h.2⟩)
            go_big_quiet_on
            repeat (go_big_quiet_step (fail))
            go_big_quiet_want
            go_big_quiet_op
            refine ⟨.bool true, fun x => ?_, ?_⟩
            · exact (HIN.out x.1 x.2).mono (fun e w' h => ⟨h.1, x.next h.2⟩)
            go_big_quiet_on
            repeat (go_big_quiet_step (fail))
            clear hd2 hd2n hd3 hd3n hq1
            refine wpQuiet_nil ?_
            rintro _ ⟨xW, rfl⟩
            have HE : Hid (Blk xW.1 g 29 (plA p) ∧ Only (fun b => b = g) w4 xW.1) := Lib.hid ⟨HC.out.2.1.below xW.2 HC.out.2.1.lt, HC.out.2.2.trans (Only.of_below xW.2 _)⟩
            obtain ⟨wt, hwt⟩ : ∃ wt, xW.1 = wt := ⟨_, rfl⟩
            rw [hwt] at HE ⊢
            clear hwt hc0 hc1 hc2 hc3 hc4 HC
            go_wp2
            go_roundw
            case rel => exact ⟨i + 1, by go_num, HI.out.1, Lib.hid ⟨p, HP.out, HE.out⟩⟩
            case measure => have := HI.out; simp [intOf]; omega
          · have hd2 : decide ((p.b : Int) ≤ at_) = true := decide_eq_true (by omega)
            have hd3 : decide (at_ < (p.b : Int) + (dw : Int)) = false := decide_eq_false (by omega)
            have HZ1 := Lib.hid (And.intro hz1 hz2)
            clear hz1 hz2
            refine wp_belP (by kernel_rfl) (by kernel_rfl) ?_
            repeat (go_big_quiet_step (fail))
            go_big_quiet_want
            go_big_quiet_op
            refine ⟨.bool true, fun x => ?_, ?_⟩
            · exact (HPL.out x.1 x.2).mono (fun e w' h => ⟨h.1, x.next h.2⟩)
            go_big_quiet_on
            repeat (go_big_quiet_step (fail))
            clear hd2 hd3 hq1
            refine wpQuiet_nil ?_
            rintro _ ⟨xW, rfl⟩
            have HE : Hid (Blk xW.1 g 29 (plA p) ∧ Only (fun b => b = g) w4 xW.1) := Lib.hid ⟨HC.out.2.1.below xW.2 HC.out.2.1.lt, HC.out.2.2.trans (Only.of_below xW.2 _)⟩
            obtain ⟨wt, hwt⟩ : ∃ wt, xW.1 = wt := ⟨_, rfl⟩
            rw [hwt] at HE ⊢
            clear hwt hc0 hc1 hc2 hc3 hc4 HC
            go_wp2
            go_roundw
            case rel => exact ⟨i + 1, by go_num, HI.out.1, Lib.hid ⟨p, HP.out, HE.out⟩⟩
            case measure => have := HI.out; simp [intOf]; omega
        · have hd1 : decide ((i : Int) < (n : Int)) = false := decide_eq_false (by omega)
          have hd1n : decide (i < n) = false := decide_eq_false hlt
          refine wp_belP (by kernel_rfl) (by kernel_rfl) ?_
          repeat (go_big_quiet_step (fail))
          go_big_quiet_want
          go_big_quiet_op
          refine ⟨.bool true, fun x => ?_, ?_⟩
          · exact (HPL.out x.1 x.2).mono (fun e w' h => ⟨h.1, x.next h.2⟩)
          go_big_quiet_on
          repeat (go_big_quiet_step (fail))
          refine wpQuiet_nil ?_
          rintro _ ⟨xW, rfl⟩
          have HE : Hid (Blk xW.1 g 29 (plA p) ∧ Only (fun b => b = g) w4 xW.1) := Lib.hid ⟨HC.out.2.1.below xW.2 HC.out.2.1.lt, HC.out.2.2.trans (Only.of_below xW.2 _)⟩
          obtain ⟨wt, hwt⟩ : ∃ wt, xW.1 = wt := ⟨_, rfl⟩
          rw [hwt] at HE ⊢
          clear hwt hc0 hc1 hc2 hc3 hc4 HC
          go_wp2
          go_roundw
          case rel => exact ⟨i + 1, by go_num, HI.out.1, Lib.hid ⟨p, HP.out, HE.out⟩⟩
          case measure => have := HI.out; simp [intOf]; omega
    · obtain rfl : i = n + 1 := by omega
      obtain ⟨p, hp, hbl, hon⟩ := HR.out
      replace hp : (plL s)[n]? = some p := hp
      have hz : (plL s)[(owL s).length]? = some p := by rw [HN.out.1]; exact hp
      have HMC := Lib.hid (HM.out.1.on (HT.out wr hon))
      obtain ⟨qs, hq1, hq2⟩ := pl_end s hz
      have H12 : Hid (∀ W, Below wr.heap.size wr W → Calls Try.prog 12 #[.pointer (some ⟨M, 0, none⟩)] W fun e w' => e = .returned (.agg #[.int .i64 p.b, .int .i64 p.r, .int .i64 p.u, .int .i64 p.l, .int .i64 p.c]) ∧ Below W.heap.size W w') := Lib.hid fun W hW =>
        end_any W M s X Y C D (plL s) fl (HMC.out.on hW) qs p hq1 (by have := pl_many s; have := HS.out; omega)
      have hfl : (fl.length : Int) = (p.l : Int) + 1 := by
        have h1 := fs_len s hz
        have h2 := congrArg List.length HM.out.2
        rw [List.length_map] at h2
        omega
      have H13 : Hid (∀ W, Below wr.heap.size wr W → Calls Try.prog 13 #[.pointer (some ⟨M, 0, none⟩)] W fun e w' => e = .returned (.int .i64 ((p.l : Int) + 1)) ∧ w' = W) := Lib.hid fun W hW => by
        have := lines_any W M s X Y C D (plL s) fl (HMC.out.on hW)
        rw [hfl] at this
        exact this
      have hpl := (pl_bound s _ (Nat.le_refl _) p hz).2.2.2.2.1
      have hpl6 : p.l ≤ 65536 := by have := HN.out; omega
      have hn6 : n ≤ 65536 := HN.out.2
      have HBE := Lib.hid (show Below w.heap.size w wr from HB2.out.trans ((HT.out wr hon).mono HB2.out.size))
      have HG2 := Lib.hid (show g < wr.heap.size from hbl.lt)
      have c0 : wr.cell? ⟨g, 0, none⟩ = some (.int .i64 p.b) := hbl.cell 0
      have c1 : wr.cell? ⟨g, 1, none⟩ = some (.int .i64 p.r) := hbl.cell 1
      have c2 : wr.cell? ⟨g, 2, none⟩ = some (.int .i64 p.u) := hbl.cell 2
      have c3 : wr.cell? ⟨g, 3, none⟩ = some (.int .i64 p.l) := hbl.cell 3
      have c4 : wr.cell? ⟨g, 4, none⟩ = some (.int .i64 p.c) := hbl.cell 4
      have hways : at_ < 0 ∨ (s.size : Int) < at_ ∨ ∃ m : Nat, at_ = m ∧ m ≤ s.size := by
        rcases Int.lt_or_le at_ 0 with h | h
        · exact .inl h
        · rcases Int.lt_or_le (s.size : Int) at_ with h2 | h2
          · exact .inr (.inl h2)
          · exact .inr (.inr ⟨at_.toNat, by omega, by omega⟩)
      clear hin hp hz hbl hon hq1 hq2 hfl hpl HR hi
      rcases hways with hw | hw | ⟨m, rfl, hw⟩
      · obtain ⟨q, hq⟩ : ∃ q, q = pl0 := ⟨_, rfl⟩
        have HW := Lib.hid hw
        have hg1 : decide (0 ≤ at_) = false := decide_eq_false (by omega)
        clear hw
        have H11 : Hid (∀ W, Below wr.heap.size wr W → Calls Try.prog 11 #[.pointer (some ⟨M, 0, none⟩), .int .i64 at_] W fun e w' => e = .returned (.tuple #[.agg #[.int .i64 q.b, .int .i64 q.r, .int .i64 q.u, .int .i64 q.l, .int .i64 q.c], .int .i64 0, .int .i64 5]) ∧ Below W.heap.size W w') := Lib.hid fun W hW => by rw [hq]; exact byte_low W M s X Y C D (plL s) fl (HMC.out.on hW) at_ HW.out
        go_wp2_with fail
        refine (H11.out wr (Below.refl _ _)).mono ?_
        rintro e w6 ⟨rfl, hb⟩
        have HB6 := Lib.hid hb
        clear hb H11
        go_upto_region 22 with (fail)
        have hc0 := Bel.cell ((HB6.out.cell (p := ⟨g, 0, none⟩) HG2.out).trans c0)
        have hc1 := Bel.cell ((HB6.out.cell (p := ⟨g, 1, none⟩) HG2.out).trans c1)
        have hc2 := Bel.cell ((HB6.out.cell (p := ⟨g, 2, none⟩) HG2.out).trans c2)
        have hc3 := Bel.cell ((HB6.out.cell (p := ⟨g, 3, none⟩) HG2.out).trans c3)
        have hc4 := Bel.cell ((HB6.out.cell (p := ⟨g, 4, none⟩) HG2.out).trans c4)
        clear c0 c1 c2 c3 c4
        refine wp_belP (by kernel_rfl) (by kernel_rfl) ?_
        repeat (go_big_quiet_step (fail))
        go_big_quiet_want
        go_big_quiet_op
        refine ⟨.agg #[.int .i64 p.b, .int .i64 p.r, .int .i64 p.u, .int .i64 p.l, .int .i64 p.c], fun x => ?_, ?_⟩
        · exact (H12.out x.1 (HB6.out.trans (x.2.mono HB6.out.size))).mono (fun e w' h => ⟨h.1, x.next h.2⟩)
        go_big_quiet_on
        repeat (go_big_quiet_step (fail))
        go_big_quiet_want
        go_big_quiet_op
        refine ⟨.int .i64 ((p.l : Int) + 1), fun x => ?_, ?_⟩
        · exact (H13.out x.1 (HB6.out.trans (x.2.mono HB6.out.size))).mono (fun e w' h => ⟨h.1, x, h.2⟩)
        go_big_quiet_on
        repeat (go_big_quiet_step (fail))
        refine wpQuiet_nil ?_
        rintro _ ⟨xW, rfl⟩
        have HEND : Hid (Below w.heap.size w xW.1) := Lib.hid (HBE.out.trans (((HB6.out.trans (xW.2.mono HB6.out.size))).mono HBE.out.size))
        clear hc0 hc1 hc2 hc3 hc4 hg1
        go_wp2
        go_ret
        exact ⟨rfl, HEND.out⟩
      · obtain ⟨q, hq⟩ : ∃ q, q = pl0 := ⟨_, rfl⟩
        have HW := Lib.hid hw
        have hg1 : decide (0 ≤ at_) = true := decide_eq_true (by omega)
        have hg2 : decide (at_ ≤ (s.size : Int)) = false := decide_eq_false (by omega)
        clear hw
        have H11 : Hid (∀ W, Below wr.heap.size wr W → Calls Try.prog 11 #[.pointer (some ⟨M, 0, none⟩), .int .i64 at_] W fun e w' => e = .returned (.tuple #[.agg #[.int .i64 q.b, .int .i64 q.r, .int .i64 q.u, .int .i64 q.l, .int .i64 q.c], .int .i64 0, .int .i64 5]) ∧ Below W.heap.size W w') := Lib.hid fun W hW => by rw [hq]; exact byte_high W M s X Y C D (plL s) fl (HMC.out.on hW) at_ HW.out
        go_wp2_with fail
        refine (H11.out wr (Below.refl _ _)).mono ?_
        rintro e w6 ⟨rfl, hb⟩
        have HB6 := Lib.hid hb
        clear hb H11
        go_upto_region 22 with (fail)
        have hc0 := Bel.cell ((HB6.out.cell (p := ⟨g, 0, none⟩) HG2.out).trans c0)
        have hc1 := Bel.cell ((HB6.out.cell (p := ⟨g, 1, none⟩) HG2.out).trans c1)
        have hc2 := Bel.cell ((HB6.out.cell (p := ⟨g, 2, none⟩) HG2.out).trans c2)
        have hc3 := Bel.cell ((HB6.out.cell (p := ⟨g, 3, none⟩) HG2.out).trans c3)
        have hc4 := Bel.cell ((HB6.out.cell (p := ⟨g, 4, none⟩) HG2.out).trans c4)
        clear c0 c1 c2 c3 c4
        refine wp_belP (by kernel_rfl) (by kernel_rfl) ?_
        repeat (go_big_quiet_step (fail))
        go_big_quiet_want
        go_big_quiet_op
        refine ⟨.agg #[.int .i64 p.b, .int .i64 p.r, .int .i64 p.u, .int .i64 p.l, .int .i64 p.c], fun x => ?_, ?_⟩
        · exact (H12.out x.1 (HB6.out.trans (x.2.mono HB6.out.size))).mono (fun e w' h => ⟨h.1, x.next h.2⟩)
        go_big_quiet_on
        repeat (go_big_quiet_step (fail))
        go_big_quiet_want
        go_big_quiet_op
        refine ⟨.int .i64 ((p.l : Int) + 1), fun x => ?_, ?_⟩
        · exact (H13.out x.1 (HB6.out.trans (x.2.mono HB6.out.size))).mono (fun e w' h => ⟨h.1, x, h.2⟩)
        go_big_quiet_on
        repeat (go_big_quiet_step (fail))
        refine wpQuiet_nil ?_
        rintro _ ⟨xW, rfl⟩
        have HEND : Hid (Below w.heap.size w xW.1) := Lib.hid (HBE.out.trans (((HB6.out.trans (xW.2.mono HB6.out.size))).mono HBE.out.size))
        clear hc0 hc1 hc2 hc3 hc4 hg1 hg2
        go_wp2
        go_ret
        exact ⟨rfl, HEND.out⟩
      · obtain ⟨K, q, hq1, hq2, hq3⟩ := pl_find s m hw
        have HW := Lib.hid (And.intro hw (And.intro hq1 (And.intro hq2 hq3)))
        have hg1 : decide ((0 : Int) ≤ (m : Int)) = true := decide_eq_true (by omega)
        have hg2 : decide ((m : Int) ≤ (s.size : Int)) = true := decide_eq_true (by omega)
        have hg3 : decide (m ≤ s.size) = true := decide_eq_true (by omega)
        clear hw hq1 hq2 hq3
        have H11 : Hid (∀ W, Below wr.heap.size wr W → Calls Try.prog 11 #[.pointer (some ⟨M, 0, none⟩), .int .i64 m] W fun e w' => e = .returned (.tuple #[.agg #[.int .i64 q.b, .int .i64 q.r, .int .i64 q.u, .int .i64 q.l, .int .i64 q.c], .int .i64 ((m : Int) - (q.b : Int)), .int .i64 0]) ∧ Below W.heap.size W w') := Lib.hid fun W hW => byte_any W M s X Y C D fl (HMC.out.on hW) HS.out m HW.out.1 K q HW.out.2.1 HW.out.2.2.1 HW.out.2.2.2
        go_wp2_with fail
        refine (H11.out wr (Below.refl _ _)).mono ?_
        rintro e w6 ⟨rfl, hb⟩
        have HB6 := Lib.hid hb
        clear hb H11
        go_upto_region 22 with (fail)
        have hc0 := Bel.cell ((HB6.out.cell (p := ⟨g, 0, none⟩) HG2.out).trans c0)
        have hc1 := Bel.cell ((HB6.out.cell (p := ⟨g, 1, none⟩) HG2.out).trans c1)
        have hc2 := Bel.cell ((HB6.out.cell (p := ⟨g, 2, none⟩) HG2.out).trans c2)
        have hc3 := Bel.cell ((HB6.out.cell (p := ⟨g, 3, none⟩) HG2.out).trans c3)
        have hc4 := Bel.cell ((HB6.out.cell (p := ⟨g, 4, none⟩) HG2.out).trans c4)
        clear c0 c1 c2 c3 c4
        refine wp_belP (by kernel_rfl) (by kernel_rfl) ?_
        repeat (go_big_quiet_step (fail))
        go_big_quiet_want
        go_big_quiet_op
        refine ⟨.agg #[.int .i64 p.b, .int .i64 p.r, .int .i64 p.u, .int .i64 p.l, .int .i64 p.c], fun x => ?_, ?_⟩
        · exact (H12.out x.1 (HB6.out.trans (x.2.mono HB6.out.size))).mono (fun e w' h => ⟨h.1, x.next h.2⟩)
        go_big_quiet_on
        repeat (go_big_quiet_step (fail))
        go_big_quiet_want
        go_big_quiet_op
        refine ⟨.int .i64 ((p.l : Int) + 1), fun x => ?_, ?_⟩
        · exact (H13.out x.1 (HB6.out.trans (x.2.mono HB6.out.size))).mono (fun e w' h => ⟨h.1, x, h.2⟩)
        go_big_quiet_on
        repeat (go_big_quiet_step (fail))
        refine wpQuiet_nil ?_
        rintro _ ⟨xW, rfl⟩
        have HEND : Hid (Below w.heap.size w xW.1) := Lib.hid (HBE.out.trans (((HB6.out.trans (xW.2.mono HB6.out.size))).mono HBE.out.size))
        clear hc0 hc1 hc2 hc3 hc4 hg1 hg2 hg3
        go_wp2
        go_ret
        exact ⟨rfl, HEND.out⟩

end Go.Proofs.Ytialpfmaekagjaa
