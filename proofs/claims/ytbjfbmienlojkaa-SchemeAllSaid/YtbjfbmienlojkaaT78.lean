/- scheme.Unrank. -/
import Derived.Test.YtbjfbmienlojkaaT10
import Derived.Test.YtbjfbmienlojkaaT45
import Derived.Deep.DeepMust
namespace Go.Proofs.Ytbjfbmienlojkaa
open Go.RowKit

theorem wrap64_nat {d : Nat} (h : d ≤ 9223372036854775807) : wrap64 (d : Int) = d := by unfold wrap64; omega
theorem box_none {w : World} {g : Nat} {v1 v2 : Value} (h : Blk w g 26 #[v1, v2]) : w.cell? ⟨g, 0, none⟩ = some v1 ∧ w.cell? ⟨g, 1, none⟩ = some v2 ∧ w.frozen? ⟨g, 0, none⟩ = false ∧ w.frozen? ⟨g, 1, none⟩ = false :=
  ⟨h.cell 0, h.cell 1, h.frozen 0, h.frozen 1⟩

set_option maxHeartbeats 1000000 in
theorem unrank_bad (n k : Int) (w : World) (h : (n < 0 ∨ 25 < n) ∨ k < 0 ∨ countF n ≤ k) :
    Calls Try.prog 39 #[.int .i64 n, .int .i64 k] w fun e w' => e = .returned (.tuple #[.agg #[.slice none 0 0, .slice none 0 0], .int .i64 2]) ∧ Below w.heap.size w w' := by
  have hcase : (n < 0 ∨ 25 < n) ∨ (¬ (n < 0 ∨ 25 < n) ∧ k < 0) ∨ (¬ (n < 0 ∨ 25 < n) ∧ ¬ k < 0 ∧ countF n ≤ k) := by omega
  clear h
  rcases hcase with h | ⟨h, hk⟩ | ⟨h, hk, hc⟩
  all_goals
    have HH := Lib.hid h
    clear h
    go_enter Try.func39, Try.ntmps39
    go_upto_region 1 with (fail)
    refine wp_abs (fun wx => Blk wx w.heap.size 26 #[.slice none 0 0, .slice none 0 0] ∧ Below w.heap.size w wx) ⟨Blk.new _ _ _, (Below.refl _ _).alloc (Nat.le_refl _) _⟩ ?_
    rintro wx ⟨k0, hb⟩
    have HK := Lib.hid (And.intro k0 hb)
    clear k0 hb
    go_wp2_with fail
    refine (count_any n wx).mono ?_
    first | rw [if_pos HH.out] | rw [if_neg HH.out]
    rintro e w1 ⟨rfl, hb1⟩
    have HA := Lib.hid (show Blk w1 w.heap.size 26 #[.slice none 0 0, .slice none 0 0] ∧ Below w.heap.size w w1 from ⟨HK.out.1.below hb1 HK.out.1.lt, HK.out.2.trans (hb1.mono HK.out.2.size)⟩)
    clear hb1
    generalize countF n = cn at *
    obtain ⟨e0, e1, f0, f1⟩ := box_none HA.out.1
    go_wp2
    have HF := (HA.out.1.set_ 0 (.slice none 0 0)).set_ 1 (.slice none 0 0)
    have g0 := HF.cell 0
    have g1 := HF.cell 1
    simp at g0 g1
    exact bodyPost_ret (v := .tuple #[.agg #[.slice none 0 0, .slice none 0 0], .int .i64 2]) (by simp [results, Try.results39, go_sem, g0, g1]) rfl ⟨rfl, (HA.out.2.setCell (by simp) _).setCell (by simp) _⟩

/-- memory while Unrank runs -/
structure UnSt (w0 : World) (q : Nat) (cs : Array Value) (lv : Value) (out : List (Int × Int)) (w : World) : Prop where
  b4 : Blk w w0.heap.size 26 #[.slice none 0 0, .slice none 0 0]
  b8 : Blk w q 107 cs
  own : w.ownsRow (q + 1) 66 2 lv out.length (prs out)
  s1 : w0.heap.size + 1 ≤ q
  below : Below w0.heap.size w0 w
theorem UnSt.on {w0 : World} {q : Nat} {cs : Array Value} {lv : Value} {out : List (Int × Int)} {w w' : World} (h : UnSt w0 q cs lv out w) (hb : Below w.heap.size w w') : UnSt w0 q cs lv out w' :=
  ⟨h.b4.below hb h.b4.lt, h.b8.below hb h.b8.lt, own_stay h.own (Only.of_below hb _), h.s1, h.below.trans (hb.mono h.below.size)⟩
theorem UnSt.app {w0 : World} {q : Nat} {cs : Array Value} {lv lv' : Value} {out : List (Int × Int)} {w w' : World} (h : UnSt w0 q cs lv out w) (x : Int × Int) (ho : w'.ownsRow (q + 1) 66 2 lv' (out.length + 1) (prs out ++ [.int .i64 x.1, .int .i64 x.2])) (hg : w.grownBy w' lv.ownBlock) : UnSt w0 q cs lv' (out ++ [x]) w' := by
  have hO : Only (fun k => lv.ownBlock = some k) w w' := (Only.refl _ _).grown hg (fun _ hg => .inl hg)
  have hs := h.s1
  refine ⟨h.b4.only hO (fun hk => ?_), h.b8.only hO (fun hk => ?_), ?_, hs, h.below.trans (hO.below h.below.size (fun k hk hh => ?_))⟩
  · have := (h.own.lt _ hk).1; omega
  · have := (h.own.lt _ hk).1; omega
  · rw [prs_append, List.length_append]; exact ho
  · have := (h.own.lt _ hh).1; omega

theorem setRow_blk {w : World} {g : Nat} {t : TypeId} {cs cs' : Array Value} (h : Blk w g t cs) : Blk (w.setRow g cs') g t cs' := setRow_heap _ _ _ _ _ _ h
theorem tab_one {cs : Array Value} {F : Nat → Nat → Int} (h : TabOk cs F) : cs.all (·.oneCell') = true := by
  rw [Array.all_eq_true_iff_forall_mem]
  intro u hu
  obtain ⟨i, hi, rfl⟩ := Array.mem_iff_getElem.1 hu
  have hc := h.2 (i / 27) (i % 27) (by have := h.1; omega) (by omega)
  rw [show i / 27 * 27 + i % 27 = i by omega, Array.getElem?_eq_getElem hi] at hc
  injection hc with hc
  rw [hc]; rfl
theorem zero_size107 : Try.zeroCells107.size = 702 := by rw [zero107]; simp
theorem info66 : (Try.prog.info? 66).map (fun i => (i.zero, i.size, i.bytes)) = some (some (.agg #[.int .i64 0, .int .i64 0]), 2, 16) := by kernel_rfl
theorem info107 : (Try.prog.info? 107).map (·.size) = some 702 := by kernel_rfl

set_option maxHeartbeats 4000000 in
set_option maxRecDepth 100000 in
theorem unrank_ok (n k : Nat) (w : World) (hn : n ≤ 25) (hk : k < tN n 0) :
    Calls Try.prog 39 #[.int .i64 n, .int .i64 k] w fun e w' => ∃ A c B d, e = .returned (.tuple #[.agg #[.slice A n c, .slice B (plainS n).length d], .int .i64 0]) ∧
      w'.ownsRow w.heap.size 66 2 (.slice A n c) n (prs (unL n k n)) ∧ w'.ownsRow w.heap.size 3 1 (.slice B (plainS n).length d) (plainS n).length ((plainS n).map (Value.int .i64)) ∧ Below w.heap.size w w' := by
  have hcf : countF n = tN n 0 := by unfold countF; rw [if_neg (by omega)]; rfl
  have hng : ¬ ((n : Int) < 0 ∨ 25 < (n : Int)) := by omega
  have hb63 := tN_le n 0 (by omega)
  obtain ⟨i0, hi, hz0, hz1, hz2⟩ := info_parts info66
  have HI := Lib.hid (And.intro hi (And.intro hz0 (And.intro hz1 hz2)))
  clear hi hz0 hz1 hz2
  have HCF := Lib.hid (And.intro hcf hng)
  clear hcf hng
  go_enter Try.func39, Try.ntmps39
  go_upto_region 1 with (fail)
  refine wp_abs (fun wx => Blk wx w.heap.size 26 #[.slice none 0 0, .slice none 0 0] ∧ Below w.heap.size w wx) ⟨Blk.new _ _ _, (Below.refl _ _).alloc (Nat.le_refl _) _⟩ ?_
  rintro wx ⟨k0, hb⟩
  have HK := Lib.hid (And.intro k0 hb)
  clear k0 hb
  go_wp2_with fail
  refine (count_any n wx).mono ?_
  rw [if_neg HCF.out.2, HCF.out.1]
  rintro e w1 ⟨rfl, hb1⟩
  have HA := Lib.hid (show Blk w1 w.heap.size 26 #[.slice none 0 0, .slice none 0 0] ∧ Below w.heap.size w w1 from ⟨HK.out.1.below hb1 HK.out.1.lt, HK.out.2.trans (hb1.mono HK.out.2.size)⟩)
  clear hb1 HK
  generalize htt : tN n 0 = tt at *
  have hd1 : decide ((tt : Int) ≤ (k : Int)) = false := by simp; omega
  have hd2 : decide (tt ≤ k) = false := by simp; omega
  go_wp2_with fail
  refine (counts_any n w1 hn).mono ?_
  rintro e w2 ⟨cs, rfl, ht, hb⟩
  have HB := Lib.hid (show Blk w2 w.heap.size 26 #[.slice none 0 0, .slice none 0 0] ∧ Below w.heap.size w w2 from ⟨HA.out.1.below hb HA.out.1.lt, HA.out.2.trans (hb.mono HA.out.2.size)⟩)
  have HT := Lib.hid ht
  clear hb ht HA
  go_upto_region 5 with (refine wpList_store_row rfl 107 _ _ rfl w2.heap.size cs rfl rfl 107 Try.zeroCells107 (Blk.new _ _ _) (by rw [info107, HT.out.1]) (by rw [zero_size107, HT.out.1]) (tab_one HT.out) ?_)
  refine wp_abs (UnSt w w2.heap.size cs (.slice none 0 0) []) ⟨HB.out.1.alloc _ |>.below (below_setRow (Below.refl _ _) (Nat.le_refl _) _) HB.out.1.lt, setRow_blk (Blk.new _ _ _), World.ownsRow_nil _ _ _ _, HB.out.1.lt, below_setRow (HB.out.2.alloc HB.out.2.size _) HB.out.2.size _⟩ ?_
  intro w3 hS
  have HS := Lib.hid hS
  clear hS HB
  have hqs := HS.out.s1
  generalize w2.heap.size = q at *
  go_wp2
  go_loopw [1, 9, 10, 34] (fun kv cv lv iv wr => ∃ (i : Nat) (lx : Value), i ≤ n ∧ iv = .int .i64 i ∧ kv = .int .i64 (unS n k i).1 ∧ cv = .int .i64 (unS n k i).2 ∧ lx = lv ∧ Hid (UnSt w q cs lx (unL n k i) wr)) (fun _ _ _ iv _ => n - (intOf iv).toNat)
  case atStart => exact ⟨0, _, Nat.zero_le _, rfl, rfl, rfl, rfl, HS⟩
  case round =>
    obtain ⟨i, lv, hin, rfl, rfl, rfl, rfl, HR⟩ := hrel
    clear HS
    have hll := unL_len n k i
    by_cases hlt : i < n
    · have hbd := unS_bd n k i
      have hcl := unC_le n k i
      have hmul := unC_mul n k i
      have hs := unS_succ n k i
      have hls := unL_succ n k i
      have hcu : unC n k i = min ((unS n k i).1 / tN (n - 1 - i) (unS n k i).2) (unS n k i).2 := rfl
      have hpos := tN_pos (n - 1 - i) (unS n k i).2
      have htl := tN_le (n - 1 - i) (unS n k i).2 (by omega)
      have hcell : wr.cell? ⟨q, (n - 1 - i) * 27 + (unS n k i).2, none⟩ = some (.int .i64 (tN (n - 1 - i) (unS n k i).2)) := (HR.out.b8.cell _).trans ((HT.out.2 _ _ (by omega) (by omega)).trans (by dsimp only; rw [if_pos (by omega)]))
      generalize unC n k i = x at *
      generalize hcc : unS n k i = st at *
      obtain ⟨r, c⟩ := st
      dsimp only at *
      generalize htm : tN (n - 1 - i) c = t at *
      have hdv : ((r : Int) / (t : Int)) = ((r / t : Nat) : Int) := (Int.natCast_ediv r t).symm
      have hrt := Nat.div_le_self r t
      have hmin : min (wrap64 ((r : Int) / (t : Int))) (c : Int) = (x : Int) := by rw [hdv, wrap64_nat (Nat.le_trans hrt (by omega))]; omega
      have hxt : (x : Int) * (t : Int) = ((x * t : Nat) : Int) := (Int.natCast_mul x t).symm
      have e3 : IntKind.i64.wrap ((x : Int) * (t : Int)) = (x : Int) * (t : Int) := by rw [hxt]; exact IntWalk.i64_in _ (by omega)
      have e4 : IntKind.i64.wrap ((r : Int) - (x : Int) * (t : Int)) = ((r - x * t : Nat) : Int) := by rw [hxt, show (r : Int) - ((x * t : Nat) : Int) = ((r - x * t : Nat) : Int) by omega]; exact IntWalk.i64_in _ (by omega)
      have e8 : ((n : Int) - 1 - (i : Int)).toNat = n - 1 - i := by omega
      have i1 : (n : Int) - 1 - (i : Int) < 26 := by omega
      have i2 : (c : Int) < 27 := by omega
      generalize r - x * t = r' at *
      have HSU := Lib.hid (And.intro hs hls)
      have HLL := Lib.hid hll
      have hl25 : (unL n k i).length ≤ 25 := by omega
      have HQ := Lib.hid hmul
      clear hs hls hcu hcc htm hll hrt hdv hxt hmul htl
      go_upto_region 12 with (fail)
      refine wp_abs (fun wx => UnSt w q cs lv (unL n k i) wx ∧ Blk wx wr.heap.size 66 #[.int .i64 x, .int .i64 0]) ⟨HR.out.on ((Below.refl _ _).alloc (Nat.le_refl _) _), Blk.new _ _ _⟩ ?_
      rintro wx ⟨hS, hB⟩
      have hqx := hS.b8.lt
      have l0 : wx.cell? ⟨wr.heap.size, 0, none⟩ = some (.int .i64 x) := hB.cell 0
      have l1 : wx.cell? ⟨wr.heap.size, 1, none⟩ = some (.int .i64 0) := hB.cell 1
      have HX := Lib.hid (And.intro hS hB)
      clear hS hB HR hcell hmin e8 i1 i2
      by_cases hxc : x = c
      · subst hxc
        go_wp2_with (at_builtin; go_must (refine wpList_append_rd _ rfl _ _ 23 rfl (q + 1) 66 i0 (.agg #[.int .i64 0, .int .i64 0]) 2 16 Try.underlying23 HI.out.1 HI.out.2.1 HI.out.2.2.1 HI.out.2.2.2 rfl (by decide) _ _ _ rfl (HX.out.1.own.alloc _) _ _ _ 1 1 _ rfl (rd_newP _ _ _ _) (by simp [Value.oneCell']) (by unfold maxLen; omega) (by omega) (by simp; omega) ?_; intro v4 w4 _ hown hgrow _; obtain ⟨X4, C4, rfl⟩ := own_slice hown; have HN := Lib.hid ((HX.out.1.on ((Below.refl _ _).alloc (Nat.le_refl _) _)).app ((x : Int), 0) hown hgrow); clear hown hgrow))
        go_roundw
        case rel => exact ⟨i + 1, _, by omega, by go_num, by rw [HSU.out.1], by rw [HSU.out.1, if_pos rfl]; go_num, rfl, Lib.hid (by rw [HSU.out.2]; exact HN.out)⟩
        case measure => simp [intOf]; omega
      · have hxb : ((x : Int) == (c : Int)) = false := by simp; omega
        go_wp2_with (at_builtin; go_must (refine wpList_append_rd _ rfl _ _ 23 rfl (q + 1) 66 i0 (.agg #[.int .i64 0, .int .i64 0]) 2 16 Try.underlying23 HI.out.1 HI.out.2.1 HI.out.2.2.1 HI.out.2.2.2 rfl (by decide) _ _ _ rfl (HX.out.1.own.alloc _) _ _ _ 1 1 _ rfl (rd_newP _ _ _ _) (by simp [Value.oneCell']) (by unfold maxLen; omega) (by omega) (by simp; omega) ?_; intro v4 w4 _ hown hgrow _; obtain ⟨X4, C4, rfl⟩ := own_slice hown; have HN := Lib.hid ((HX.out.1.on ((Below.refl _ _).alloc (Nat.le_refl _) _)).app ((x : Int), 0) hown hgrow); clear hown hgrow))
        go_roundw
        case rel => exact ⟨i + 1, _, by omega, by go_num, by rw [HSU.out.1], by rw [HSU.out.1, if_neg hxc], rfl, Lib.hid (by rw [HSU.out.2]; exact HN.out)⟩
        case measure => simp [intOf]; omega
    · have hie : i = n := by omega
      subst hie
      have ho := HR.out.own
      rw [unL_len] at ho
      obtain ⟨A, C, rfl⟩ := own_slice ho
      have HO := Lib.hid ho
      clear ho hll
      go_wp2_with fail
      refine (plain_any A i C wr (by omega)).mono ?_
      rintro e w5 ⟨B, d, rfl, hos, hb⟩
      have HV := Lib.hid (And.intro (HR.out.b4.below hb HR.out.b4.lt) (And.intro (own_stay HO.out (Only.of_below hb _)) (And.intro hos (HR.out.below.trans (hb.mono HR.out.below.size)))))
      have hlt4 := HR.out.b4.lt
      clear hos hb HR HO
      obtain ⟨e0, e1, f0, f1⟩ := box_none HV.out.1
      go_wp2
      have HF := (HV.out.1.set_ 0 (.slice A i C)).set_ 1 (.slice B (plainS i).length d)
      have g0 := HF.cell 0
      have g1 := HF.cell 1
      simp at g0 g1
      refine bodyPost_ret (v := .tuple #[.agg #[.slice A i C, .slice B (plainS i).length d], .int .i64 0]) (by simp [results, Try.results39, go_sem, g0, g1]) rfl ?_
      exact ⟨A, C, B, d, rfl, own_more (own_setCell (own_setCell HV.out.2.1 (by simp; omega) _) (by simp; omega) _) (by omega), own_more (own_setCell (own_setCell HV.out.2.2.1 (by simp; omega) _) (by simp; omega) _) (by omega), (HV.out.2.2.2.setCell (by simp) _).setCell (by simp) _⟩
end Go.Proofs.Ytbjfbmienlojkaa
