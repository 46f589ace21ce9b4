/- syllable.Stress. -/
import Derived.Test.YtogofchpocoebaaW4
import Derived.Test.YtogofchpocoebaaU2
namespace Go.Proofs.Ytogofchpocoebaa
open Go.RowKit Go.Maps

/-- memory while Stress runs -/
structure SrSt (w0 : World) (v : Value) (out : List Sy) (W : World) : Prop where
  own : W.ownsRow w0.heap.size 37 5 v out.length (sys out)
  below : Below w0.heap.size w0 W
section
variable {w0 : World} {v v' : Value} {out : List Sy} {W W' : World}
theorem SrSt.on (h : SrSt w0 v out W) (hb : Below W.heap.size W W') : SrSt w0 v out W' := ⟨own_stay h.own (Only.of_below hb _), h.below.trans (hb.mono h.below.size)⟩
theorem SrSt.app (h : SrSt w0 v out W) (x : Sy) (ho : W'.ownsRow w0.heap.size 37 5 v' (out.length + 1) (sys out ++ syC x)) (hg : W.grownBy W' v.ownBlock) : SrSt w0 v' (out ++ [x]) W' := by
  have hO : Only (fun k => v.ownBlock = some k) W W' := (Only.refl _ _).grown hg (fun _ hg => .inl hg)
  refine ⟨?_, h.below.trans (hO.below h.below.size fun k hk hs => by have := (h.own.lt _ hs).1; omega)⟩
  rw [sys_append, List.length_append]
  simpa [sys] using ho
end

set_option maxHeartbeats 8000000 in
set_option maxRecDepth 100000 in
theorem stress_any (A : Option Addr) (n c L B : Nat) (ss : List Sy) (rule : Int) (w : World) (h : Rd w L B 5 A n (sys ss)) (hB : B ≤ w.heap.size) :
    Calls Try.prog 98 #[.slice A n c, .int .i64 rule] w fun e w' => ∃ v, e = .returned (.tuple #[v, .int .i64 (stE ss rule)]) ∧ w'.ownsRow w.heap.size 37 5 v (stL ss rule).length (sys (stL ss rule)) ∧ Below w.heap.size w w' := by
  have hl := h.len_sy
  obtain ⟨k0, hk0, kz0, kz1, kz2⟩ := info_parts info37
  have HK := Lib.hid (And.intro hk0 (And.intro kz0 (And.intro kz1 kz2)))
  have HE := Lib.hid (show stE ss rule = if rule < 1 ∨ 4 < rule ∨ ss.length = 0 then 2 else if 64 < ss.length then 3 else 0 from rfl)
  have HSL := Lib.hid (show stL ss rule = if stE ss rule = 0 then stK ss (stAt ss rule) ss.length else [] from rfl)
  have HAT := Lib.hid (show stAt ss rule = if ss.length = 1 ∨ rule = 1 then 0 else if rule = 2 then ss.length - 1 else if rule = 3 ∨ ss.length = 2 ∨ (ss.getD (ss.length - 2) sy0).hv = true then ss.length - 2 else ss.length - 3 from rfl)
  have bad : ∀ e : Int, e ≠ 0 → stE ss rule = e → stL ss rule = [] := fun e h0 he => by rw [HSL.out, if_neg (by rw [he]; exact h0)]
  have HBAD := Lib.hid bad
  have H := Lib.hid h
  have hst := stAt_lt (l := ss) (rule := rule)
  have HLT := Lib.hid hst
  clear h hk0 kz0 kz1 kz2 bad hst
  by_cases q1 : rule < 1
  · have he : stE ss rule = 2 := by rw [HE.out, if_pos (.inl q1)]
    rw [HBAD.out 2 (by decide) he, he]
    clear he
    have d1 : decide (rule < 1) = true := decide_eq_true q1
    go_enter Try.func98, Try.ntmps98
    go_wp2
    go_ret2
    exact ⟨_, rfl, World.ownsRow_nil _ _ _ _, Below.refl _ _⟩
  have d1 : decide (rule < 1) = false := decide_eq_false q1
  by_cases q2 : 4 < rule
  · have he : stE ss rule = 2 := by rw [HE.out, if_pos (.inr (.inl q2))]
    rw [HBAD.out 2 (by decide) he, he]
    clear he
    have d2 : decide (4 < rule) = true := decide_eq_true q2
    go_enter Try.func98, Try.ntmps98
    go_wp2
    go_ret2
    exact ⟨_, rfl, World.ownsRow_nil _ _ _ _, Below.refl _ _⟩
  have d2 : decide (4 < rule) = false := decide_eq_false q2
  by_cases q3 : n = 0
  · have he : stE ss rule = 2 := by rw [HE.out, if_pos (.inr (.inr (by omega)))]
    rw [HBAD.out 2 (by decide) he, he]
    clear he
    have d3 : ((n : Int) == 0) = true := by rw [q3]; rfl
    go_enter Try.func98, Try.ntmps98
    go_wp2
    go_ret2
    exact ⟨_, rfl, World.ownsRow_nil _ _ _ _, Below.refl _ _⟩
  have d3 : ((n : Int) == 0) = false := beq_eq_false_iff_ne.2 (by omega)
  by_cases q4 : 64 < n
  · have he : stE ss rule = 3 := by rw [HE.out, if_neg (by omega), if_pos (by omega)]
    rw [HBAD.out 3 (by decide) he, he]
    clear he
    have d4 : decide ((64 : Int) < (n : Int)) = true := decide_eq_true (by omega)
    go_enter Try.func98, Try.ntmps98
    go_wp2
    go_ret2
    exact ⟨_, rfl, World.ownsRow_nil _ _ _ _, Below.refl _ _⟩
  have d4 : decide ((64 : Int) < (n : Int)) = false := decide_eq_false (by omega)
  have HE0 := Lib.hid (show stE ss rule = 0 by rw [HE.out, if_neg (by omega), if_neg (by omega)])
  have HSS := Lib.hid (show stL ss rule = stK ss (stAt ss rule) n by rw [HSL.out, if_pos HE0.out, hl])
  clear HE HSL HBAD
  have hn1 : 1 ≤ n := by omega
  have w1 : IntKind.i64.wrap ((n : Int) - 1) = (n : Int) - 1 := IntWalk.i64_in _ (by omega)
  have w2 : IntKind.i64.wrap ((n : Int) - 2) = (n : Int) - 2 := IntWalk.i64_in _ (by omega)
  have w3 : IntKind.i64.wrap ((n : Int) - 2 - 1) = (n : Int) - 3 := (IntWalk.i64_in _ (by omega)).trans (by omega)
  obtain ⟨at_, hat⟩ : ∃ a, a = stAt ss rule := ⟨_, rfl⟩
  rw [← hat] at HSS HAT HLT
  have HATT := Lib.hid hat
  have hn64 : n ≤ 64 := by omega
  clear hat q4
  have hatn : at_ < n := by have := HLT.out (by omega); omega
  by_cases r1 : rule = 1
  · obtain rfl := r1
    have HEA := Lib.hid (show (at_ : Int) = 0 by have : at_ = 0 := by rw [HAT.out, if_pos (.inr rfl)]
                                                 omega)
    clear HAT
    go_enter Try.func98, Try.ntmps98
    go_wp2
    go_loopw [8, 9, 10, 54] (fun v8 _ _ v54 wr => ∃ k : Nat, k ≤ n ∧ v54 = .int .i64 k ∧ Hid (SrSt w v8 (stK ss at_ k) wr)) (fun _ _ _ v54 _ => n - (intOf v54).toNat)
    case atStart => exact ⟨0, by omega, rfl, Lib.hid ⟨World.ownsRow_nil _ _ _ _, Below.refl _ _⟩⟩
    case round =>
      obtain ⟨k, hk, rfl, HR⟩ := hrel
      by_cases hlt : k < n
      · obtain ⟨b1, o1, hl0, eA1, _, hB2, x0, x1, x2, x3, x4⟩ := (H.out.below HR.out.below hB).sy (k := k) hlt
        cases eA1
        have hsn := stK_snoc ss at_ k
        rw [List.getD_eq_getElem?_getD, List.getElem?_eq_getElem hl0] at hsn
        have hsn : stK ss at_ (k + 1) = stK ss at_ k ++ [setSt ss[k] (if k = at_ then 2 else 0)] := hsn
        generalize ss[k] = s at *
        have HSN := Lib.hid hsn
        have HLN := Lib.hid (stK_len ss at_ k)
        clear hsn
        have i1 : (0 : Int) ≤ (k : Int) := by omega
        have i2 : (k : Int) < (n : Int) := by omega
        have hO : Hid (SrSt w u8 (stK ss at_ k) wr) := HR
        have hsz := HR.out.own.lt
        have HFA := Lib.hid (show u8.ownBlock ≠ some wr.heap.size from fun e => by have := (hsz _ e).2; omega)
        clear hsz
        have hlo := HR.out.below.size
        by_cases hka : k = at_
        · have dk : ((k : Int) == (0 : Int)) = true := by have := HEA.out; rw [beq_iff_eq]; omega
          have HSN2 := Lib.hid (show stK ss at_ (k + 1) = stK ss at_ k ++ [(s.fr, s.nu, s.to_, 2, s.hv)] by rw [HSN.out, if_pos hka]; rfl)
          clear HSN hka
          generalize hst_ : stK ss at_ k = out at *
          have HST := Lib.hid hst_
          clear hst_
          go_upto_region 24 with (fail)
          refine wp_abs (fun wx => SrSt w u8 out wx ∧ Blk wx wr.heap.size 37 #[.int .i64 s.fr, .int .i64 s.nu, .int .i64 s.to_, .int .i64 2, .bool s.hv]) ⟨HR.out.on ((Below.refl _ _).alloc (Nat.le_refl _) _), Blk.new _ _ _⟩ ?_
          clear x0 x1 x2 x3 x4 hO HR
          generalize wr.heap.size = xb at *
          rintro wx hX
          have HX := Lib.hid hX
          clear hX
          have x0 : wx.cell? ⟨xb, 0, none⟩ = some (.int .i64 s.fr) := HX.out.2.cell 0
          have x1 : wx.cell? ⟨xb, 1, none⟩ = some (.int .i64 s.nu) := HX.out.2.cell 1
          have x2 : wx.cell? ⟨xb, 2, none⟩ = some (.int .i64 s.to_) := HX.out.2.cell 2
          have x3 : wx.cell? ⟨xb, 3, none⟩ = some (.int .i64 2) := HX.out.2.cell 3
          have x4 : wx.cell? ⟨xb, 4, none⟩ = some (.bool s.hv) := HX.out.2.cell 4
          obtain ⟨A8, c8, e8⟩ := own_slice HX.out.1.own
          subst e8
          have hol : out.length = k := HLN.out
          rw [hol] at HX
          rw [hol]
          go_wp2_with (at_builtin; go_must (refine wpList_append_rd _ rfl _ _ 23 rfl w.heap.size 37 k0 (.agg #[.int .i64 0, .int .i64 0, .int .i64 0, .int .i64 0, .bool false]) 5 40 Try.underlying23 HK.out.1 HK.out.2.1 HK.out.2.2.1 HK.out.2.2.2 rfl (by decide) _ _ _ rfl (HX.out.1.own.alloc _) _ _ _ 1 1 _ rfl (rd_new_eq rfl rfl) (by simp [Value.oneCell']) (by unfold maxLen; omega) (by omega) (by have := HX.out.1.below.size; simp; omega) ?_; intro v4 w4 _ hown hgrow _; have HE := Lib.hid ((HX.out.1.on ((Below.refl _ _).alloc (Nat.le_refl _) _)).app (s.fr, s.nu, s.to_, 2, s.hv) hown hgrow); clear hown hgrow))
          go_roundw
          case rel => exact ⟨k + 1, by omega, by go_num, Lib.hid (by rw [HSN2.out]; exact HE.out)⟩
          case measure => simp [intOf]; omega
        · have dk : ((k : Int) == (0 : Int)) = false := beq_eq_false_iff_ne.2 (by have := HEA.out; omega)
          have HSN2 := Lib.hid (show stK ss at_ (k + 1) = stK ss at_ k ++ [(s.fr, s.nu, s.to_, 0, s.hv)] by rw [HSN.out, if_neg hka]; rfl)
          clear HSN hka
          generalize hst_ : stK ss at_ k = out at *
          have HST := Lib.hid hst_
          clear hst_
          go_upto_region 24 with (fail)
          refine wp_abs (fun wx => SrSt w u8 out wx ∧ Blk wx wr.heap.size 37 #[.int .i64 s.fr, .int .i64 s.nu, .int .i64 s.to_, .int .i64 0, .bool s.hv]) ⟨HR.out.on ((Below.refl _ _).alloc (Nat.le_refl _) _), Blk.new _ _ _⟩ ?_
          clear x0 x1 x2 x3 x4 hO HR
          generalize wr.heap.size = xb at *
          rintro wx hX
          have HX := Lib.hid hX
          clear hX
          have x0 : wx.cell? ⟨xb, 0, none⟩ = some (.int .i64 s.fr) := HX.out.2.cell 0
          have x1 : wx.cell? ⟨xb, 1, none⟩ = some (.int .i64 s.nu) := HX.out.2.cell 1
          have x2 : wx.cell? ⟨xb, 2, none⟩ = some (.int .i64 s.to_) := HX.out.2.cell 2
          have x3 : wx.cell? ⟨xb, 3, none⟩ = some (.int .i64 0) := HX.out.2.cell 3
          have x4 : wx.cell? ⟨xb, 4, none⟩ = some (.bool s.hv) := HX.out.2.cell 4
          obtain ⟨A8, c8, e8⟩ := own_slice HX.out.1.own
          subst e8
          have hol : out.length = k := HLN.out
          rw [hol] at HX
          rw [hol]
          go_wp2_with (at_builtin; go_must (refine wpList_append_rd _ rfl _ _ 23 rfl w.heap.size 37 k0 (.agg #[.int .i64 0, .int .i64 0, .int .i64 0, .int .i64 0, .bool false]) 5 40 Try.underlying23 HK.out.1 HK.out.2.1 HK.out.2.2.1 HK.out.2.2.2 rfl (by decide) _ _ _ rfl (HX.out.1.own.alloc _) _ _ _ 1 1 _ rfl (rd_new_eq rfl rfl) (by simp [Value.oneCell']) (by unfold maxLen; omega) (by omega) (by have := HX.out.1.below.size; simp; omega) ?_; intro v4 w4 _ hown hgrow _; have HE := Lib.hid ((HX.out.1.on ((Below.refl _ _).alloc (Nat.le_refl _) _)).app (s.fr, s.nu, s.to_, 0, s.hv) hown hgrow); clear hown hgrow))
          go_roundw
          case rel => exact ⟨k + 1, by omega, by go_num, Lib.hid (by rw [HSN2.out]; exact HE.out)⟩
          case measure => simp [intOf]; omega
      · obtain rfl : k = n := by omega
        obtain ⟨A8, c8, e8⟩ := own_slice HR.out.own
        subst e8
        have di : ¬ ((k : Int) < (k : Int)) := by omega
        go_wp2
        go_ret2
        exact ⟨.slice A8 (stK ss at_ k).length c8, by rw [HE0.out]; rfl, by rw [HSS.out]; exact HR.out.own, HR.out.below⟩
  by_cases r2 : rule = 2
  · obtain rfl := r2
    have HEA := Lib.hid (show (at_ : Int) = (n : Int) - 1 by
      by_cases e : n = 1
      · have : at_ = 0 := by rw [HAT.out, if_pos (.inl (by omega))]
        omega
      · have : at_ = ss.length - 1 := by rw [HAT.out, if_neg (by omega), if_pos rfl]
        omega)
    have dmx : max ((n : Int) - 1) 0 = (n : Int) - 1 := by omega
    clear HAT
    go_enter Try.func98, Try.ntmps98
    go_wp2
    go_loopw [8, 9, 10, 54] (fun v8 _ _ v54 wr => ∃ k : Nat, k ≤ n ∧ v54 = .int .i64 k ∧ Hid (SrSt w v8 (stK ss at_ k) wr)) (fun _ _ _ v54 _ => n - (intOf v54).toNat)
    case atStart => exact ⟨0, by omega, rfl, Lib.hid ⟨World.ownsRow_nil _ _ _ _, Below.refl _ _⟩⟩
    case round =>
      obtain ⟨k, hk, rfl, HR⟩ := hrel
      by_cases hlt : k < n
      · obtain ⟨b1, o1, hl0, eA1, _, hB2, x0, x1, x2, x3, x4⟩ := (H.out.below HR.out.below hB).sy (k := k) hlt
        cases eA1
        have hsn := stK_snoc ss at_ k
        rw [List.getD_eq_getElem?_getD, List.getElem?_eq_getElem hl0] at hsn
        have hsn : stK ss at_ (k + 1) = stK ss at_ k ++ [setSt ss[k] (if k = at_ then 2 else 0)] := hsn
        generalize ss[k] = s at *
        have HSN := Lib.hid hsn
        have HLN := Lib.hid (stK_len ss at_ k)
        clear hsn
        have i1 : (0 : Int) ≤ (k : Int) := by omega
        have i2 : (k : Int) < (n : Int) := by omega
        have hO : Hid (SrSt w u8 (stK ss at_ k) wr) := HR
        have hsz := HR.out.own.lt
        have HFA := Lib.hid (show u8.ownBlock ≠ some wr.heap.size from fun e => by have := (hsz _ e).2; omega)
        clear hsz
        have hlo := HR.out.below.size
        by_cases hka : k = at_
        · have dk : ((k : Int) == ((n : Int) - 1)) = true := by have := HEA.out; rw [beq_iff_eq]; omega
          have HSN2 := Lib.hid (show stK ss at_ (k + 1) = stK ss at_ k ++ [(s.fr, s.nu, s.to_, 2, s.hv)] by rw [HSN.out, if_pos hka]; rfl)
          clear HSN hka
          generalize hst_ : stK ss at_ k = out at *
          have HST := Lib.hid hst_
          clear hst_
          go_upto_region 24 with (fail)
          refine wp_abs (fun wx => SrSt w u8 out wx ∧ Blk wx wr.heap.size 37 #[.int .i64 s.fr, .int .i64 s.nu, .int .i64 s.to_, .int .i64 2, .bool s.hv]) ⟨HR.out.on ((Below.refl _ _).alloc (Nat.le_refl _) _), Blk.new _ _ _⟩ ?_
          clear x0 x1 x2 x3 x4 hO HR
          generalize wr.heap.size = xb at *
          rintro wx hX
          have HX := Lib.hid hX
          clear hX
          have x0 : wx.cell? ⟨xb, 0, none⟩ = some (.int .i64 s.fr) := HX.out.2.cell 0
          have x1 : wx.cell? ⟨xb, 1, none⟩ = some (.int .i64 s.nu) := HX.out.2.cell 1
          have x2 : wx.cell? ⟨xb, 2, none⟩ = some (.int .i64 s.to_) := HX.out.2.cell 2
          have x3 : wx.cell? ⟨xb, 3, none⟩ = some (.int .i64 2) := HX.out.2.cell 3
          have x4 : wx.cell? ⟨xb, 4, none⟩ = some (.bool s.hv) := HX.out.2.cell 4
          obtain ⟨A8, c8, e8⟩ := own_slice HX.out.1.own
          subst e8
          have hol : out.length = k := HLN.out
          rw [hol] at HX
          rw [hol]
          go_wp2_with (at_builtin; go_must (refine wpList_append_rd _ rfl _ _ 23 rfl w.heap.size 37 k0 (.agg #[.int .i64 0, .int .i64 0, .int .i64 0, .int .i64 0, .bool false]) 5 40 Try.underlying23 HK.out.1 HK.out.2.1 HK.out.2.2.1 HK.out.2.2.2 rfl (by decide) _ _ _ rfl (HX.out.1.own.alloc _) _ _ _ 1 1 _ rfl (rd_new_eq rfl rfl) (by simp [Value.oneCell']) (by unfold maxLen; omega) (by omega) (by have := HX.out.1.below.size; simp; omega) ?_; intro v4 w4 _ hown hgrow _; have HE := Lib.hid ((HX.out.1.on ((Below.refl _ _).alloc (Nat.le_refl _) _)).app (s.fr, s.nu, s.to_, 2, s.hv) hown hgrow); clear hown hgrow))
          go_roundw
          case rel => exact ⟨k + 1, by omega, by go_num, Lib.hid (by rw [HSN2.out]; exact HE.out)⟩
          case measure => simp [intOf]; omega
        · have dk : ((k : Int) == ((n : Int) - 1)) = false := beq_eq_false_iff_ne.2 (by have := HEA.out; omega)
          have HSN2 := Lib.hid (show stK ss at_ (k + 1) = stK ss at_ k ++ [(s.fr, s.nu, s.to_, 0, s.hv)] by rw [HSN.out, if_neg hka]; rfl)
          clear HSN hka
          generalize hst_ : stK ss at_ k = out at *
          have HST := Lib.hid hst_
          clear hst_
          go_upto_region 24 with (fail)
          refine wp_abs (fun wx => SrSt w u8 out wx ∧ Blk wx wr.heap.size 37 #[.int .i64 s.fr, .int .i64 s.nu, .int .i64 s.to_, .int .i64 0, .bool s.hv]) ⟨HR.out.on ((Below.refl _ _).alloc (Nat.le_refl _) _), Blk.new _ _ _⟩ ?_
          clear x0 x1 x2 x3 x4 hO HR
          generalize wr.heap.size = xb at *
          rintro wx hX
          have HX := Lib.hid hX
          clear hX
          have x0 : wx.cell? ⟨xb, 0, none⟩ = some (.int .i64 s.fr) := HX.out.2.cell 0
          have x1 : wx.cell? ⟨xb, 1, none⟩ = some (.int .i64 s.nu) := HX.out.2.cell 1
          have x2 : wx.cell? ⟨xb, 2, none⟩ = some (.int .i64 s.to_) := HX.out.2.cell 2
          have x3 : wx.cell? ⟨xb, 3, none⟩ = some (.int .i64 0) := HX.out.2.cell 3
          have x4 : wx.cell? ⟨xb, 4, none⟩ = some (.bool s.hv) := HX.out.2.cell 4
          obtain ⟨A8, c8, e8⟩ := own_slice HX.out.1.own
          subst e8
          have hol : out.length = k := HLN.out
          rw [hol] at HX
          rw [hol]
          go_wp2_with (at_builtin; go_must (refine wpList_append_rd _ rfl _ _ 23 rfl w.heap.size 37 k0 (.agg #[.int .i64 0, .int .i64 0, .int .i64 0, .int .i64 0, .bool false]) 5 40 Try.underlying23 HK.out.1 HK.out.2.1 HK.out.2.2.1 HK.out.2.2.2 rfl (by decide) _ _ _ rfl (HX.out.1.own.alloc _) _ _ _ 1 1 _ rfl (rd_new_eq rfl rfl) (by simp [Value.oneCell']) (by unfold maxLen; omega) (by omega) (by have := HX.out.1.below.size; simp; omega) ?_; intro v4 w4 _ hown hgrow _; have HE := Lib.hid ((HX.out.1.on ((Below.refl _ _).alloc (Nat.le_refl _) _)).app (s.fr, s.nu, s.to_, 0, s.hv) hown hgrow); clear hown hgrow))
          go_roundw
          case rel => exact ⟨k + 1, by omega, by go_num, Lib.hid (by rw [HSN2.out]; exact HE.out)⟩
          case measure => simp [intOf]; omega
      · obtain rfl : k = n := by omega
        obtain ⟨A8, c8, e8⟩ := own_slice HR.out.own
        subst e8
        have di : ¬ ((k : Int) < (k : Int)) := by omega
        go_wp2
        go_ret2
        exact ⟨.slice A8 (stK ss at_ k).length c8, by rw [HE0.out]; rfl, by rw [HSS.out]; exact HR.out.own, HR.out.below⟩
  by_cases e1 : n = 1
  · have HEA := Lib.hid (show (at_ : Int) = 0 by
      have : at_ = 0 := by rw [HAT.out, if_pos (.inl (by omega))]
      omega)
    have dmx : max ((n : Int) - 2) 0 = 0 := by omega
    have d5 : decide ((2 : Int) < (n : Int)) = false := decide_eq_false (by omega)
    clear HAT e1
    by_cases r3 : rule = 3
    · obtain rfl := r3
      go_enter Try.func98, Try.ntmps98
      go_wp2
      go_loopw [8, 9, 10, 54] (fun v8 _ _ v54 wr => ∃ k : Nat, k ≤ n ∧ v54 = .int .i64 k ∧ Hid (SrSt w v8 (stK ss at_ k) wr)) (fun _ _ _ v54 _ => n - (intOf v54).toNat)
      case atStart => exact ⟨0, by omega, rfl, Lib.hid ⟨World.ownsRow_nil _ _ _ _, Below.refl _ _⟩⟩
      case round =>
        obtain ⟨k, hk, rfl, HR⟩ := hrel
        by_cases hlt : k < n
        · obtain ⟨b1, o1, hl0, eA1, _, hB2, x0, x1, x2, x3, x4⟩ := (H.out.below HR.out.below hB).sy (k := k) hlt
          cases eA1
          have hsn := stK_snoc ss at_ k
          rw [List.getD_eq_getElem?_getD, List.getElem?_eq_getElem hl0] at hsn
          have hsn : stK ss at_ (k + 1) = stK ss at_ k ++ [setSt ss[k] (if k = at_ then 2 else 0)] := hsn
          generalize ss[k] = s at *
          have HSN := Lib.hid hsn
          have HLN := Lib.hid (stK_len ss at_ k)
          clear hsn
          have i1 : (0 : Int) ≤ (k : Int) := by omega
          have i2 : (k : Int) < (n : Int) := by omega
          have hO : Hid (SrSt w u8 (stK ss at_ k) wr) := HR
          have hsz := HR.out.own.lt
          have HFA := Lib.hid (show u8.ownBlock ≠ some wr.heap.size from fun e => by have := (hsz _ e).2; omega)
          clear hsz
          have hlo := HR.out.below.size
          by_cases hka : k = at_
          · have dk : ((k : Int) == (0 : Int)) = true := by have := HEA.out; rw [beq_iff_eq]; omega
            have HSN2 := Lib.hid (show stK ss at_ (k + 1) = stK ss at_ k ++ [(s.fr, s.nu, s.to_, 2, s.hv)] by rw [HSN.out, if_pos hka]; rfl)
            clear HSN hka
            generalize hst_ : stK ss at_ k = out at *
            have HST := Lib.hid hst_
            clear hst_
            go_upto_region 24 with (fail)
            refine wp_abs (fun wx => SrSt w u8 out wx ∧ Blk wx wr.heap.size 37 #[.int .i64 s.fr, .int .i64 s.nu, .int .i64 s.to_, .int .i64 2, .bool s.hv]) ⟨HR.out.on ((Below.refl _ _).alloc (Nat.le_refl _) _), Blk.new _ _ _⟩ ?_
            clear x0 x1 x2 x3 x4 hO HR
            generalize wr.heap.size = xb at *
            rintro wx hX
            have HX := Lib.hid hX
            clear hX
            have x0 : wx.cell? ⟨xb, 0, none⟩ = some (.int .i64 s.fr) := HX.out.2.cell 0
            have x1 : wx.cell? ⟨xb, 1, none⟩ = some (.int .i64 s.nu) := HX.out.2.cell 1
            have x2 : wx.cell? ⟨xb, 2, none⟩ = some (.int .i64 s.to_) := HX.out.2.cell 2
            have x3 : wx.cell? ⟨xb, 3, none⟩ = some (.int .i64 2) := HX.out.2.cell 3
            have x4 : wx.cell? ⟨xb, 4, none⟩ = some (.bool s.hv) := HX.out.2.cell 4
            obtain ⟨A8, c8, e8⟩ := own_slice HX.out.1.own
            subst e8
            have hol : out.length = k := HLN.out
            rw [hol] at HX
            rw [hol]
            go_wp2_with (at_builtin; go_must (refine wpList_append_rd _ rfl _ _ 23 rfl w.heap.size 37 k0 (.agg #[.int .i64 0, .int .i64 0, .int .i64 0, .int .i64 0, .bool false]) 5 40 Try.underlying23 HK.out.1 HK.out.2.1 HK.out.2.2.1 HK.out.2.2.2 rfl (by decide) _ _ _ rfl (HX.out.1.own.alloc _) _ _ _ 1 1 _ rfl (rd_new_eq rfl rfl) (by simp [Value.oneCell']) (by unfold maxLen; omega) (by omega) (by have := HX.out.1.below.size; simp; omega) ?_; intro v4 w4 _ hown hgrow _; have HE := Lib.hid ((HX.out.1.on ((Below.refl _ _).alloc (Nat.le_refl _) _)).app (s.fr, s.nu, s.to_, 2, s.hv) hown hgrow); clear hown hgrow))
            go_roundw
            case rel => exact ⟨k + 1, by omega, by go_num, Lib.hid (by rw [HSN2.out]; exact HE.out)⟩
            case measure => simp [intOf]; omega
          · have dk : ((k : Int) == (0 : Int)) = false := beq_eq_false_iff_ne.2 (by have := HEA.out; omega)
            have HSN2 := Lib.hid (show stK ss at_ (k + 1) = stK ss at_ k ++ [(s.fr, s.nu, s.to_, 0, s.hv)] by rw [HSN.out, if_neg hka]; rfl)
            clear HSN hka
            generalize hst_ : stK ss at_ k = out at *
            have HST := Lib.hid hst_
            clear hst_
            go_upto_region 24 with (fail)
            refine wp_abs (fun wx => SrSt w u8 out wx ∧ Blk wx wr.heap.size 37 #[.int .i64 s.fr, .int .i64 s.nu, .int .i64 s.to_, .int .i64 0, .bool s.hv]) ⟨HR.out.on ((Below.refl _ _).alloc (Nat.le_refl _) _), Blk.new _ _ _⟩ ?_
            clear x0 x1 x2 x3 x4 hO HR
            generalize wr.heap.size = xb at *
            rintro wx hX
            have HX := Lib.hid hX
            clear hX
            have x0 : wx.cell? ⟨xb, 0, none⟩ = some (.int .i64 s.fr) := HX.out.2.cell 0
            have x1 : wx.cell? ⟨xb, 1, none⟩ = some (.int .i64 s.nu) := HX.out.2.cell 1
            have x2 : wx.cell? ⟨xb, 2, none⟩ = some (.int .i64 s.to_) := HX.out.2.cell 2
            have x3 : wx.cell? ⟨xb, 3, none⟩ = some (.int .i64 0) := HX.out.2.cell 3
            have x4 : wx.cell? ⟨xb, 4, none⟩ = some (.bool s.hv) := HX.out.2.cell 4
            obtain ⟨A8, c8, e8⟩ := own_slice HX.out.1.own
            subst e8
            have hol : out.length = k := HLN.out
            rw [hol] at HX
            rw [hol]
            go_wp2_with (at_builtin; go_must (refine wpList_append_rd _ rfl _ _ 23 rfl w.heap.size 37 k0 (.agg #[.int .i64 0, .int .i64 0, .int .i64 0, .int .i64 0, .bool false]) 5 40 Try.underlying23 HK.out.1 HK.out.2.1 HK.out.2.2.1 HK.out.2.2.2 rfl (by decide) _ _ _ rfl (HX.out.1.own.alloc _) _ _ _ 1 1 _ rfl (rd_new_eq rfl rfl) (by simp [Value.oneCell']) (by unfold maxLen; omega) (by omega) (by have := HX.out.1.below.size; simp; omega) ?_; intro v4 w4 _ hown hgrow _; have HE := Lib.hid ((HX.out.1.on ((Below.refl _ _).alloc (Nat.le_refl _) _)).app (s.fr, s.nu, s.to_, 0, s.hv) hown hgrow); clear hown hgrow))
            go_roundw
            case rel => exact ⟨k + 1, by omega, by go_num, Lib.hid (by rw [HSN2.out]; exact HE.out)⟩
            case measure => simp [intOf]; omega
        · obtain rfl : k = n := by omega
          obtain ⟨A8, c8, e8⟩ := own_slice HR.out.own
          subst e8
          have di : ¬ ((k : Int) < (k : Int)) := by omega
          go_wp2
          go_ret2
          exact ⟨.slice A8 (stK ss at_ k).length c8, by rw [HE0.out]; rfl, by rw [HSS.out]; exact HR.out.own, HR.out.below⟩
    · obtain rfl : rule = 4 := by omega
      go_enter Try.func98, Try.ntmps98
      go_wp2
      go_loopw [8, 9, 10, 54] (fun v8 _ _ v54 wr => ∃ k : Nat, k ≤ n ∧ v54 = .int .i64 k ∧ Hid (SrSt w v8 (stK ss at_ k) wr)) (fun _ _ _ v54 _ => n - (intOf v54).toNat)
      case atStart => exact ⟨0, by omega, rfl, Lib.hid ⟨World.ownsRow_nil _ _ _ _, Below.refl _ _⟩⟩
      case round =>
        obtain ⟨k, hk, rfl, HR⟩ := hrel
        by_cases hlt : k < n
        · obtain ⟨b1, o1, hl0, eA1, _, hB2, x0, x1, x2, x3, x4⟩ := (H.out.below HR.out.below hB).sy (k := k) hlt
          cases eA1
          have hsn := stK_snoc ss at_ k
          rw [List.getD_eq_getElem?_getD, List.getElem?_eq_getElem hl0] at hsn
          have hsn : stK ss at_ (k + 1) = stK ss at_ k ++ [setSt ss[k] (if k = at_ then 2 else 0)] := hsn
          generalize ss[k] = s at *
          have HSN := Lib.hid hsn
          have HLN := Lib.hid (stK_len ss at_ k)
          clear hsn
          have i1 : (0 : Int) ≤ (k : Int) := by omega
          have i2 : (k : Int) < (n : Int) := by omega
          have hO : Hid (SrSt w u8 (stK ss at_ k) wr) := HR
          have hsz := HR.out.own.lt
          have HFA := Lib.hid (show u8.ownBlock ≠ some wr.heap.size from fun e => by have := (hsz _ e).2; omega)
          clear hsz
          have hlo := HR.out.below.size
          by_cases hka : k = at_
          · have dk : ((k : Int) == (0 : Int)) = true := by have := HEA.out; rw [beq_iff_eq]; omega
            have HSN2 := Lib.hid (show stK ss at_ (k + 1) = stK ss at_ k ++ [(s.fr, s.nu, s.to_, 2, s.hv)] by rw [HSN.out, if_pos hka]; rfl)
            clear HSN hka
            generalize hst_ : stK ss at_ k = out at *
            have HST := Lib.hid hst_
            clear hst_
            go_upto_region 24 with (fail)
            refine wp_abs (fun wx => SrSt w u8 out wx ∧ Blk wx wr.heap.size 37 #[.int .i64 s.fr, .int .i64 s.nu, .int .i64 s.to_, .int .i64 2, .bool s.hv]) ⟨HR.out.on ((Below.refl _ _).alloc (Nat.le_refl _) _), Blk.new _ _ _⟩ ?_
            clear x0 x1 x2 x3 x4 hO HR
            generalize wr.heap.size = xb at *
            rintro wx hX
            have HX := Lib.hid hX
            clear hX
            have x0 : wx.cell? ⟨xb, 0, none⟩ = some (.int .i64 s.fr) := HX.out.2.cell 0
            have x1 : wx.cell? ⟨xb, 1, none⟩ = some (.int .i64 s.nu) := HX.out.2.cell 1
            have x2 : wx.cell? ⟨xb, 2, none⟩ = some (.int .i64 s.to_) := HX.out.2.cell 2
            have x3 : wx.cell? ⟨xb, 3, none⟩ = some (.int .i64 2) := HX.out.2.cell 3
            have x4 : wx.cell? ⟨xb, 4, none⟩ = some (.bool s.hv) := HX.out.2.cell 4
            obtain ⟨A8, c8, e8⟩ := own_slice HX.out.1.own
            subst e8
            have hol : out.length = k := HLN.out
            rw [hol] at HX
            rw [hol]
            go_wp2_with (at_builtin; go_must (refine wpList_append_rd _ rfl _ _ 23 rfl w.heap.size 37 k0 (.agg #[.int .i64 0, .int .i64 0, .int .i64 0, .int .i64 0, .bool false]) 5 40 Try.underlying23 HK.out.1 HK.out.2.1 HK.out.2.2.1 HK.out.2.2.2 rfl (by decide) _ _ _ rfl (HX.out.1.own.alloc _) _ _ _ 1 1 _ rfl (rd_new_eq rfl rfl) (by simp [Value.oneCell']) (by unfold maxLen; omega) (by omega) (by have := HX.out.1.below.size; simp; omega) ?_; intro v4 w4 _ hown hgrow _; have HE := Lib.hid ((HX.out.1.on ((Below.refl _ _).alloc (Nat.le_refl _) _)).app (s.fr, s.nu, s.to_, 2, s.hv) hown hgrow); clear hown hgrow))
            go_roundw
            case rel => exact ⟨k + 1, by omega, by go_num, Lib.hid (by rw [HSN2.out]; exact HE.out)⟩
            case measure => simp [intOf]; omega
          · have dk : ((k : Int) == (0 : Int)) = false := beq_eq_false_iff_ne.2 (by have := HEA.out; omega)
            have HSN2 := Lib.hid (show stK ss at_ (k + 1) = stK ss at_ k ++ [(s.fr, s.nu, s.to_, 0, s.hv)] by rw [HSN.out, if_neg hka]; rfl)
            clear HSN hka
            generalize hst_ : stK ss at_ k = out at *
            have HST := Lib.hid hst_
            clear hst_
            go_upto_region 24 with (fail)
            refine wp_abs (fun wx => SrSt w u8 out wx ∧ Blk wx wr.heap.size 37 #[.int .i64 s.fr, .int .i64 s.nu, .int .i64 s.to_, .int .i64 0, .bool s.hv]) ⟨HR.out.on ((Below.refl _ _).alloc (Nat.le_refl _) _), Blk.new _ _ _⟩ ?_
            clear x0 x1 x2 x3 x4 hO HR
            generalize wr.heap.size = xb at *
            rintro wx hX
            have HX := Lib.hid hX
            clear hX
            have x0 : wx.cell? ⟨xb, 0, none⟩ = some (.int .i64 s.fr) := HX.out.2.cell 0
            have x1 : wx.cell? ⟨xb, 1, none⟩ = some (.int .i64 s.nu) := HX.out.2.cell 1
            have x2 : wx.cell? ⟨xb, 2, none⟩ = some (.int .i64 s.to_) := HX.out.2.cell 2
            have x3 : wx.cell? ⟨xb, 3, none⟩ = some (.int .i64 0) := HX.out.2.cell 3
            have x4 : wx.cell? ⟨xb, 4, none⟩ = some (.bool s.hv) := HX.out.2.cell 4
            obtain ⟨A8, c8, e8⟩ := own_slice HX.out.1.own
            subst e8
            have hol : out.length = k := HLN.out
            rw [hol] at HX
            rw [hol]
            go_wp2_with (at_builtin; go_must (refine wpList_append_rd _ rfl _ _ 23 rfl w.heap.size 37 k0 (.agg #[.int .i64 0, .int .i64 0, .int .i64 0, .int .i64 0, .bool false]) 5 40 Try.underlying23 HK.out.1 HK.out.2.1 HK.out.2.2.1 HK.out.2.2.2 rfl (by decide) _ _ _ rfl (HX.out.1.own.alloc _) _ _ _ 1 1 _ rfl (rd_new_eq rfl rfl) (by simp [Value.oneCell']) (by unfold maxLen; omega) (by omega) (by have := HX.out.1.below.size; simp; omega) ?_; intro v4 w4 _ hown hgrow _; have HE := Lib.hid ((HX.out.1.on ((Below.refl _ _).alloc (Nat.le_refl _) _)).app (s.fr, s.nu, s.to_, 0, s.hv) hown hgrow); clear hown hgrow))
            go_roundw
            case rel => exact ⟨k + 1, by omega, by go_num, Lib.hid (by rw [HSN2.out]; exact HE.out)⟩
            case measure => simp [intOf]; omega
        · obtain rfl : k = n := by omega
          obtain ⟨A8, c8, e8⟩ := own_slice HR.out.own
          subst e8
          have di : ¬ ((k : Int) < (k : Int)) := by omega
          go_wp2
          go_ret2
          exact ⟨.slice A8 (stK ss at_ k).length c8, by rw [HE0.out]; rfl, by rw [HSS.out]; exact HR.out.own, HR.out.below⟩
  have dmx : max ((n : Int) - 2) 0 = (n : Int) - 2 := by omega
  by_cases r3 : rule = 3
  · obtain rfl := r3
    have HEA := Lib.hid (show (at_ : Int) = (n : Int) - 2 by
      have : at_ = ss.length - 2 := by rw [HAT.out, if_neg (by omega), if_neg (by decide), if_pos (.inl rfl)]
      omega)
    clear HAT
    go_enter Try.func98, Try.ntmps98
    go_wp2
    go_loopw [8, 9, 10, 54] (fun v8 _ _ v54 wr => ∃ k : Nat, k ≤ n ∧ v54 = .int .i64 k ∧ Hid (SrSt w v8 (stK ss at_ k) wr)) (fun _ _ _ v54 _ => n - (intOf v54).toNat)
    case atStart => exact ⟨0, by omega, rfl, Lib.hid ⟨World.ownsRow_nil _ _ _ _, Below.refl _ _⟩⟩
    case round =>
      obtain ⟨k, hk, rfl, HR⟩ := hrel
      by_cases hlt : k < n
      · obtain ⟨b1, o1, hl0, eA1, _, hB2, x0, x1, x2, x3, x4⟩ := (H.out.below HR.out.below hB).sy (k := k) hlt
        cases eA1
        have hsn := stK_snoc ss at_ k
        rw [List.getD_eq_getElem?_getD, List.getElem?_eq_getElem hl0] at hsn
        have hsn : stK ss at_ (k + 1) = stK ss at_ k ++ [setSt ss[k] (if k = at_ then 2 else 0)] := hsn
        generalize ss[k] = s at *
        have HSN := Lib.hid hsn
        have HLN := Lib.hid (stK_len ss at_ k)
        clear hsn
        have i1 : (0 : Int) ≤ (k : Int) := by omega
        have i2 : (k : Int) < (n : Int) := by omega
        have hO : Hid (SrSt w u8 (stK ss at_ k) wr) := HR
        have hsz := HR.out.own.lt
        have HFA := Lib.hid (show u8.ownBlock ≠ some wr.heap.size from fun e => by have := (hsz _ e).2; omega)
        clear hsz
        have hlo := HR.out.below.size
        by_cases hka : k = at_
        · have dk : ((k : Int) == ((n : Int) - 2)) = true := by have := HEA.out; rw [beq_iff_eq]; omega
          have HSN2 := Lib.hid (show stK ss at_ (k + 1) = stK ss at_ k ++ [(s.fr, s.nu, s.to_, 2, s.hv)] by rw [HSN.out, if_pos hka]; rfl)
          clear HSN hka
          generalize hst_ : stK ss at_ k = out at *
          have HST := Lib.hid hst_
          clear hst_
          go_upto_region 24 with (fail)
          refine wp_abs (fun wx => SrSt w u8 out wx ∧ Blk wx wr.heap.size 37 #[.int .i64 s.fr, .int .i64 s.nu, .int .i64 s.to_, .int .i64 2, .bool s.hv]) ⟨HR.out.on ((Below.refl _ _).alloc (Nat.le_refl _) _), Blk.new _ _ _⟩ ?_
          clear x0 x1 x2 x3 x4 hO HR
          generalize wr.heap.size = xb at *
          rintro wx hX
          have HX := Lib.hid hX
          clear hX
          have x0 : wx.cell? ⟨xb, 0, none⟩ = some (.int .i64 s.fr) := HX.out.2.cell 0
          have x1 : wx.cell? ⟨xb, 1, none⟩ = some (.int .i64 s.nu) := HX.out.2.cell 1
          have x2 : wx.cell? ⟨xb, 2, none⟩ = some (.int .i64 s.to_) := HX.out.2.cell 2
          have x3 : wx.cell? ⟨xb, 3, none⟩ = some (.int .i64 2) := HX.out.2.cell 3
          have x4 : wx.cell? ⟨xb, 4, none⟩ = some (.bool s.hv) := HX.out.2.cell 4
          obtain ⟨A8, c8, e8⟩ := own_slice HX.out.1.own
          subst e8
          have hol : out.length = k := HLN.out
          rw [hol] at HX
          rw [hol]
          go_wp2_with (at_builtin; go_must (refine wpList_append_rd _ rfl _ _ 23 rfl w.heap.size 37 k0 (.agg #[.int .i64 0, .int .i64 0, .int .i64 0, .int .i64 0, .bool false]) 5 40 Try.underlying23 HK.out.1 HK.out.2.1 HK.out.2.2.1 HK.out.2.2.2 rfl (by decide) _ _ _ rfl (HX.out.1.own.alloc _) _ _ _ 1 1 _ rfl (rd_new_eq rfl rfl) (by simp [Value.oneCell']) (by unfold maxLen; omega) (by omega) (by have := HX.out.1.below.size; simp; omega) ?_; intro v4 w4 _ hown hgrow _; have HE := Lib.hid ((HX.out.1.on ((Below.refl _ _).alloc (Nat.le_refl _) _)).app (s.fr, s.nu, s.to_, 2, s.hv) hown hgrow); clear hown hgrow))
          go_roundw
          case rel => exact ⟨k + 1, by omega, by go_num, Lib.hid (by rw [HSN2.out]; exact HE.out)⟩
          case measure => simp [intOf]; omega
        · have dk : ((k : Int) == ((n : Int) - 2)) = false := beq_eq_false_iff_ne.2 (by have := HEA.out; omega)
          have HSN2 := Lib.hid (show stK ss at_ (k + 1) = stK ss at_ k ++ [(s.fr, s.nu, s.to_, 0, s.hv)] by rw [HSN.out, if_neg hka]; rfl)
          clear HSN hka
          generalize hst_ : stK ss at_ k = out at *
          have HST := Lib.hid hst_
          clear hst_
          go_upto_region 24 with (fail)
          refine wp_abs (fun wx => SrSt w u8 out wx ∧ Blk wx wr.heap.size 37 #[.int .i64 s.fr, .int .i64 s.nu, .int .i64 s.to_, .int .i64 0, .bool s.hv]) ⟨HR.out.on ((Below.refl _ _).alloc (Nat.le_refl _) _), Blk.new _ _ _⟩ ?_
          clear x0 x1 x2 x3 x4 hO HR
          generalize wr.heap.size = xb at *
          rintro wx hX
          have HX := Lib.hid hX
          clear hX
          have x0 : wx.cell? ⟨xb, 0, none⟩ = some (.int .i64 s.fr) := HX.out.2.cell 0
          have x1 : wx.cell? ⟨xb, 1, none⟩ = some (.int .i64 s.nu) := HX.out.2.cell 1
          have x2 : wx.cell? ⟨xb, 2, none⟩ = some (.int .i64 s.to_) := HX.out.2.cell 2
          have x3 : wx.cell? ⟨xb, 3, none⟩ = some (.int .i64 0) := HX.out.2.cell 3
          have x4 : wx.cell? ⟨xb, 4, none⟩ = some (.bool s.hv) := HX.out.2.cell 4
          obtain ⟨A8, c8, e8⟩ := own_slice HX.out.1.own
          subst e8
          have hol : out.length = k := HLN.out
          rw [hol] at HX
          rw [hol]
          go_wp2_with (at_builtin; go_must (refine wpList_append_rd _ rfl _ _ 23 rfl w.heap.size 37 k0 (.agg #[.int .i64 0, .int .i64 0, .int .i64 0, .int .i64 0, .bool false]) 5 40 Try.underlying23 HK.out.1 HK.out.2.1 HK.out.2.2.1 HK.out.2.2.2 rfl (by decide) _ _ _ rfl (HX.out.1.own.alloc _) _ _ _ 1 1 _ rfl (rd_new_eq rfl rfl) (by simp [Value.oneCell']) (by unfold maxLen; omega) (by omega) (by have := HX.out.1.below.size; simp; omega) ?_; intro v4 w4 _ hown hgrow _; have HE := Lib.hid ((HX.out.1.on ((Below.refl _ _).alloc (Nat.le_refl _) _)).app (s.fr, s.nu, s.to_, 0, s.hv) hown hgrow); clear hown hgrow))
          go_roundw
          case rel => exact ⟨k + 1, by omega, by go_num, Lib.hid (by rw [HSN2.out]; exact HE.out)⟩
          case measure => simp [intOf]; omega
      · obtain rfl : k = n := by omega
        obtain ⟨A8, c8, e8⟩ := own_slice HR.out.own
        subst e8
        have di : ¬ ((k : Int) < (k : Int)) := by omega
        go_wp2
        go_ret2
        exact ⟨.slice A8 (stK ss at_ k).length c8, by rw [HE0.out]; rfl, by rw [HSS.out]; exact HR.out.own, HR.out.below⟩
  obtain rfl : rule = 4 := by omega
  by_cases e2 : n = 2
  · have HEA := Lib.hid (show (at_ : Int) = 0 by
      have : at_ = ss.length - 2 := by rw [HAT.out, if_neg (by omega), if_neg (by decide), if_pos (.inr (.inl (by omega)))]
      omega)
    have dmx : max ((n : Int) - 2) 0 = 0 := by omega
    have d5 : decide ((2 : Int) < (n : Int)) = false := decide_eq_false (by omega)
    clear HAT e2
    go_enter Try.func98, Try.ntmps98
    go_wp2
    go_loopw [8, 9, 10, 54] (fun v8 _ _ v54 wr => ∃ k : Nat, k ≤ n ∧ v54 = .int .i64 k ∧ Hid (SrSt w v8 (stK ss at_ k) wr)) (fun _ _ _ v54 _ => n - (intOf v54).toNat)
    case atStart => exact ⟨0, by omega, rfl, Lib.hid ⟨World.ownsRow_nil _ _ _ _, Below.refl _ _⟩⟩
    case round =>
      obtain ⟨k, hk, rfl, HR⟩ := hrel
      by_cases hlt : k < n
      · obtain ⟨b1, o1, hl0, eA1, _, hB2, x0, x1, x2, x3, x4⟩ := (H.out.below HR.out.below hB).sy (k := k) hlt
        cases eA1
        have hsn := stK_snoc ss at_ k
        rw [List.getD_eq_getElem?_getD, List.getElem?_eq_getElem hl0] at hsn
        have hsn : stK ss at_ (k + 1) = stK ss at_ k ++ [setSt ss[k] (if k = at_ then 2 else 0)] := hsn
        generalize ss[k] = s at *
        have HSN := Lib.hid hsn
        have HLN := Lib.hid (stK_len ss at_ k)
        clear hsn
        have i1 : (0 : Int) ≤ (k : Int) := by omega
        have i2 : (k : Int) < (n : Int) := by omega
        have hO : Hid (SrSt w u8 (stK ss at_ k) wr) := HR
        have hsz := HR.out.own.lt
        have HFA := Lib.hid (show u8.ownBlock ≠ some wr.heap.size from fun e => by have := (hsz _ e).2; omega)
        clear hsz
        have hlo := HR.out.below.size
        by_cases hka : k = at_
        · have dk : ((k : Int) == (0 : Int)) = true := by have := HEA.out; rw [beq_iff_eq]; omega
          have HSN2 := Lib.hid (show stK ss at_ (k + 1) = stK ss at_ k ++ [(s.fr, s.nu, s.to_, 2, s.hv)] by rw [HSN.out, if_pos hka]; rfl)
          clear HSN hka
          generalize hst_ : stK ss at_ k = out at *
          have HST := Lib.hid hst_
          clear hst_
          go_upto_region 24 with (fail)
          refine wp_abs (fun wx => SrSt w u8 out wx ∧ Blk wx wr.heap.size 37 #[.int .i64 s.fr, .int .i64 s.nu, .int .i64 s.to_, .int .i64 2, .bool s.hv]) ⟨HR.out.on ((Below.refl _ _).alloc (Nat.le_refl _) _), Blk.new _ _ _⟩ ?_
          clear x0 x1 x2 x3 x4 hO HR
          generalize wr.heap.size = xb at *
          rintro wx hX
          have HX := Lib.hid hX
          clear hX
          have x0 : wx.cell? ⟨xb, 0, none⟩ = some (.int .i64 s.fr) := HX.out.2.cell 0
          have x1 : wx.cell? ⟨xb, 1, none⟩ = some (.int .i64 s.nu) := HX.out.2.cell 1
          have x2 : wx.cell? ⟨xb, 2, none⟩ = some (.int .i64 s.to_) := HX.out.2.cell 2
          have x3 : wx.cell? ⟨xb, 3, none⟩ = some (.int .i64 2) := HX.out.2.cell 3
          have x4 : wx.cell? ⟨xb, 4, none⟩ = some (.bool s.hv) := HX.out.2.cell 4
          obtain ⟨A8, c8, e8⟩ := own_slice HX.out.1.own
          subst e8
          have hol : out.length = k := HLN.out
          rw [hol] at HX
          rw [hol]
          go_wp2_with (at_builtin; go_must (refine wpList_append_rd _ rfl _ _ 23 rfl w.heap.size 37 k0 (.agg #[.int .i64 0, .int .i64 0, .int .i64 0, .int .i64 0, .bool false]) 5 40 Try.underlying23 HK.out.1 HK.out.2.1 HK.out.2.2.1 HK.out.2.2.2 rfl (by decide) _ _ _ rfl (HX.out.1.own.alloc _) _ _ _ 1 1 _ rfl (rd_new_eq rfl rfl) (by simp [Value.oneCell']) (by unfold maxLen; omega) (by omega) (by have := HX.out.1.below.size; simp; omega) ?_; intro v4 w4 _ hown hgrow _; have HE := Lib.hid ((HX.out.1.on ((Below.refl _ _).alloc (Nat.le_refl _) _)).app (s.fr, s.nu, s.to_, 2, s.hv) hown hgrow); clear hown hgrow))
          go_roundw
          case rel => exact ⟨k + 1, by omega, by go_num, Lib.hid (by rw [HSN2.out]; exact HE.out)⟩
          case measure => simp [intOf]; omega
        · have dk : ((k : Int) == (0 : Int)) = false := beq_eq_false_iff_ne.2 (by have := HEA.out; omega)
          have HSN2 := Lib.hid (show stK ss at_ (k + 1) = stK ss at_ k ++ [(s.fr, s.nu, s.to_, 0, s.hv)] by rw [HSN.out, if_neg hka]; rfl)
          clear HSN hka
          generalize hst_ : stK ss at_ k = out at *
          have HST := Lib.hid hst_
          clear hst_
          go_upto_region 24 with (fail)
          refine wp_abs (fun wx => SrSt w u8 out wx ∧ Blk wx wr.heap.size 37 #[.int .i64 s.fr, .int .i64 s.nu, .int .i64 s.to_, .int .i64 0, .bool s.hv]) ⟨HR.out.on ((Below.refl _ _).alloc (Nat.le_refl _) _), Blk.new _ _ _⟩ ?_
          clear x0 x1 x2 x3 x4 hO HR
          generalize wr.heap.size = xb at *
          rintro wx hX
          have HX := Lib.hid hX
          clear hX
          have x0 : wx.cell? ⟨xb, 0, none⟩ = some (.int .i64 s.fr) := HX.out.2.cell 0
          have x1 : wx.cell? ⟨xb, 1, none⟩ = some (.int .i64 s.nu) := HX.out.2.cell 1
          have x2 : wx.cell? ⟨xb, 2, none⟩ = some (.int .i64 s.to_) := HX.out.2.cell 2
          have x3 : wx.cell? ⟨xb, 3, none⟩ = some (.int .i64 0) := HX.out.2.cell 3
          have x4 : wx.cell? ⟨xb, 4, none⟩ = some (.bool s.hv) := HX.out.2.cell 4
          obtain ⟨A8, c8, e8⟩ := own_slice HX.out.1.own
          subst e8
          have hol : out.length = k := HLN.out
          rw [hol] at HX
          rw [hol]
          go_wp2_with (at_builtin; go_must (refine wpList_append_rd _ rfl _ _ 23 rfl w.heap.size 37 k0 (.agg #[.int .i64 0, .int .i64 0, .int .i64 0, .int .i64 0, .bool false]) 5 40 Try.underlying23 HK.out.1 HK.out.2.1 HK.out.2.2.1 HK.out.2.2.2 rfl (by decide) _ _ _ rfl (HX.out.1.own.alloc _) _ _ _ 1 1 _ rfl (rd_new_eq rfl rfl) (by simp [Value.oneCell']) (by unfold maxLen; omega) (by omega) (by have := HX.out.1.below.size; simp; omega) ?_; intro v4 w4 _ hown hgrow _; have HE := Lib.hid ((HX.out.1.on ((Below.refl _ _).alloc (Nat.le_refl _) _)).app (s.fr, s.nu, s.to_, 0, s.hv) hown hgrow); clear hown hgrow))
          go_roundw
          case rel => exact ⟨k + 1, by omega, by go_num, Lib.hid (by rw [HSN2.out]; exact HE.out)⟩
          case measure => simp [intOf]; omega
      · obtain rfl : k = n := by omega
        obtain ⟨A8, c8, e8⟩ := own_slice HR.out.own
        subst e8
        have di : ¬ ((k : Int) < (k : Int)) := by omega
        go_wp2
        go_ret2
        exact ⟨.slice A8 (stK ss at_ k).length c8, by rw [HE0.out]; rfl, by rw [HSS.out]; exact HR.out.own, HR.out.below⟩
  have d5 : decide ((2 : Int) < (n : Int)) = true := decide_eq_true (by omega)
  have n2 : (0 : Int) ≤ (n : Int) - 2 := by omega
  have n3 : (n : Int) - 2 < (n : Int) := by omega
  obtain ⟨m, hm⟩ : ∃ m, n = m + 2 := ⟨n - 2, by omega⟩
  have hmi : (n : Int) - 2 = (m : Int) := by omega
  obtain ⟨b, o, hl0, eA, _, hB2, _, _, _, _, x4⟩ := H.out.sy (k := m) (by omega)
  have hgd : (ss.getD (ss.length - 2) sy0).hv = ss[m].hv := by rw [show ss.length - 2 = m by omega, List.getD_eq_getElem?_getD, List.getElem?_eq_getElem hl0]; rfl
  rw [hgd] at HAT
  generalize ss[m].hv = hv at *
  cases eA
  have HMI := Lib.hid hmi
  clear hmi
  have w5 : IntKind.i64.wrap ((m : Int) - 1) = (m : Int) - 1 := IntWalk.i64_in _ (by omega)
  have w6 : IntKind.i64.wrap ((n : Int) - 2) = (m : Int) := by rw [w2]; exact HMI.out
  have m0 : (0 : Int) ≤ (m : Int) := by omega
  have m1 : (m : Int) < (n : Int) := by omega
  clear w2 w3 dmx n2 n3
  cases hv with
  | true =>
    have HEA := Lib.hid (show (at_ : Int) = (m : Int) by
      have : at_ = ss.length - 2 := by rw [HAT.out, if_neg (by omega), if_neg (by decide), if_pos (.inr (.inr rfl))]
      omega)
    have dmx : max (m : Int) 0 = (m : Int) := by omega
    clear HAT hm hgd
    go_enter Try.func98, Try.ntmps98
    go_wp2
    go_loopw [8, 9, 10, 54] (fun v8 _ _ v54 wr => ∃ k : Nat, k ≤ n ∧ v54 = .int .i64 k ∧ Hid (SrSt w v8 (stK ss at_ k) wr)) (fun _ _ _ v54 _ => n - (intOf v54).toNat)
    case atStart => exact ⟨0, by omega, rfl, Lib.hid ⟨World.ownsRow_nil _ _ _ _, Below.refl _ _⟩⟩
    case round =>
      obtain ⟨k, hk, rfl, HR⟩ := hrel
      by_cases hlt : k < n
      · obtain ⟨b1, o1, hl0, eA1, _, hB2, x0, x1, x2, x3, x4⟩ := (H.out.below HR.out.below hB).sy (k := k) hlt
        cases eA1
        have hsn := stK_snoc ss at_ k
        rw [List.getD_eq_getElem?_getD, List.getElem?_eq_getElem hl0] at hsn
        have hsn : stK ss at_ (k + 1) = stK ss at_ k ++ [setSt ss[k] (if k = at_ then 2 else 0)] := hsn
        generalize ss[k] = s at *
        have HSN := Lib.hid hsn
        have HLN := Lib.hid (stK_len ss at_ k)
        clear hsn
        have i1 : (0 : Int) ≤ (k : Int) := by omega
        have i2 : (k : Int) < (n : Int) := by omega
        have hO : Hid (SrSt w u8 (stK ss at_ k) wr) := HR
        have hsz := HR.out.own.lt
        have HFA := Lib.hid (show u8.ownBlock ≠ some wr.heap.size from fun e => by have := (hsz _ e).2; omega)
        clear hsz
        have hlo := HR.out.below.size
        by_cases hka : k = at_
        · have dk : ((k : Int) == (m : Int)) = true := by have := HEA.out; rw [beq_iff_eq]; omega
          have HSN2 := Lib.hid (show stK ss at_ (k + 1) = stK ss at_ k ++ [(s.fr, s.nu, s.to_, 2, s.hv)] by rw [HSN.out, if_pos hka]; rfl)
          clear HSN hka
          generalize hst_ : stK ss at_ k = out at *
          have HST := Lib.hid hst_
          clear hst_
          go_upto_region 24 with (fail)
          refine wp_abs (fun wx => SrSt w u8 out wx ∧ Blk wx wr.heap.size 37 #[.int .i64 s.fr, .int .i64 s.nu, .int .i64 s.to_, .int .i64 2, .bool s.hv]) ⟨HR.out.on ((Below.refl _ _).alloc (Nat.le_refl _) _), Blk.new _ _ _⟩ ?_
          clear x0 x1 x2 x3 x4 hO HR
          generalize wr.heap.size = xb at *
          rintro wx hX
          have HX := Lib.hid hX
          clear hX
          have x0 : wx.cell? ⟨xb, 0, none⟩ = some (.int .i64 s.fr) := HX.out.2.cell 0
          have x1 : wx.cell? ⟨xb, 1, none⟩ = some (.int .i64 s.nu) := HX.out.2.cell 1
          have x2 : wx.cell? ⟨xb, 2, none⟩ = some (.int .i64 s.to_) := HX.out.2.cell 2
          have x3 : wx.cell? ⟨xb, 3, none⟩ = some (.int .i64 2) := HX.out.2.cell 3
          have x4 : wx.cell? ⟨xb, 4, none⟩ = some (.bool s.hv) := HX.out.2.cell 4
          obtain ⟨A8, c8, e8⟩ := own_slice HX.out.1.own
          subst e8
          have hol : out.length = k := HLN.out
          rw [hol] at HX
          rw [hol]
          go_wp2_with (at_builtin; go_must (refine wpList_append_rd _ rfl _ _ 23 rfl w.heap.size 37 k0 (.agg #[.int .i64 0, .int .i64 0, .int .i64 0, .int .i64 0, .bool false]) 5 40 Try.underlying23 HK.out.1 HK.out.2.1 HK.out.2.2.1 HK.out.2.2.2 rfl (by decide) _ _ _ rfl (HX.out.1.own.alloc _) _ _ _ 1 1 _ rfl (rd_new_eq rfl rfl) (by simp [Value.oneCell']) (by unfold maxLen; omega) (by omega) (by have := HX.out.1.below.size; simp; omega) ?_; intro v4 w4 _ hown hgrow _; have HE := Lib.hid ((HX.out.1.on ((Below.refl _ _).alloc (Nat.le_refl _) _)).app (s.fr, s.nu, s.to_, 2, s.hv) hown hgrow); clear hown hgrow))
          go_roundw
          case rel => exact ⟨k + 1, by omega, by go_num, Lib.hid (by rw [HSN2.out]; exact HE.out)⟩
          case measure => simp [intOf]; omega
        · have dk : ((k : Int) == (m : Int)) = false := beq_eq_false_iff_ne.2 (by have := HEA.out; omega)
          have HSN2 := Lib.hid (show stK ss at_ (k + 1) = stK ss at_ k ++ [(s.fr, s.nu, s.to_, 0, s.hv)] by rw [HSN.out, if_neg hka]; rfl)
          clear HSN hka
          generalize hst_ : stK ss at_ k = out at *
          have HST := Lib.hid hst_
          clear hst_
          go_upto_region 24 with (fail)
          refine wp_abs (fun wx => SrSt w u8 out wx ∧ Blk wx wr.heap.size 37 #[.int .i64 s.fr, .int .i64 s.nu, .int .i64 s.to_, .int .i64 0, .bool s.hv]) ⟨HR.out.on ((Below.refl _ _).alloc (Nat.le_refl _) _), Blk.new _ _ _⟩ ?_
          clear x0 x1 x2 x3 x4 hO HR
          generalize wr.heap.size = xb at *
          rintro wx hX
          have HX := Lib.hid hX
          clear hX
          have x0 : wx.cell? ⟨xb, 0, none⟩ = some (.int .i64 s.fr) := HX.out.2.cell 0
          have x1 : wx.cell? ⟨xb, 1, none⟩ = some (.int .i64 s.nu) := HX.out.2.cell 1
          have x2 : wx.cell? ⟨xb, 2, none⟩ = some (.int .i64 s.to_) := HX.out.2.cell 2
          have x3 : wx.cell? ⟨xb, 3, none⟩ = some (.int .i64 0) := HX.out.2.cell 3
          have x4 : wx.cell? ⟨xb, 4, none⟩ = some (.bool s.hv) := HX.out.2.cell 4
          obtain ⟨A8, c8, e8⟩ := own_slice HX.out.1.own
          subst e8
          have hol : out.length = k := HLN.out
          rw [hol] at HX
          rw [hol]
          go_wp2_with (at_builtin; go_must (refine wpList_append_rd _ rfl _ _ 23 rfl w.heap.size 37 k0 (.agg #[.int .i64 0, .int .i64 0, .int .i64 0, .int .i64 0, .bool false]) 5 40 Try.underlying23 HK.out.1 HK.out.2.1 HK.out.2.2.1 HK.out.2.2.2 rfl (by decide) _ _ _ rfl (HX.out.1.own.alloc _) _ _ _ 1 1 _ rfl (rd_new_eq rfl rfl) (by simp [Value.oneCell']) (by unfold maxLen; omega) (by omega) (by have := HX.out.1.below.size; simp; omega) ?_; intro v4 w4 _ hown hgrow _; have HE := Lib.hid ((HX.out.1.on ((Below.refl _ _).alloc (Nat.le_refl _) _)).app (s.fr, s.nu, s.to_, 0, s.hv) hown hgrow); clear hown hgrow))
          go_roundw
          case rel => exact ⟨k + 1, by omega, by go_num, Lib.hid (by rw [HSN2.out]; exact HE.out)⟩
          case measure => simp [intOf]; omega
      · obtain rfl : k = n := by omega
        obtain ⟨A8, c8, e8⟩ := own_slice HR.out.own
        subst e8
        have di : ¬ ((k : Int) < (k : Int)) := by omega
        go_wp2
        go_ret2
        exact ⟨.slice A8 (stK ss at_ k).length c8, by rw [HE0.out]; rfl, by rw [HSS.out]; exact HR.out.own, HR.out.below⟩
  | false =>
    have HEA := Lib.hid (show (at_ : Int) = (m : Int) - 1 by
      have : at_ = ss.length - 3 := by rw [HAT.out, if_neg (by omega), if_neg (by decide), if_neg (by rintro (h | h | h); omega; omega; cases h)]
      omega)
    have dmx : max ((m : Int) - 1) 0 = (m : Int) - 1 := by omega
    clear HAT hm hgd
    go_enter Try.func98, Try.ntmps98
    go_wp2
    go_loopw [8, 9, 10, 54] (fun v8 _ _ v54 wr => ∃ k : Nat, k ≤ n ∧ v54 = .int .i64 k ∧ Hid (SrSt w v8 (stK ss at_ k) wr)) (fun _ _ _ v54 _ => n - (intOf v54).toNat)
    case atStart => exact ⟨0, by omega, rfl, Lib.hid ⟨World.ownsRow_nil _ _ _ _, Below.refl _ _⟩⟩
    case round =>
      obtain ⟨k, hk, rfl, HR⟩ := hrel
      by_cases hlt : k < n
      · obtain ⟨b1, o1, hl0, eA1, _, hB2, x0, x1, x2, x3, x4⟩ := (H.out.below HR.out.below hB).sy (k := k) hlt
        cases eA1
        have hsn := stK_snoc ss at_ k
        rw [List.getD_eq_getElem?_getD, List.getElem?_eq_getElem hl0] at hsn
        have hsn : stK ss at_ (k + 1) = stK ss at_ k ++ [setSt ss[k] (if k = at_ then 2 else 0)] := hsn
        generalize ss[k] = s at *
        have HSN := Lib.hid hsn
        have HLN := Lib.hid (stK_len ss at_ k)
        clear hsn
        have i1 : (0 : Int) ≤ (k : Int) := by omega
        have i2 : (k : Int) < (n : Int) := by omega
        have hO : Hid (SrSt w u8 (stK ss at_ k) wr) := HR
        have hsz := HR.out.own.lt
        have HFA := Lib.hid (show u8.ownBlock ≠ some wr.heap.size from fun e => by have := (hsz _ e).2; omega)
        clear hsz
        have hlo := HR.out.below.size
        by_cases hka : k = at_
        · have dk : ((k : Int) == ((m : Int) - 1)) = true := by have := HEA.out; rw [beq_iff_eq]; omega
          have HSN2 := Lib.hid (show stK ss at_ (k + 1) = stK ss at_ k ++ [(s.fr, s.nu, s.to_, 2, s.hv)] by rw [HSN.out, if_pos hka]; rfl)
          clear HSN hka
          generalize hst_ : stK ss at_ k = out at *
          have HST := Lib.hid hst_
          clear hst_
          go_upto_region 24 with (fail)
          refine wp_abs (fun wx => SrSt w u8 out wx ∧ Blk wx wr.heap.size 37 #[.int .i64 s.fr, .int .i64 s.nu, .int .i64 s.to_, .int .i64 2, .bool s.hv]) ⟨HR.out.on ((Below.refl _ _).alloc (Nat.le_refl _) _), Blk.new _ _ _⟩ ?_
          clear x0 x1 x2 x3 x4 hO HR
          generalize wr.heap.size = xb at *
          rintro wx hX
          have HX := Lib.hid hX
          clear hX
          have x0 : wx.cell? ⟨xb, 0, none⟩ = some (.int .i64 s.fr) := HX.out.2.cell 0
          have x1 : wx.cell? ⟨xb, 1, none⟩ = some (.int .i64 s.nu) := HX.out.2.cell 1
          have x2 : wx.cell? ⟨xb, 2, none⟩ = some (.int .i64 s.to_) := HX.out.2.cell 2
          have x3 : wx.cell? ⟨xb, 3, none⟩ = some (.int .i64 2) := HX.out.2.cell 3
          have x4 : wx.cell? ⟨xb, 4, none⟩ = some (.bool s.hv) := HX.out.2.cell 4
          obtain ⟨A8, c8, e8⟩ := own_slice HX.out.1.own
          subst e8
          have hol : out.length = k := HLN.out
          rw [hol] at HX
          rw [hol]
          go_wp2_with (at_builtin; go_must (refine wpList_append_rd _ rfl _ _ 23 rfl w.heap.size 37 k0 (.agg #[.int .i64 0, .int .i64 0, .int .i64 0, .int .i64 0, .bool false]) 5 40 Try.underlying23 HK.out.1 HK.out.2.1 HK.out.2.2.1 HK.out.2.2.2 rfl (by decide) _ _ _ rfl (HX.out.1.own.alloc _) _ _ _ 1 1 _ rfl (rd_new_eq rfl rfl) (by simp [Value.oneCell']) (by unfold maxLen; omega) (by omega) (by have := HX.out.1.below.size; simp; omega) ?_; intro v4 w4 _ hown hgrow _; have HE := Lib.hid ((HX.out.1.on ((Below.refl _ _).alloc (Nat.le_refl _) _)).app (s.fr, s.nu, s.to_, 2, s.hv) hown hgrow); clear hown hgrow))
          go_roundw
          case rel => exact ⟨k + 1, by omega, by go_num, Lib.hid (by rw [HSN2.out]; exact HE.out)⟩
          case measure => simp [intOf]; omega
        · have dk : ((k : Int) == ((m : Int) - 1)) = false := beq_eq_false_iff_ne.2 (by have := HEA.out; omega)
          have HSN2 := Lib.hid (show stK ss at_ (k + 1) = stK ss at_ k ++ [(s.fr, s.nu, s.to_, 0, s.hv)] by rw [HSN.out, if_neg hka]; rfl)
          clear HSN hka
          generalize hst_ : stK ss at_ k = out at *
          have HST := Lib.hid hst_
          clear hst_
          go_upto_region 24 with (fail)
          refine wp_abs (fun wx => SrSt w u8 out wx ∧ Blk wx wr.heap.size 37 #[.int .i64 s.fr, .int .i64 s.nu, .int .i64 s.to_, .int .i64 0, .bool s.hv]) ⟨HR.out.on ((Below.refl _ _).alloc (Nat.le_refl _) _), Blk.new _ _ _⟩ ?_
          clear x0 x1 x2 x3 x4 hO HR
          generalize wr.heap.size = xb at *
          rintro wx hX
          have HX := Lib.hid hX
          clear hX
          have x0 : wx.cell? ⟨xb, 0, none⟩ = some (.int .i64 s.fr) := HX.out.2.cell 0
          have x1 : wx.cell? ⟨xb, 1, none⟩ = some (.int .i64 s.nu) := HX.out.2.cell 1
          have x2 : wx.cell? ⟨xb, 2, none⟩ = some (.int .i64 s.to_) := HX.out.2.cell 2
          have x3 : wx.cell? ⟨xb, 3, none⟩ = some (.int .i64 0) := HX.out.2.cell 3
          have x4 : wx.cell? ⟨xb, 4, none⟩ = some (.bool s.hv) := HX.out.2.cell 4
          obtain ⟨A8, c8, e8⟩ := own_slice HX.out.1.own
          subst e8
          have hol : out.length = k := HLN.out
          rw [hol] at HX
          rw [hol]
          go_wp2_with (at_builtin; go_must (refine wpList_append_rd _ rfl _ _ 23 rfl w.heap.size 37 k0 (.agg #[.int .i64 0, .int .i64 0, .int .i64 0, .int .i64 0, .bool false]) 5 40 Try.underlying23 HK.out.1 HK.out.2.1 HK.out.2.2.1 HK.out.2.2.2 rfl (by decide) _ _ _ rfl (HX.out.1.own.alloc _) _ _ _ 1 1 _ rfl (rd_new_eq rfl rfl) (by simp [Value.oneCell']) (by unfold maxLen; omega) (by omega) (by have := HX.out.1.below.size; simp; omega) ?_; intro v4 w4 _ hown hgrow _; have HE := Lib.hid ((HX.out.1.on ((Below.refl _ _).alloc (Nat.le_refl _) _)).app (s.fr, s.nu, s.to_, 0, s.hv) hown hgrow); clear hown hgrow))
          go_roundw
          case rel => exact ⟨k + 1, by omega, by go_num, Lib.hid (by rw [HSN2.out]; exact HE.out)⟩
          case measure => simp [intOf]; omega
      · obtain rfl : k = n := by omega
        obtain ⟨A8, c8, e8⟩ := own_slice HR.out.own
        subst e8
        have di : ¬ ((k : Int) < (k : Int)) := by omega
        go_wp2
        go_ret2
        exact ⟨.slice A8 (stK ss at_ k).length c8, by rw [HE0.out]; rfl, by rw [HSS.out]; exact HR.out.own, HR.out.below⟩
end Go.Proofs.Ytogofchpocoebaa
