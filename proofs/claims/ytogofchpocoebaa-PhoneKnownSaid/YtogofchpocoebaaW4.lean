/- syllable.Split: a row parted into its syllables. -/
import Derived.Test.YtogofchpocoebaaW3
import Derived.Test.YtogofchpocoebaaGen
namespace Go.Proofs.Ytogofchpocoebaa
open Go.RowKit Go.Maps

theorem info37 : (Try.prog.info? 37).map (fun i => (i.zero, i.size, i.bytes)) = some (some (.agg #[.int .i64 0, .int .i64 0, .int .i64 0, .int .i64 0, .bool false]), 5, 40) := by kernel_rfl
theorem blk_of_own {w : World} {base : Nat} {e : TypeId} {sz n : Nat} {v : Value} {xs : List Value} {k : Nat} (h : w.ownsRow base e sz v n xs) (hk : v.ownBlock = some k) : ∃ cs, Blk w k e cs := by
  rcases h.2 with ⟨rfl, _⟩ | ⟨g', cap, cur, rfl, _, hg, _⟩
  · cases hk
  · injection hk with hk
    subst hk
    exact ⟨cur, hg⟩
theorem blk_type {w : World} {k : Nat} {t u : TypeId} {a b : Array Value} (h : Blk w k t a) (k2 : Blk w k u b) : t = u := by
  unfold Blk at h k2
  rw [h] at k2
  injection k2 with e
  injection e
/-- memory while Split runs: the row's box, the syllables so far -/
structure SpSt (w0 : World) (A : Option Addr) (n c : Nat) (v : Value) (out : List Sy) (W : World) : Prop where
  box : Blk W w0.heap.size 22 #[.slice A n c]
  own : W.ownsRow w0.heap.size 37 5 v out.length (sys out)
  below : Below w0.heap.size w0 W
section
variable {w0 : World} {A : Option Addr} {n c : Nat} {v v' : Value} {out : List Sy} {W W' : World}
theorem SpSt.on (h : SpSt w0 A n c v out W) (hb : Below W.heap.size W W') : SpSt w0 A n c v out W' :=
  ⟨h.box.below hb h.box.lt, own_stay h.own (Only.of_below hb _), h.below.trans (hb.mono h.below.size)⟩
theorem SpSt.app {m : Nat} (h : SpSt w0 A n c v out W) (hm : out.length = m) (x : Sy) (ho : W'.ownsRow w0.heap.size 37 5 v' (m + 1) (sys out ++ syC x)) (hg : W.grownBy W' v.ownBlock) : SpSt w0 A n c v' (out ++ [x]) W' := by
  subst hm
  have hO : Only (fun k => v.ownBlock = some k) W W' := (Only.refl _ _).grown hg (fun _ hg => .inl hg)
  refine ⟨h.box.only hO (fun hs => ?_), ?_, h.below.trans (hO.below h.below.size fun k hk hs => by have := (h.own.lt _ hs).1; omega)⟩
  · obtain ⟨c2, h2⟩ := blk_of_own h.own hs
    have := blk_type h.box h2
    cases this
  · rw [sys_append, List.length_append]
    simpa [sys] using ho
theorem SpSt.far (h : SpSt w0 A n c v out W) {p : Addr} (hv : v.ownBlock ≠ some p.block) (hp : w0.heap.size < p.block) (u : Value) : SpSt w0 A n c v out (W.setCell p u) :=
  ⟨h.box.far (by omega) u, own_far h.own hv u, h.below.setCell (by omega) _⟩
theorem SpSt.put {g cap m : Nat} (h : SpSt w0 A n c (.slice (some ⟨g, 0, none⟩) m cap) out W) (hm : out.length = m) (i : Nat) (u : Value) (out' : List Sy) (he : (sys out).set i u = sys out') (hl : out'.length = m) : SpSt w0 A n c (.slice (some ⟨g, 0, none⟩) m cap) out' (W.setCell ⟨g, i, none⟩ u) := by
  subst hm
  have hg : w0.heap.size ≤ g := (h.own.lt g rfl).1
  refine ⟨h.box.far (fun e => ?_) _, ?_, h.below.setCell hg _⟩
  · obtain ⟨c2, h2⟩ := blk_of_own h.own rfl
    dsimp only at e
    subst e
    have := blk_type h.box h2
    cases this
  · rw [hl, ← he]
    exact own_set h.own i u
end
theorem bdrew {B : Nat} {w w' : World} (h : Below B w w') : Below B w w'.drew := ⟨h.os, h.tape, h.output, h.size, h.block⟩
theorem own_addr {w : World} {base : Nat} {e : TypeId} {size : Nat} {A : Option Addr} {c n : Nat} {xs : List Value} (h : w.ownsRow base e size (.slice A n c) n xs) (hn : 0 < n) : ∃ g, A = some ⟨g, 0, none⟩ ∧ base ≤ g ∧ g < w.heap.size := by
  rcases h.2 with ⟨h0, hz⟩ | ⟨g, cap, cur, hv, hb, hg, _⟩
  · injection h0 with h1 h2 h3; omega
  · injection hv with hv
    exact ⟨g, hv, hb, (Array.getElem?_eq_some_iff.1 hg).1⟩
theorem own_cells {W : World} {base g c : Nat} {out : List Sy} (h : W.ownsRow base 37 5 (.slice (some ⟨g, 0, none⟩) out.length c) out.length (sys out)) {j : Nat} (hj : j < out.length) :
    W.cell? ⟨g, j * 5, none⟩ = some (.int .i64 (out.getD j sy0).fr) ∧ W.cell? ⟨g, j * 5 + 1, none⟩ = some (.int .i64 (out.getD j sy0).nu) ∧ W.cell? ⟨g, j * 5 + 2, none⟩ = some (.int .i64 (out.getD j sy0).to_) ∧ W.cell? ⟨g, j * 5 + 3, none⟩ = some (.int .i64 (out.getD j sy0).st) ∧ W.cell? ⟨g, j * 5 + 4, none⟩ = some (.bool (out.getD j sy0).hv) := by
  obtain ⟨b', o', hk, eA, _, _, z0, z1, z2, z3, z4⟩ := (own_rd h).sy hj
  cases eA
  rw [Nat.zero_add] at z0 z1 z2 z3 z4
  have e : out.getD j sy0 = out[j] := by rw [List.getD_eq_getElem?_getD, List.getElem?_eq_getElem hk]; rfl
  rw [e]
  exact ⟨z0, z1, z2, z3, z4⟩
theorem syl_nu {l : List Ph} {ns : List Nat} {e : Nat} {hv : Sy → Bool} {j : Nat} (h : j < ns.length) : ((sylL l ns e hv).getD j sy0).nu = (ns.getD j 0 : Nat) := by
  rw [List.getD_eq_getElem?_getD, sylL_at h]
  rfl
theorem nucs_step (l : List Ph) (k : Nat) : nucs l (k + 1) = nucs l k ++ (if vowF (l.getD k ph0) then [k] else []) := rfl

set_option maxHeartbeats 8000000 in
set_option maxRecDepth 100000 in
theorem split_any (A : Option Addr) (n c L B : Nat) (l : List Ph) (w : World) (h : Rd w L B 3 A n (phs l)) (hB : B ≤ w.heap.size) (hnc : n ≤ c) (hf : ∀ p ∈ l, fitP p) :
    Calls Try.prog 84 #[.slice A n c] w fun e w' => ∃ v, e = .returned (.tuple #[v, .int .i64 (spE l)]) ∧ w'.ownsRow w.heap.size 37 5 v (spL l).length (sys (spL l)) ∧ Below w.heap.size w w' := by
  have hl := h.len_ph
  obtain ⟨k0, hk0, kz0, kz1, kz2⟩ := info_parts info37
  have HK := Lib.hid (And.intro hk0 (And.intro kz0 (And.intro kz1 kz2)))
  have HE := Lib.hid (show spE l = if 128 < l.length then 3 else if l.all isF then if nucs l l.length = [] then 110 else if 64 < (nucs l l.length).length then 3 else 0 else 2 from rfl)
  have HSL := Lib.hid (show spL l = if spE l = 0 then sylL l (nucs l l.length) l.length (heavyF l) else [] from rfl)
  have H := Lib.hid (And.intro h hf)
  have bad : ∀ e : Int, e ≠ 0 → spE l = e → spL l = [] := fun e h0 he => by rw [HSL.out, if_neg (by rw [he]; exact h0)]
  have HBAD := Lib.hid bad
  clear h hf hk0 kz0 kz1 kz2 bad
  by_cases t1 : 128 < n
  · have b1 : decide ((128 : Int) < (n : Int)) = true := by simp; omega
    have he : spE l = 3 := by rw [HE.out, if_pos (by omega)]
    rw [HBAD.out 3 (by decide) he, he]
    clear he
    go_enter Try.func84, Try.ntmps84
    go_wp2
    refine wp_scope_straight ?_
    go_wp2
    rw [Exit.noGoto_ret]
    go_ret2
    exact ⟨_, rfl, World.ownsRow_nil _ _ _ _, (Below.refl _ _).alloc (Nat.le_refl _) _⟩
  have b1 : decide ((128 : Int) < (n : Int)) = false := by simp; omega
  have HE2 := Lib.hid (show spE l = if l.all isF then if nucs l l.length = [] then 110 else if 64 < (nucs l l.length).length then 3 else 0 else 2 by rw [HE.out, if_neg (by omega)])
  clear HE
  cases hall : l.all isF with
  | false =>
    have he : spE l = 2 := by rw [HE2.out, hall]; rfl
    have HPH := Lib.hid hall
    rw [HBAD.out 2 (by decide) he, he]
    clear he hall
    go_enter Try.func84, Try.ntmps84
    go_wp2
    refine wp_scope_straight ?_
    go_wp2_with fail
    refine (phones_any A n c L B l _ (H.out.1.below ((Below.refl _ _).alloc (Nat.le_refl _) _) hB) (Nat.le_trans hB (by simp)) (by unfold maxLen; omega) H.out.2).mono ?_
    rintro e w1 ⟨rfl, hb⟩
    rw [HPH.out]
    have H1 := Lib.hid ((((Below.refl _ w).alloc (Nat.le_refl _) _)).trans (hb.mono (by simp)))
    clear hb
    go_wp2
    rw [Exit.noGoto_ret]
    go_ret2
    exact ⟨_, rfl, World.ownsRow_nil _ _ _ _, H1.out⟩
  | true =>
    have HPH := Lib.hid hall
    have HE3 := Lib.hid (show spE l = if nucs l l.length = [] then 110 else if 64 < (nucs l l.length).length then 3 else 0 by rw [HE2.out, hall]; rfl)
    clear hall HE2
    have wf : ∀ k, Fence.wide.fn k := fun _ => trivial
    have wd : Fence.wide.depth = none := rfl
    go_enter Try.func84, Try.ntmps84
    go_wp2
    refine wp_scope_straight ?_
    go_wp2_with fail
    refine (phones_any A n c L B l _ (H.out.1.below ((Below.refl _ _).alloc (Nat.le_refl _) _) hB) (Nat.le_trans hB (by simp)) (by unfold maxLen; omega) H.out.2).mono ?_
    rintro e w1 ⟨rfl, hb⟩
    rw [HPH.out]
    have H1 := Lib.hid (show SpSt w A n c (.slice none 0 0) (sylL l (nucs l 0) 0 hv0) w1 from ⟨(Blk.new _ _ _).below hb (by simp), World.ownsRow_nil _ _ _ _, (((Below.refl _ w).alloc (Nat.le_refl _) _)).trans (hb.mono (by simp))⟩)
    have c0 : w1.cell? ⟨w.heap.size, 0, none⟩ = some (.slice A n c) := H1.out.box.cell 0
    clear hb
    go_wp2
    go_step3
    go_wp2
    clear c0
    go_loopw [4, 6, 7, 8, 9, 20] (fun v4 _ _ _ _ v20 wr => ∃ k : Nat, k ≤ n ∧ v20 = .int .i64 k ∧ Hid (SpSt w A n c v4 (sylL l (nucs l k) 0 hv0) wr)) (fun _ _ _ _ _ v20 _ => n - (intOf v20).toNat)
    case atStart => exact ⟨0, by omega, rfl, H1⟩
    case round =>
      clear H1
      obtain ⟨k, hk, rfl, HR⟩ := hrel
      by_cases hlt : k < n
      · obtain ⟨b, o, hl0, rfl, hL, hB2, x0, x1, x2⟩ := (H.out.1.below HR.out.below hB).ph hlt
        have hv : vowF (l.getD k ph0) = vowF l[k] := by rw [List.getD_eq_getElem?_getD, List.getElem?_eq_getElem hl0]; rfl
        have hns := nucs_step l k
        rw [hv] at hns
        have hip : isF l[k] = true := List.all_eq_true.1 HPH.out _ (List.getElem_mem hl0)
        generalize l[k] = p at *
        have HNS := Lib.hid (And.intro hns hip)
        clear hns hv hL hip
        have i1 : (0 : Int) ≤ (k : Int) := by omega
        have i2 : (k : Int) < (n : Int) := by omega
        go_upto_region 10 with (fail)
        refine wp_abs (fun wx => SpSt w (some ⟨b, o, none⟩) n c u4 (sylL l (nucs l k) 0 hv0) wx ∧ Blk wx wr.heap.size 43 #[.int .i32 p.1, .bool p.2.1, .int .i32 p.2.2]) ⟨HR.out.on ((Below.refl _ _).alloc (Nat.le_refl _) _), Blk.new _ _ _⟩ ?_
        clear x0 x1 x2
        generalize wr.heap.size = xb at *
        rintro wx ⟨hb, hX⟩
        have x0 : wx.cell? ⟨xb, 0, none⟩ = some (.int .i32 p.1) := hX.cell 0
        have x1 : wx.cell? ⟨xb, 1, none⟩ = some (.bool p.2.1) := hX.cell 1
        have x2 : wx.cell? ⟨xb, 2, none⟩ = some (.int .i32 p.2.2) := hX.cell 2
        have HX0 := Lib.hid hb
        clear hb hX HR
        go_wp2_with fail
        refine (sylVowel_any p _ HNS.out.2).mono ?_
        rintro e wz ⟨rfl, hb⟩
        have HX := Lib.hid (HX0.out.on hb)
        clear hb x0 x1 x2 HX0
        cases hv : vowF p with
        | false =>
          have HF := Lib.hid (show nucs l (k + 1) = nucs l k by rw [HNS.out.1, hv]; simp)
          clear hv
          go_wp2
          go_roundw
          case rel => exact ⟨k + 1, by omega, by go_num, Lib.hid (by rw [HF.out]; exact HX.out)⟩
          case measure => simp [intOf]; omega
        | true =>
          have HF := Lib.hid (show nucs l (k + 1) = nucs l k ++ [k] by rw [HNS.out.1, hv]; rfl)
          clear hv
          obtain ⟨A8, c8, e8⟩ := own_slice HX.out.own
          subst e8
          have hlen := sylL_len l (nucs l k) 0 hv0
          have hnk := nucs_len_le l k
          go_upto_region 12 with (fail)
          refine wp_abs (fun wx => SpSt w (some ⟨b, o, none⟩) n c (.slice A8 (sylL l (nucs l k) 0 hv0).length c8) (sylL l (nucs l k) 0 hv0) wx ∧ Blk wx wz.heap.size 37 #[.int .i64 0, .int .i64 k, .int .i64 0, .int .i64 0, .bool false]) ⟨HX.out.on ((Below.refl _ _).alloc (Nat.le_refl _) _), Blk.new _ _ _⟩ ?_
          have HYZ := Lib.hid (And.intro HX.out.box.lt (fun g h => (HX.out.own.lt g h).2))
          generalize wz.heap.size = yb at *
          clear HX
          rintro wy hY
          have HY := Lib.hid hY
          clear hY
          obtain ⟨ns, hns⟩ : ∃ ns, ns = nucs l k := ⟨_, rfl⟩
          rw [← hns] at HY HF hlen hnk ⊢
          have HNSK := Lib.hid hns
          clear hns
          by_cases hm : ns = []
          · subst hm
            have y0 : wy.cell? ⟨yb, 0, none⟩ = some (.int .i64 0) := HY.out.2.cell 0
            have y1 : wy.cell? ⟨yb, 1, none⟩ = some (.int .i64 k) := HY.out.2.cell 1
            have y2 : wy.cell? ⟨yb, 2, none⟩ = some (.int .i64 0) := HY.out.2.cell 2
            have y3 : wy.cell? ⟨yb, 3, none⟩ = some (.int .i64 0) := HY.out.2.cell 3
            have y4 : wy.cell? ⟨yb, 4, none⟩ = some (.bool false) := HY.out.2.cell 4
            have e0 : sylL l [] 0 hv0 = [] := rfl
            rw [e0] at HY
            try rw [e0]
            clear hlen
            have dm : decide ((0 : Int) < (([] : List Sy).length : Int)) = false := rfl
            have dm2 : ¬ ((0 : Int) < (([] : List Sy).length : Int)) := by simp
            go_wp2_with (at_builtin; go_must (refine wpList_append_rd _ rfl _ _ 23 rfl w.heap.size 37 k0 (.agg #[.int .i64 0, .int .i64 0, .int .i64 0, .int .i64 0, .bool false]) 5 40 Try.underlying23 HK.out.1 HK.out.2.1 HK.out.2.2.1 HK.out.2.2.2 rfl (by decide) _ _ _ rfl (HY.out.1.own.alloc _) _ _ _ 1 1 _ rfl (rd_new_eq rfl rfl) (by simp [Value.oneCell']) (by unfold maxLen; omega) (by omega) (by have := HY.out.1.below.size; simp; omega) ?_; intro v4 w4 _ hown hgrow _; have HE := Lib.hid ((HY.out.1.on ((Below.refl _ _).alloc (Nat.le_refl _) _)).app rfl ((0, (k : Int), 0, 0, false)) hown hgrow); clear hown hgrow))
            go_roundw
            case rel => exact ⟨k + 1, by omega, by go_num, Lib.hid (by rw [HF.out]; exact HE.out)⟩
            case measure => simp [intOf]; omega
          · have hpos : 0 < ns.length := List.length_pos_iff.2 hm
            obtain ⟨g, rfl, hg1, hg2⟩ := own_addr HY.out.1.own (by rw [hlen]; exact hpos)
            have hat := nucs_at (l := l) (k := k) (j := ns.length - 1) (by rw [← HNSK.out]; omega)
            rw [← HNSK.out] at hat
            obtain ⟨M, hM⟩ : ∃ M, ns.length = M + 1 := ⟨ns.length - 1, by omega⟩
            have hM1 : ns.length - 1 = M := by omega
            rw [hM1] at hat
            have hnu := syl_nu (l := l) (ns := ns) (e := 0) (hv := hv0) (j := M) (by omega)
            have hFN := syl_snoc (l := l) (ns := ns) (i := k) hpos
            rw [hM1] at hFN
            generalize ns.getD M 0 = a at *
            have hak := hat.1
            generalize sylL l ns 0 hv0 = out at *
            have hoM : out.length = M + 1 := by omega
            obtain ⟨z0, z1, z2, z3, z4⟩ := own_cells HY.out.1.own (j := M) (by omega)
            rw [hnu] at z1
            have HFN := Lib.hid hFN
            have HOM := Lib.hid hoM
            clear hFN hat hm hlen hM1 hnu z0 z3 z4
            rw [hoM] at HY
            first | rw [hM] | rw [hoM]
            have dm : decide ((0 : Int) < ((M + 1 : Nat) : Int)) = true := decide_eq_true (by omega)
            have wm : IntKind.i64.wrap (((M + 1 : Nat) : Int) - 1) = (M : Int) := (IntWalk.i64_in _ (by omega)).trans (by omega)
            have m1 : (0 : Int) ≤ (M : Int) := by omega
            have m2 : (M : Int) < ((M + 1 : Nat) : Int) := by omega
            have HGY := Lib.hid (And.intro HYZ.out.1 (HYZ.out.2 g rfl))
            have hgy := HGY.out.2
            have hwy := HGY.out.1
            have hwg : w.heap.size ≠ yb := by omega
            go_wp2_with fail
            refine (border_any w.heap.size b o n c L B l a k _ HY.out.1.box (H.out.1.below HY.out.1.below hB) (Nat.le_trans hB HY.out.1.below.size) (by omega) hnc H.out.2 hak hlt).mono ?_
            rintro e w3 ⟨rfl, hb⟩
            have H3 := Lib.hid (And.intro (HY.out.1.on hb) (HY.out.2.below hb HY.out.2.lt))
            have z2' := (hb.cell (p := ⟨g, M * 5 + 2, none⟩) hg2).trans z2
            have y0 : w3.cell? ⟨yb, 0, none⟩ = some (.int .i64 0) := H3.out.2.cell 0
            have y1 : w3.cell? ⟨yb, 1, none⟩ = some (.int .i64 k) := H3.out.2.cell 1
            have y2 : w3.cell? ⟨yb, 2, none⟩ = some (.int .i64 0) := H3.out.2.cell 2
            have y3 : w3.cell? ⟨yb, 3, none⟩ = some (.int .i64 0) := H3.out.2.cell 3
            have y4 : w3.cell? ⟨yb, 4, none⟩ = some (.bool false) := H3.out.2.cell 4
            have f0 : w3.frozen? ⟨yb, 0, none⟩ = false := H3.out.2.frozen 0
            have ho3 := H3.out.1.own
            rw [HOM.out] at ho3
            have f2 : w3.frozen? ⟨g, M * 5 + 2, none⟩ = false := (own_at ho3 (i := M * 5 + 2) (by omega)).2
            clear ho3
            clear hb z1 z2 HY
            generalize hbf : bordF l a k = bf at *
            have HBF := Lib.hid hbf
            clear hbf
            go_upto_region 16 with (fail)
            trace_state
            refine wp_abs (fun wx => SpSt w (some ⟨b, o, none⟩) n c (.slice (some ⟨g, 0, none⟩) (M + 1) c8) (out.set M (setTo (out.getD M sy0) (bf : Nat))) wx ∧ Blk wx yb 37 #[.int .i64 bf, .int .i64 k, .int .i64 0, .int .i64 0, .bool false]) ⟨(H3.out.1.far (p := ⟨yb, 0, none⟩) (by simp [Value.ownBlock]; omega) hwy _).put HOM.out _ _ _ (by rw [sys_to _ _ _ (by rw [HOM.out]; omega)]) (by rw [List.length_set]; exact HOM.out), (by have := H3.out.2.set_ 0 (.int .i64 bf); simpa using this.far (p := ⟨g, M * 5 + 2, none⟩) (by simp; omega) _)⟩ ?_
            clear y0 y1 y2 y3 y4 f0 f2 z2' H3
            rintro wq hq
            have HQ := Lib.hid hq
            clear hq
            have y0 : wq.cell? ⟨yb, 0, none⟩ = some (.int .i64 bf) := HQ.out.2.cell 0
            have y1 : wq.cell? ⟨yb, 1, none⟩ = some (.int .i64 k) := HQ.out.2.cell 1
            have y2 : wq.cell? ⟨yb, 2, none⟩ = some (.int .i64 0) := HQ.out.2.cell 2
            have y3 : wq.cell? ⟨yb, 3, none⟩ = some (.int .i64 0) := HQ.out.2.cell 3
            have y4 : wq.cell? ⟨yb, 4, none⟩ = some (.bool false) := HQ.out.2.cell 4
            have HLS := Lib.hid (show (out.set M (setTo (out.getD M sy0) (bf : Nat))).length = M + 1 by rw [List.length_set]; exact HOM.out)
            have HFN2 := Lib.hid (show sylL l (nucs l (k + 1)) 0 hv0 = out.set M (setTo (out.getD M sy0) (bf : Nat)) ++ [((bf : Int), (k : Int), 0, 0, false)] by rw [HF.out, HFN.out])
            clear HFN
            generalize out.set M (setTo (out.getD M sy0) (bf : Nat)) = out2 at *
            go_wp2_with (at_builtin; go_must (refine wpList_append_rd _ rfl _ _ 23 rfl w.heap.size 37 k0 (.agg #[.int .i64 0, .int .i64 0, .int .i64 0, .int .i64 0, .bool false]) 5 40 Try.underlying23 HK.out.1 HK.out.2.1 HK.out.2.2.1 HK.out.2.2.2 rfl (by decide) _ _ _ rfl ((HLS.out ▸ HQ.out.1.own).alloc _) _ _ _ 1 1 _ rfl (rd_new_eq rfl rfl) (by simp [Value.oneCell']) (by unfold maxLen; omega) (by omega) (by have := HQ.out.1.below.size; simp; omega) ?_; intro v4 w4 _ hown hgrow _; have HE := Lib.hid ((HQ.out.1.on ((Below.refl _ _).alloc (Nat.le_refl _) _)).app HLS.out ((bf : Int), (k : Int), 0, 0, false) hown hgrow); clear hown hgrow))
            go_roundw
            case rel => exact ⟨k + 1, by omega, by go_num, Lib.hid (by rw [HFN2.out]; exact HE.out)⟩
            case measure => simp [intOf]; omega
      · have hkn : k = n := by omega
        subst hkn
        obtain ⟨A8, c8, e8⟩ := own_slice HR.out.own
        subst e8
        obtain ⟨ns, hns⟩ : ∃ ns, ns = nucs l k := ⟨_, rfl⟩
        have hns2 : nucs l l.length = ns := by rw [hns, hl]
        rw [hns2] at HE3 HSL
        have hns3 := nucs_len_le l k
        have HNU := Lib.hid (fun (j : Nat) (hj : j < ns.length) => show ns.getD j 0 < k by
          have := nucs_at (l := l) (k := k) (j := j) (by rw [← hns]; exact hj)
          rw [hns]; exact this.1)
        rw [← hns] at HR hns3 ⊢
        clear hns hns2
        have hlen := sylL_len l ns 0 hv0
        have hlen2 : (sylL l ns 0 hv0).length = ns.length := hlen
        rw [hlen2]
        clear hlen
        by_cases hm : ns = []
        · have he : spE l = 110 := by rw [HE3.out, if_pos hm]
          have HEE := Lib.hid (And.intro he (HBAD.out 110 (by decide) he))
          have dm : ((ns.length : Int) == 0) = true := by rw [hm]; rfl
          have dm2 : ns.length = 0 := by rw [hm]; rfl
          clear he hm
          go_wp2
          rw [Exit.noGoto_ret]
          go_ret2
          exact ⟨.slice none 0 0, by rw [HEE.out.1]; rfl, by rw [HEE.out.2]; exact World.ownsRow_nil _ _ _ _, HR.out.below⟩
        have hpos : 0 < ns.length := List.length_pos_iff.2 hm
        have HE4 := Lib.hid (show spE l = if 64 < ns.length then 3 else 0 by rw [HE3.out, if_neg hm])
        have dm : ((ns.length : Int) == 0) = false := beq_eq_false_iff_ne.2 (by omega)
        clear hm
        by_cases hm : 64 < ns.length
        · have he : spE l = 3 := by rw [HE4.out, if_pos hm]
          have HEE := Lib.hid (And.intro he (HBAD.out 3 (by decide) he))
          have d2 : decide ((64 : Int) < (ns.length : Int)) = true := decide_eq_true (by omega)
          clear he
          go_wp2
          rw [Exit.noGoto_ret]
          go_ret2
          exact ⟨.slice none 0 0, by rw [HEE.out.1]; rfl, by rw [HEE.out.2]; exact World.ownsRow_nil _ _ _ _, HR.out.below⟩
        have d2 : decide ((64 : Int) < (ns.length : Int)) = false := decide_eq_false (by omega)
        have HEE := Lib.hid (show spE l = 0 by rw [HE4.out, if_neg hm])
        have HSS := Lib.hid (show spL l = sylM l ns k (heavyF l) ns.length by rw [HSL.out, if_pos HEE.out, sylM_end, hl])
        obtain ⟨g, rfl, hg1, hg2⟩ := own_addr HR.out.own (by rw [hlen2]; exact hpos)
        have hown := HR.out.own
        obtain ⟨z0, z1, z2, z3, z4⟩ := own_cells hown (j := ns.length - 1) (by omega)
        rw [hlen2] at hown
        have f2 : wr.frozen? ⟨g, (ns.length - 1) * 5 + 2, none⟩ = false := (own_at hown (i := (ns.length - 1) * 5 + 2) (by omega)).2
        have c0 : wr.cell? ⟨w.heap.size, 0, none⟩ = some (.slice A k c) := HR.out.box.cell 0
        have HOM := Lib.hid hlen2
        have HEND := Lib.hid (show (sylL l ns 0 hv0).set (ns.length - 1) (setTo ((sylL l ns 0 hv0).getD (ns.length - 1) sy0) (k : Nat)) = sylM l ns k (heavyF l) 0 by rw [syl_end hpos, sylM_zero])
        have HLM := Lib.hid (fun i => sylM_len l ns k (heavyF l) i)
        clear hown z0 z1 z3 z4 hlen2 HE3 HE4 HSL HBAD
        generalize sylL l ns 0 hv0 = out at *
        obtain ⟨K, hM⟩ : ∃ K, ns.length = K := ⟨_, rfl⟩
        obtain ⟨M, hM1⟩ : ∃ M, ns.length - 1 = M := ⟨_, rfl⟩
        have HMM := Lib.hid hM
        have hk1 : M < K := by omega
        have hk2 : K ≤ M + 1 := by omega
        rw [hM1] at z2 f2 HEND
        rw [hM] at HOM HSS d2 dm hpos hm hns3 HNU ⊢
        clear hM1 hM
        have wm : IntKind.i64.wrap ((K : Int) - 1) = (M : Int) := (IntWalk.i64_in _ (by omega)).trans (by omega)
        have m1 : (0 : Int) ≤ (M : Int) := by omega
        have m2 : (M : Int) < (K : Int) := by omega
        have HR0 := Lib.hid (show SpSt w A k c (.slice (some ⟨g, 0, none⟩) K c8) out wr from HOM.out ▸ HR.out)
        clear HR
        have HLA := Lib.hid HLM.out
        go_upto_region 23 with (fail)
        refine wp_abs (fun wx => SpSt w A k c (.slice (some ⟨g, 0, none⟩) K c8) (sylM l ns k (heavyF l) 0) wx) (HR0.out.put HOM.out _ _ _ (by rw [sys_to _ _ _ (by rw [HOM.out]; omega), HEND.out]) (by rw [HLM.out]; exact HMM.out)) ?_
        clear z2 f2 c0 HR0
        rintro wq hq
        have HQ := Lib.hid hq
        clear hq
        go_wp2
        go_loopw [10, 72] (fun _ v72 wr => ∃ i : Nat, i ≤ K ∧ v72 = .int .i64 i ∧ Hid (SpSt w A k c (.slice (some ⟨g, 0, none⟩) K c8) (sylM l ns k (heavyF l) i) wr)) (fun _ v72 _ => K - (intOf v72).toNat)
        case atStart => exact ⟨0, by omega, rfl, HQ⟩
        case round =>
          clear HQ
          obtain ⟨i, hi, rfl, HR⟩ := hrel
          by_cases hlt : i < K
          · have hex := sylM_at (l := l) (ns := ns) (e := k) (i := i) (hv := heavyF l) (k := i) (by rw [HMM.out]; omega)
            rw [if_neg (Nat.lt_irrefl _)] at hex
            have hel : (sylM l ns k (heavyF l) i).getD i sy0 = sylK l ns k hv0 i := by rw [List.getD_eq_getElem?_getD, hex]; rfl
            have hle : (sylM l ns k (heavyF l) i).length = K := by rw [HLM.out]; exact HMM.out
            obtain ⟨z0, z1, z2, z3, z4⟩ := own_cells (by rw [hle]; have := HR.out.own; rw [hle] at this; exact this) (j := i) (by omega)
            rw [hel] at z0 z1 z2 z3 z4
            have hown := HR.out.own
            rw [hle] at hown
            have f4 : wr.frozen? ⟨g, i * 5 + 4, none⟩ = false := (own_at hown (i := i * 5 + 4) (by omega)).2
            have c0 : wr.cell? ⟨w.heap.size, 0, none⟩ = some (.slice A k c) := HR.out.box.cell 0
            have HST := Lib.hid (sylM_step (l := l) (ns := ns) (e := k) (i := i) (hv := heavyF l) (by rw [HMM.out]; omega))
            rw [hel] at HST
            have HNUI := Lib.hid (show 0 ≤ (sylK l ns k hv0 i).nu ∧ (sylK l ns k hv0 i).nu < (k : Int) by
              have := HNU.out i (by omega)
              show (0 : Int) ≤ ((ns.getD i 0 : Nat) : Int) ∧ ((ns.getD i 0 : Nat) : Int) < (k : Int)
              omega)
            have HLE := Lib.hid hle
            have HEL := Lib.hid hel
            clear hown hel hle hex
            generalize sylK l ns k hv0 i = s at *
            have i1 : (0 : Int) ≤ (i : Int) := by omega
            have i2 : (i : Int) < (K : Int) := by omega
            go_upto_region 26 with (fail)
            have hlw := HR.out.box.lt
            have hgl := (HR.out.own.lt g rfl).2
            have HK := Lib.hid (fun (W' : World) (hb : Below wr.heap.size wr W') => show W'.cell? ⟨w.heap.size, 0, none⟩ = some (.slice A k c) ∧ W'.cell? ⟨g, i * 5, none⟩ = some (.int .i64 s.fr) ∧ W'.cell? ⟨g, i * 5 + 1, none⟩ = some (.int .i64 s.nu) ∧ W'.cell? ⟨g, i * 5 + 2, none⟩ = some (.int .i64 s.to_) ∧ W'.cell? ⟨g, i * 5 + 3, none⟩ = some (.int .i64 s.st) ∧ W'.cell? ⟨g, i * 5 + 4, none⟩ = some (.bool s.hv) from
              ⟨(hb.cell (p := ⟨w.heap.size, 0, none⟩) hlw).trans c0, (hb.cell (p := ⟨g, i * 5, none⟩) hgl).trans z0, (hb.cell (p := ⟨g, i * 5 + 1, none⟩) hgl).trans z1, (hb.cell (p := ⟨g, i * 5 + 2, none⟩) hgl).trans z2, (hb.cell (p := ⟨g, i * 5 + 3, none⟩) hgl).trans z3, (hb.cell (p := ⟨g, i * 5 + 4, none⟩) hgl).trans z4⟩)
            go_region_law (first
                | (go_simp
                   go_at_call 142
                   refine (heavy_any A k c L B l s _ (H.out.1.below (bdrew HR.out.below) hB) (Nat.le_trans hB HR.out.below.size) (by omega) HNUI.out.1 HNUI.out.2).mono ?_
                   rintro e wt ⟨rfl, hb⟩
                   have HT : Hid (Below wr.heap.size wr wt ∧ True) := Lib.hid ⟨(bdrew (Below.refl _ wr)).trans hb, trivial⟩
                   have c0 : wt.cell? ⟨w.heap.size, 0, none⟩ = some (.slice A k c) := (HK.out wt HT.out.1).1
                   have z0 : wt.cell? ⟨g, i * 5, none⟩ = some (.int .i64 s.fr) := (HK.out wt HT.out.1).2.1
                   have z1 : wt.cell? ⟨g, i * 5 + 1, none⟩ = some (.int .i64 s.nu) := (HK.out wt HT.out.1).2.2.1
                   have z2 : wt.cell? ⟨g, i * 5 + 2, none⟩ = some (.int .i64 s.to_) := (HK.out wt HT.out.1).2.2.2.1
                   have z3 : wt.cell? ⟨g, i * 5 + 3, none⟩ = some (.int .i64 s.st) := (HK.out wt HT.out.1).2.2.2.2.1
                   have z4 : wt.cell? ⟨g, i * 5 + 4, none⟩ = some (.bool s.hv) := (HK.out wt HT.out.1).2.2.2.2.2
                   have f4 : wt.frozen? ⟨g, i * 5 + 4, none⟩ = false := by
                     have h3 := (HR.out.on HT.out.1).own
                     rw [HLE.out] at h3
                     exact (own_at h3 (i := i * 5 + 4) (by omega)).2
                   clear hb))
            all_goals
              have HE := Lib.hid ((HR.out.on HT.out.1).put HLE.out (i * 5 + 4) (.bool (heavyF l s)) (sylM l ns k (heavyF l) (i + 1)) (by rw [sys_hv _ _ _ (by rw [HLE.out]; omega), HEL.out, HST.out]) (by rw [HLM.out]; exact HMM.out))
              clear c0 z0 z1 z2 z3 z4 f4 HT HK HR
              generalize wt.setCell ⟨g, i * 5 + 4, none⟩ (.bool (heavyF l s)) = wn at *
              go_wp2
              go_roundw
              case rel =>
                exact ⟨i + 1, by omega, by go_num, HE⟩
              case measure => simp [intOf]; omega
          · obtain rfl : i = K := by omega
            have di : ¬ ((i : Int) < (i : Int)) := by omega
            go_wp2
            go_ret2
            exact ⟨.slice (some ⟨g, 0, none⟩) i c8, by rw [HEE.out]; rfl, by rw [HSS.out]; exact HR.out.own, HR.out.below⟩
end Go.Proofs.Ytogofchpocoebaa
