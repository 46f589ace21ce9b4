/- The reference's Split. -/
import Derived.Test.YtogofchpocoebaaW24
import Derived.Test.YtogofchpocoebaaW4
import Derived.Deep.DeepMust
namespace Go.Proofs.Ytogofchpocoebaa
open Go.RowKit Go.Maps

theorem info3a : (Try.prog.info? 3).map (fun i => (i.zero, i.size, i.bytes)) = some (some (.int .i64 0), 1, 8) := by kernel_rfl
def nts (l : List Nat) : List Value := l.map fun (x : Nat) => Value.int .i64 (x : Int)
theorem nts_len (l : List Nat) : (nts l).length = l.length := by simp [nts]
theorem nts_at {W : World} {base g c : Nat} {ns : List Nat} (h : W.ownsRow base 3 1 (.slice (some ⟨g, 0, none⟩) ns.length c) ns.length (nts ns)) {j : Nat} (hj : j < ns.length) : W.cell? ⟨g, j, none⟩ = some (.int .i64 (ns.getD j 0 : Nat)) := by
  obtain ⟨b, o, e, hl, hb, hc⟩ := (own_rd h).2 (by omega)
  injection e with e
  injection e with ea eb
  subst ea eb
  have := hc j (.int .i64 (ns.getD j 0 : Nat)) (by unfold nts; rw [List.getElem?_map, List.getElem?_eq_getElem hj, List.getD_eq_getElem?_getD, List.getElem?_eq_getElem hj]; rfl)
  rwa [Nat.zero_add] at this
/-- memory while the reference's Split runs -/
structure RtSt (w0 : World) (v4 v6 : Value) (ns : List Nat) (out : List Sy) (W : World) : Prop where
  own4 : W.ownsRow w0.heap.size 3 1 v4 ns.length (nts ns)
  own6 : W.ownsRow w0.heap.size 37 5 v6 out.length (sys out)
  below : Below w0.heap.size w0 W
section
variable {w0 : World} {v4 v6 v4' v6' : Value} {ns : List Nat} {out : List Sy} {W W' : World}
theorem RtSt.on (h : RtSt w0 v4 v6 ns out W) (hb : Below W.heap.size W W') : RtSt w0 v4 v6 ns out W' :=
  ⟨own_stay h.own4 (Only.of_below hb _), own_stay h.own6 (Only.of_below hb _), h.below.trans (hb.mono h.below.size)⟩
theorem RtSt.apart (h : RtSt w0 v4 v6 ns out W) {k : Nat} (e : v4.ownBlock = some k) : v6.ownBlock ≠ some k := fun e2 => by
  obtain ⟨c1, h1⟩ := blk_of_own h.own4 e
  obtain ⟨c2, h2⟩ := blk_of_own h.own6 e2
  have := blk_type h1 h2
  cases this
theorem RtSt.far (h : RtSt w0 v4 v6 ns out W) {p : Addr} (h4 : v4.ownBlock ≠ some p.block) (h6 : v6.ownBlock ≠ some p.block) (hp : w0.heap.size ≤ p.block) (u : Value) : RtSt w0 v4 v6 ns out (W.setCell p u) :=
  ⟨own_far h.own4 h4 u, own_far h.own6 h6 u, h.below.setCell hp _⟩
theorem RtSt.app4 {m : Nat} (h : RtSt w0 v4 v6 ns out W) (hm : ns.length = m) (y : Nat) (ho : W'.ownsRow w0.heap.size 3 1 v4' (m + 1) (nts ns ++ [.int .i64 (y : Nat)])) (hg : W.grownBy W' v4.ownBlock) : RtSt w0 v4' v6 (ns ++ [y]) out W' := by
  subst hm
  have hO : Only (fun k => v4.ownBlock = some k) W W' := (Only.refl _ _).grown hg (fun _ hg => .inl hg)
  refine ⟨?_, own_only h.own6 hO (fun k _ _ hk hs => h.apart hs hk), h.below.trans (hO.below h.below.size fun k hk hs => by have := (h.own4.lt _ hs).1; omega)⟩
  rw [List.length_append]
  simpa [nts] using ho
theorem RtSt.app6 {m : Nat} (h : RtSt w0 v4 v6 ns out W) (hm : out.length = m) (y : Sy) (ho : W'.ownsRow w0.heap.size 37 5 v6' (m + 1) (sys out ++ syC y)) (hg : W.grownBy W' v6.ownBlock) : RtSt w0 v4 v6' ns (out ++ [y]) W' := by
  subst hm
  have hO : Only (fun k => v6.ownBlock = some k) W W' := (Only.refl _ _).grown hg (fun _ hg => .inl hg)
  refine ⟨own_only h.own4 hO (fun k _ _ hk hs => h.apart hk hs), ?_, h.below.trans (hO.below h.below.size fun k hk hs => by have := (h.own6.lt _ hs).1; omega)⟩
  rw [sys_append, List.length_append]
  simpa [sys] using ho
end
def sylP (l : List Ph) (ns : List Nat) (e k : Nat) : List Sy := (List.range k).map (sylK l ns e (heavyF l))
theorem sylP_len (l : List Ph) (ns : List Nat) (e k : Nat) : (sylP l ns e k).length = k := by simp [sylP]
theorem sylP_snoc (l : List Ph) (ns : List Nat) (e k : Nat) : sylP l ns e (k + 1) = sylP l ns e k ++ [sylK l ns e (heavyF l) k] := by simp [sylP, List.range_succ]
theorem sylP_at {l : List Ph} {ns : List Nat} {e k j : Nat} (h : j < k) : (sylP l ns e k).getD j sy0 = sylK l ns e (heavyF l) j := by
  unfold sylP
  rw [List.getD_eq_getElem?_getD, List.getElem?_map, List.getElem?_range h]
  rfl
theorem bord_step {l : List Ph} {b i : Nat} (h : i ≤ b) (h0 : 0 < i) : bordD l b (b - (i - 1)) = if onsetF (cutL l i b) then i else bordD l b (b - i) := by
  rw [show b - (i - 1) = (b - i) + 1 by omega]
  conv => lhs; unfold bordD
  rw [show b - (b - i) = i by omega]

set_option maxHeartbeats 16000000 in
set_option maxRecDepth 100000 in
theorem refSplit_any (A : Option Addr) (n c L B : Nat) (l : List Ph) (w : World) (h : Rd w L B 3 A n (phs l)) (hB : B ≤ w.heap.size) (hz : n ≤ maxLen) (hnc : n ≤ c) :
    Calls Try.prog 93 #[.slice A n c] w fun e w' => ∃ v, e = .returned (.tuple #[v, .int .i64 (spE l)]) ∧ w'.ownsRow w.heap.size 37 5 v (spL l).length (sys (spL l)) ∧ Below w.heap.size w w' := by
  have hz' := hz
  unfold maxLen at hz
  have hl := h.len_ph
  obtain ⟨k0, hk0, kz0, kz1, kz2⟩ := info_parts info37
  have HK := Lib.hid (And.intro hk0 (And.intro kz0 (And.intro kz1 kz2)))
  obtain ⟨i0, hi0, iz0, iz1, iz2⟩ := info_parts info3a
  have HI := Lib.hid (And.intro hi0 (And.intro iz0 (And.intro iz1 iz2)))
  have HE := Lib.hid (show spE l = if 128 < l.length then 3 else if l.all isF then if nucs l l.length = [] then 110 else if 64 < (nucs l l.length).length then 3 else 0 else 2 from rfl)
  have bad : ∀ e : Int, e ≠ 0 → spE l = e → spL l = [] := fun e h0 he => by unfold spL; rw [if_neg (by rw [he]; exact h0)]
  have HBAD := Lib.hid bad
  have HSLq := Lib.hid (fun h0 : spE l = 0 => show spL l = sylP l (nucs l l.length) l.length (nucs l l.length).length by unfold spL; rw [if_pos h0]; rfl)
  have H := Lib.hid h
  have HLN := Lib.hid hl
  clear h hk0 kz0 kz1 kz2 hi0 iz0 iz1 iz2 bad
  by_cases hlong : 128 < n
  · have he : spE l = 3 := by rw [HE.out, if_pos (by omega)]
    rw [HBAD.out 3 (by decide) he, he]
    clear he
    have hd : decide ((128 : Int) < (n : Int)) = true := decide_eq_true (by omega)
    go_enter Try.func93, Try.ntmps93
    go_wp2
    go_ret2
    exact ⟨_, rfl, World.ownsRow_nil _ _ _ _, Below.refl _ _⟩
  have hd : decide ((128 : Int) < (n : Int)) = false := decide_eq_false (by omega)
  cases hF : l.all isF with
  | false =>
    have he : spE l = 2 := by rw [HE.out, if_neg (by omega), if_neg (by rw [hF]; decide)]
    rw [HBAD.out 2 (by decide) he, he]
    clear he
    go_enter Try.func93, Try.ntmps93
    go_wp2_with fail
    refine (refAll_any A n c L B l _ H.out hB hz').mono ?_
    rintro e w1 ⟨rfl, hb⟩
    have H1 := Lib.hid hb
    rw [hF]
    clear hb hF
    go_wp2
    go_ret2
    exact ⟨_, rfl, World.ownsRow_nil _ _ _ _, H1.out⟩
  | true =>
  have HE2 := Lib.hid (show spE l = if (nucs l l.length).length = 0 then 110 else if 64 < (nucs l l.length).length then 3 else 0 by
    rw [HE.out, if_neg (by omega), if_pos hF]
    by_cases e : nucs l l.length = []
    · rw [if_pos e, if_pos (by rw [e]; rfl)]
    · rw [if_neg e, if_neg (fun e2 => e (List.length_eq_zero_iff.1 e2))])
  clear HE
  go_enter Try.func93, Try.ntmps93
  go_wp2_with fail
  refine (refAll_any A n c L B l _ H.out hB hz').mono ?_
  rintro e w1 ⟨rfl, hb⟩
  have H1 := Lib.hid hb
  rw [hF]
  clear hb hF
  go_wp2
  go_loopw [4, 5] (fun v4 v5 wr => ∃ k : Nat, k ≤ n ∧ v5 = .int .i64 k ∧ (nucs l k).length ≤ k ∧ Hid (RtSt w v4 (.slice none 0 0) (nucs l k) [] wr)) (fun _ v5 _ => n - (intOf v5).toNat)
  case atStart => exact ⟨0, by omega, rfl, Nat.le_refl _, Lib.hid ⟨World.ownsRow_nil _ _ _ _, World.ownsRow_nil _ _ _ _, H1.out⟩⟩
  case round =>
    obtain ⟨k, hk, rfl, hle, HR⟩ := hrel
    clear H1
    obtain ⟨A4, c4, e4⟩ := own_slice HR.out.own4
    subst e4
    by_cases hlt : k < n
    · obtain ⟨b, o, hl0, rfl, _, _, x0, x1, x2⟩ := (H.out.below HR.out.below hB).ph (k := k) hlt
      have hns := nucs_step l k
      rw [List.getD_eq_getElem?_getD, List.getElem?_eq_getElem hl0] at hns
      have hns : nucs l (k + 1) = nucs l k ++ (if vowF l[k] then [k] else []) := hns
      generalize l[k] = p at *
      have HNS := Lib.hid hns
      clear hns
      have i1 : (0 : Int) ≤ (k : Int) := by omega
      have i2 : (k : Int) < (n : Int) := by omega
      go_wp2_with fail
      refine (refVowel_any p _).mono ?_
      rintro e w2 ⟨rfl, hb⟩
      have H2 := Lib.hid (HR.out.on hb)
      clear hb x0 x1 x2 HR
      cases hv : vowF p with
      | true =>
        have HN := Lib.hid (show nucs l (k + 1) = nucs l k ++ [k] by rw [HNS.out, hv]; rfl)
        clear HNS hv
        have hsz := H2.out.below.size
        go_wp2_with (at_builtin; go_must (refine wpList_append_rd _ rfl _ _ 71 rfl w.heap.size 3 i0 (.int .i64 0) 1 8 Try.underlying71 HI.out.1 HI.out.2.1 HI.out.2.2.1 HI.out.2.2.2 rfl (by decide) _ _ _ rfl (H2.out.own4.alloc _) _ _ _ 1 1 _ rfl (rd_new_eq rfl rfl) (by simp [Value.oneCell']) (by unfold maxLen; omega) (by omega) (by simp; omega) ?_; intro v9 w9 _ hown hgrow _; have HE := Lib.hid ((H2.out.on ((Below.refl _ _).alloc (Nat.le_refl _) _)).app4 rfl k hown hgrow); clear hown hgrow))
        go_roundw
        case rel => exact ⟨k + 1, by omega, by go_num, by rw [HN.out]; simp; omega, Lib.hid (by rw [HN.out]; exact HE.out)⟩
        case measure => simp [intOf]; omega
      | false =>
        have HN := Lib.hid (show nucs l (k + 1) = nucs l k by rw [HNS.out, hv]; exact List.append_nil _)
        clear HNS hv
        go_wp2
        go_roundw
        case rel => exact ⟨k + 1, by omega, by go_num, by rw [HN.out]; omega, Lib.hid (by rw [HN.out]; exact H2.out)⟩
        case measure => simp [intOf]; omega
    · obtain rfl : k = n := by omega
      have di : ¬ ((k : Int) < (k : Int)) := by omega
      rw [HLN.out] at HE2 HSLq
      have HRI := Lib.hid (fun (i j : Nat) (h1 : i < j) (h2 : j < (nucs l k).length) => nucs_rise (l := l) (k := k) h1 h2)
      have HAT := Lib.hid (fun (j : Nat) (h : j < (nucs l k).length) => (nucs_at (l := l) (k := k) h).1)
      have HFT := Lib.hid (fun (j : Nat) => show frK l (nucs l k) (j + 1) = bordF l ((nucs l k).getD j 0) ((nucs l k).getD (j + 1) 0) by unfold frK; rw [if_neg (by omega)]; rfl)
      have hF0 : frK l (nucs l k) 0 = 0 := rfl
      have HF0 := Lib.hid hF0
      clear hF0
      generalize nucs l k = ns at *
      obtain ⟨M, hM⟩ : ∃ M, ns.length = M := ⟨_, rfl⟩
      have HM := Lib.hid hM
      rw [hM] at HE2 HSLq HRI HAT hle ⊢
      clear hM
      by_cases hM0 : M = 0
      · have bm : ((M : Int) == 0) = true := by rw [hM0]; rfl
        have he : spE l = 110 := by rw [HE2.out, if_pos hM0]
        have HQ := Lib.hid (And.intro he (HBAD.out 110 (by decide) he))
        clear he hM0
        go_wp2
        go_ret2
        exact ⟨.slice none 0 0, by rw [HQ.out.1]; rfl, by rw [HQ.out.2]; exact World.ownsRow_nil _ _ _ _, HR.out.below⟩
      have bm : ((M : Int) == 0) = false := beq_eq_false_iff_ne.2 (by omega)
      by_cases hM64 : 64 < M
      · have bm2 : decide ((64 : Int) < (M : Int)) = true := decide_eq_true (by omega)
        have he : spE l = 3 := by rw [HE2.out, if_neg hM0, if_pos hM64]
        have HQ := Lib.hid (And.intro he (HBAD.out 3 (by decide) he))
        clear he
        go_wp2
        go_ret2
        exact ⟨.slice none 0 0, by rw [HQ.out.1]; rfl, by rw [HQ.out.2]; exact World.ownsRow_nil _ _ _ _, HR.out.below⟩
      have bm2 : decide ((64 : Int) < (M : Int)) = false := decide_eq_false (by omega)
      have he : spE l = 0 := by rw [HE2.out, if_neg hM0, if_neg hM64]
      have HQ := Lib.hid (And.intro he (HSLq.out he))
      have hM1 : 0 < M := by omega
      clear he HE2 HSLq HBAD hle hM0
      have hk0 : 0 < k := by have := HAT.out 0 hM1; omega
      obtain ⟨b, o, rfl, _, _, _⟩ := H.out.2 (by omega)
      have hrow := HR.out.own4
      rw [HM.out] at hrow
      obtain ⟨g4, rfl, hg1, hg2⟩ := own_addr hrow hM1
      have HR0 := Lib.hid (show RtSt w (.slice (some ⟨g4, 0, none⟩) M c4) (.slice none 0 0) ns [] wr from HM.out ▸ HR.out)
      clear HR hrow
      go_wp2
      go_loopw [6, 7, 8, 9] (fun v6 v7 _ _ wq => ∃ j : Nat, j ≤ M ∧ v7 = .int .i64 j ∧ Hid (RtSt w (.slice (some ⟨g4, 0, none⟩) M c4) v6 ns (sylP l ns k j) wq)) (fun _ v7 _ _ _ => M - (intOf v7).toNat)
      case atStart => exact ⟨0, by omega, rfl, HR0⟩
      case round =>
        obtain ⟨j, hj, rfl, HJ⟩ := hrel
        clear HR0
        obtain ⟨A6, c6, e6⟩ := own_slice HJ.out.own6
        subst e6
        rw [sylP_len]
        by_cases hjM : j < M
        · have hown4 := HJ.out.own4
          rw [HM.out] at hown4
          have hn4 : ∀ W : World, W.ownsRow w.heap.size 3 1 (.slice (some ⟨g4, 0, none⟩) M c4) M (nts ns) → ∀ q, q < M → W.cell? ⟨g4, q, none⟩ = some (.int .i64 (ns.getD q 0 : Nat)) := fun W hW q hq => by
            have hc := HM.out
            subst hc
            exact nts_at hW hq
          have HN4 := Lib.hid (fun (W : World) (hW : W.ownsRow w.heap.size 3 1 (.slice (some ⟨g4, 0, none⟩) M c4) ns.length (nts ns)) (q : Nat) (hq : q < M) => hn4 W (HM.out ▸ hW) q hq)
          have z0 := hn4 _ hown4 j hjM
          have haj := HAT.out j hjM
          have hjc : ns.getD j 0 ≤ 128 := by omega
          have HAJ := Lib.hid haj
          clear hown4 hn4
          have i1 : (0 : Int) ≤ (j : Int) := by omega
          have i2 : (j : Int) < (M : Int) := by omega
          have hg4l := (HJ.out.own4.lt g4 rfl).2
          have h6l : ∀ g, (Value.slice A6 (sylP l ns k j).length c6).ownBlock = some g → g < wr.heap.size := fun g hg => (HJ.out.own6.lt g hg).2
          have hKs := sylP_snoc l ns k j
          have hsk : sylK l ns k (heavyF l) j = (((frK l ns j : Nat) : Int), ((ns.getD j 0 : Nat) : Int), ((toK l ns k j : Nat) : Int), 0, heavyF l (((frK l ns j : Nat) : Int), ((ns.getD j 0 : Nat) : Int), ((toK l ns k j : Nat) : Int), 0, false)) := rfl
          have hto : toK l ns k j = if j + 1 < M then frK l ns (j + 1) else k := by unfold toK; rw [HM.out]
          have hpos : frK l ns j ≤ 128 := by
            by_cases e : j = 0
            · subst e; rw [HF0.out]; omega
            · obtain ⟨q, rfl⟩ : ∃ q, j = q + 1 := ⟨j - 1, by omega⟩
              rw [HFT.out]
              have := (bordF_in (l := l) (HRI.out q (q + 1) (by omega) hjM)).2
              omega
          have HSK := Lib.hid (And.intro hKs (And.intro hsk hto))
          have HL6 := Lib.hid (sylP_len l ns k j)
          clear hKs hsk hto
          go_upto_region 20 with (fail)
          refine wp_abs (fun wx => RtSt w (.slice (some ⟨g4, 0, none⟩) M c4) (.slice A6 j c6) ns (sylP l ns k j) wx ∧ Blk wx wr.heap.size 37 #[.int .i64 0, .int .i64 (ns.getD j 0 : Nat), .int .i64 (k : Int), .int .i64 0, .bool false]) ⟨by have := HJ.out.on ((Below.refl _ _).alloc (Nat.le_refl _) (.cells #[.int .i64 0, .int .i64 (ns.getD j 0 : Nat), .int .i64 (k : Int), .int .i64 0, .bool false] 37)); rwa [HL6.out] at this, Blk.new _ _ _⟩ ?_
          have hpb := HJ.out.below.size
          rw [HL6.out] at h6l
          clear z0 HJ
          generalize wr.heap.size = pb at *
          have n4 : (Value.slice (some ⟨g4, 0, none⟩) M c4).ownBlock ≠ some pb := fun e => by
            have e : some g4 = some pb := e
            injection e with e
            omega
          have n6 : (Value.slice A6 j c6).ownBlock ≠ some pb := fun e => by have := h6l _ e; omega
          have NN := Lib.hid (And.intro n4 n6)
          clear n4 n6 h6l
          rintro wx hX
          have HX := Lib.hid hX
          clear hX
          have HFIN : ∀ W, RtSt w (.slice (some ⟨g4, 0, none⟩) M c4) (.slice A6 j c6) ns (sylP l ns k j) W ∧ Blk W pb 37 #[.int .i64 (frK l ns j : Nat), .int .i64 (ns.getD j 0 : Nat), .int .i64 (k : Int), .int .i64 0, .bool false] → Hid (RtSt w (.slice (some ⟨g4, 0, none⟩) M c4) (.slice A6 j c6) ns (sylP l ns k j) W ∧ Blk W pb 37 #[.int .i64 (frK l ns j : Nat), .int .i64 (ns.getD j 0 : Nat), .int .i64 (k : Int), .int .i64 0, .bool false]) := fun _ h => h
          by_cases hj0 : j = 0
          · have dj : decide ((0 : Int) < (j : Int)) = false := decide_eq_false (by omega)
            have djn : ¬ 0 < j := by omega
            have HY := HFIN wx ⟨HX.out.1, by rw [show frK l ns j = 0 by rw [hj0]; exact HF0.out]; exact HX.out.2⟩
            clear HX HFIN hj0
            go_upto_region 22 with (fail)
            generalize hfr : frK l ns j = fr at *
            by_cases hnx : j + 1 < M
            · have HTO := Lib.hid (show toK l ns k j = bordF l (ns.getD j 0) (ns.getD (j + 1) 0) by rw [HSK.out.2.2, if_pos hnx, HFT.out])
              have z0 := HN4.out _ HY.out.1.own4 (j + 1) hnx
              have hab := HRI.out j (j + 1) (by omega) hnx
              have hbk := HAT.out (j + 1) hnx
              have y0 : wx.cell? ⟨pb, 2, none⟩ = some (.int .i64 (k : Int)) := HY.out.2.cell 2
              have f2 : wx.frozen? ⟨pb, 2, none⟩ = false := HY.out.2.frozen 2
              have HN5 := Lib.hid (fun (W : World) (hW : RtSt w (.slice (some ⟨g4, 0, none⟩) M c4) (.slice A6 j c6) ns (sylP l ns k j) W) => And.intro (HN4.out W hW.own4 j hjM) (HN4.out W hW.own4 (j + 1) hnx))
              obtain ⟨z1, _⟩ := HN5.out _ HY.out.1
              obtain ⟨j1, hj1⟩ : ∃ j1, j1 = j + 1 := ⟨_, rfl⟩
              rw [← hj1] at z0 HN5 HTO hab hbk hnx
              have wj : IntKind.i64.wrap ((j : Int) + 1) = (j1 : Int) := by rw [IntWalk.i64_in _ (by omega)]; omega
              have dn : decide ((j1 : Int) < (M : Int)) = true := decide_eq_true (by omega)
              have q3 : (0 : Int) ≤ (j1 : Int) := by omega
              have q4 : (j1 : Int) < (M : Int) := by omega
              have HJ1 := Lib.hid hj1
              clear hj1
              generalize ns.getD j 0 = a at *
              generalize ns.getD j1 0 = bb at *
              go_upto_region 24 with (fail)
              refine wp_abs (fun wz => RtSt w (.slice (some ⟨g4, 0, none⟩) M c4) (.slice A6 j c6) ns (sylP l ns k j) wz ∧ Blk wz pb 37 #[.int .i64 (fr : Nat), .int .i64 (a : Nat), .int .i64 (bb : Nat), .int .i64 0, .bool false]) ⟨HY.out.1.far NN.out.1 NN.out.2 hpb _, by simpa using HY.out.2.set_ 2 (.int .i64 (bb : Nat))⟩ ?_
              clear y0 f2 z0 z1 HY
              rintro wz hZ
              have HZ := Lib.hid hZ
              clear hZ
              obtain ⟨z0, z1⟩ := HN5.out _ HZ.out.1
              go_wp2
              clear z0 z1
              go_loopw [9] (fun v9 wq => ∃ i : Nat, a ≤ i ∧ i ≤ bb ∧ v9 = .int .i64 i ∧ Hid (RtSt w (.slice (some ⟨g4, 0, none⟩) M c4) (.slice A6 j c6) ns (sylP l ns k j) wq ∧ Blk wq pb 37 #[.int .i64 (fr : Nat), .int .i64 (a : Nat), .int .i64 (bordD l bb (bb - i) : Nat), .int .i64 0, .bool false])) (fun v9 _ => (intOf v9).toNat)
              case atStart => exact ⟨bb, by omega, Nat.le_refl _, rfl, Lib.hid (by rw [Nat.sub_self]; exact HZ.out)⟩
              case round =>
                obtain ⟨i, hi1, hi2, rfl, HS⟩ := hrel
                clear HZ
                obtain ⟨z0, z1⟩ := HN5.out _ HS.out.1
                by_cases hai : a < i
                · have di : decide ((a : Int) < (i : Int)) = true := decide_eq_true (by omega)
                  have HBS := Lib.hid (bord_step (l := l) (b := bb) (i := i) hi2 (by omega))
                  have f1 : (0 : Int) ≤ (i : Int) := by omega
                  have f2 : (i : Int) ≤ (bb : Int) := by omega
                  have f3 : (bb : Int) ≤ (c : Int) := by omega
                  have f4 : (i : Int) < (c : Int) := by omega
                  have f5 : (bb : Int) ≤ (k : Int) := by omega
                  have wi : IntKind.i64.wrap ((i : Int) - 1) = ((i - 1 : Nat) : Int) := by rw [IntWalk.i64_in _ (by omega)]; omega
                  have HCT := Lib.hid ((H.out.below HS.out.1.below hB).cutP (N := i) (M := bb) hi2 (by omega))
                  go_wp2_with fail
                  refine (refOnset_any _ _ _ L B (cutL l i bb) _ HCT.out (Nat.le_trans hB HS.out.1.below.size) (by unfold maxLen; omega)).mono ?_
                  rintro e wt ⟨rfl, hb⟩
                  have HT := Lib.hid (And.intro (HS.out.1.on hb) (HS.out.2.below hb HS.out.2.lt))
                  clear hb HS HCT z0 z1
                  have y2 : wt.cell? ⟨pb, 2, none⟩ = some (.int .i64 (bordD l bb (bb - i) : Nat)) := HT.out.2.cell 2
                  have g2 : wt.frozen? ⟨pb, 2, none⟩ = false := HT.out.2.frozen 2
                  cases hon : onsetF (cutL l i bb) with
                  | true =>
                    have HB2 := Lib.hid (show bordD l bb (bb - (i - 1)) = i by rw [HBS.out, hon]; rfl)
                    have HU := Lib.hid (And.intro (HT.out.1.far (p := ⟨pb, 2, none⟩) NN.out.1 NN.out.2 hpb (.int .i64 (i : Nat))) (show Blk (wt.setCell ⟨pb, 2, none⟩ (.int .i64 (i : Nat))) pb 37 #[.int .i64 (fr : Nat), .int .i64 (a : Nat), .int .i64 (i : Nat), .int .i64 0, .bool false] by simpa using HT.out.2.set_ 2 (.int .i64 (i : Nat))))
                    clear HBS hon HT
                    go_wp2
                    go_roundw
                    case rel => exact ⟨i - 1, by omega, by omega, by go_num, Lib.hid (by rw [HB2.out]; exact HU.out)⟩
                    case measure => simp [intOf]; omega
                  | false =>
                    have HB2 := Lib.hid (show bordD l bb (bb - (i - 1)) = bordD l bb (bb - i) by rw [HBS.out, hon]; rfl)
                    clear HBS hon
                    go_wp2
                    go_roundw
                    case rel => exact ⟨i - 1, by omega, by omega, by go_num, Lib.hid (by rw [HB2.out]; exact HT.out)⟩
                    case measure => simp [intOf]; omega
                · obtain rfl : i = a := by omega
                  have di : ¬ ((i : Int) < (i : Int)) := by omega
                  have HU := Lib.hid (show RtSt w (.slice (some ⟨g4, 0, none⟩) M c4) (.slice A6 j c6) ns (sylP l ns k j) wr ∧ Blk wr pb 37 #[.int .i64 (fr : Nat), .int .i64 (i : Nat), .int .i64 (toK l ns k j : Nat), .int .i64 0, .bool false] by rw [HTO.out]; exact HS.out)
                  generalize toK l ns k j = t at *
                  clear HS HTO
                  clear hab hbk z1 wj
                  have z0 : wr.cell? ⟨pb, 0, none⟩ = some (.int .i64 (fr : Nat)) := HU.out.2.cell 0
                  have z1 : wr.cell? ⟨pb, 1, none⟩ = some (.int .i64 (i : Nat)) := HU.out.2.cell 1
                  have z2 : wr.cell? ⟨pb, 2, none⟩ = some (.int .i64 (t : Nat)) := HU.out.2.cell 2
                  have z3 : wr.cell? ⟨pb, 3, none⟩ = some (.int .i64 0) := HU.out.2.cell 3
                  have z4 : wr.cell? ⟨pb, 4, none⟩ = some (.bool false) := HU.out.2.cell 4
                  have HRD := Lib.hid (And.intro (H.out.below HU.out.1.below hB) (Nat.le_trans hB HU.out.1.below.size))
                  go_wp2_with fail
                  refine (refHeavy_any _ k c L B l (((fr : Nat) : Int), ((i : Nat) : Int), ((t : Nat) : Int), 0, false) _ HRD.out.1 HRD.out.2 (by omega) (show (0 : Int) ≤ ((i : Nat) : Int) by omega) (show ((i : Nat) : Int) < (k : Int) by have := HAJ.out; omega)).mono ?_
                  rintro e wh ⟨rfl, hb⟩
                  have HSY := Lib.hid (show sylP l ns k (j + 1) = sylP l ns k j ++ [(((fr : Nat) : Int), ((i : Nat) : Int), ((t : Nat) : Int), (0 : Int), heavyF l (((fr : Nat) : Int), ((i : Nat) : Int), ((t : Nat) : Int), 0, false))] by rw [HSK.out.1, HSK.out.2.1])
                  generalize heavyF l (((fr : Nat) : Int), ((i : Nat) : Int), ((t : Nat) : Int), 0, false) = hv at *
                  have HH := Lib.hid (And.intro (HU.out.1.on hb) (HU.out.2.below hb HU.out.2.lt))
                  clear hb HU HRD z0 z1 z2 z3 z4 HSK
                  have z4 : wh.cell? ⟨pb, 4, none⟩ = some (.bool false) := HH.out.2.cell 4
                  have f4 : wh.frozen? ⟨pb, 4, none⟩ = false := HH.out.2.frozen 4
                  go_upto_region 30 with (fail)
                  refine wp_abs (fun wz => RtSt w (.slice (some ⟨g4, 0, none⟩) M c4) (.slice A6 j c6) ns (sylP l ns k j) wz ∧ Blk wz pb 37 #[.int .i64 (fr : Nat), .int .i64 (i : Nat), .int .i64 (t : Nat), .int .i64 0, .bool hv]) ⟨HH.out.1.far NN.out.1 NN.out.2 hpb _, by simpa using HH.out.2.set_ 4 (.bool hv)⟩ ?_
                  clear z4 f4 HH
                  rintro wz hZ
                  have HZ := Lib.hid hZ
                  clear hZ
                  have z0 : wz.cell? ⟨pb, 0, none⟩ = some (.int .i64 (fr : Nat)) := HZ.out.2.cell 0
                  have z1 : wz.cell? ⟨pb, 1, none⟩ = some (.int .i64 (i : Nat)) := HZ.out.2.cell 1
                  have z2 : wz.cell? ⟨pb, 2, none⟩ = some (.int .i64 (t : Nat)) := HZ.out.2.cell 2
                  have z3 : wz.cell? ⟨pb, 3, none⟩ = some (.int .i64 0) := HZ.out.2.cell 3
                  have z4 : wz.cell? ⟨pb, 4, none⟩ = some (.bool hv) := HZ.out.2.cell 4
                  have hsz := HZ.out.1.below.size
                  have HO6 := Lib.hid (show wz.ownsRow w.heap.size 37 5 (.slice A6 j c6) j (sys (sylP l ns k j)) by have := HZ.out.1.own6; rwa [HL6.out] at this)
                  go_wp2_with (at_builtin; go_must (refine wpList_append_rd _ rfl _ _ 23 rfl w.heap.size 37 k0 (.agg #[.int .i64 0, .int .i64 0, .int .i64 0, .int .i64 0, .bool false]) 5 40 Try.underlying23 HK.out.1 HK.out.2.1 HK.out.2.2.1 HK.out.2.2.2 rfl (by decide) _ _ _ rfl (HO6.out.alloc _) _ _ _ 1 1 _ rfl (rd_new_eq rfl rfl) (by simp [Value.oneCell']) (by unfold maxLen; omega) (by omega) (by simp; omega) ?_; intro v9 w9 _ hown hgrow _; have HE := Lib.hid ((HZ.out.1.on ((Below.refl _ _).alloc (Nat.le_refl _) _)).app6 HL6.out (((fr : Nat) : Int), ((i : Nat) : Int), ((t : Nat) : Int), (0 : Int), hv) hown hgrow); clear hown hgrow))
                  go_roundw
                  case rel => exact ⟨j + 1, by omega, by go_num, Lib.hid (by rw [HSY.out]; exact HE.out)⟩
                  case measure => simp [intOf]; omega
            · have HTO := Lib.hid (show toK l ns k j = k by rw [HSK.out.2.2, if_neg hnx])
              have wj : IntKind.i64.wrap ((j : Int) + 1) = ((j + 1 : Nat) : Int) := by rw [IntWalk.i64_in _ (by omega)]; omega
              have dn : decide (((j + 1 : Nat) : Int) < (M : Int)) = false := decide_eq_false (by omega)
              have dn2 : decide ((j : Int) + 1 < (M : Int)) = false := decide_eq_false (by omega)
              have dn3 : ¬ j + 1 < M := hnx
              have dn4 : ¬ (j : Int) + 1 < (M : Int) := by omega
              have HU := Lib.hid (show RtSt w (.slice (some ⟨g4, 0, none⟩) M c4) (.slice A6 j c6) ns (sylP l ns k j) wx ∧ Blk wx pb 37 #[.int .i64 (fr : Nat), .int .i64 (ns.getD j 0 : Nat), .int .i64 (toK l ns k j : Nat), .int .i64 0, .bool false] by rw [HTO.out]; exact HY.out)
              generalize ns.getD j 0 = a at *
              generalize toK l ns k j = t at *
              clear HY HTO
              have z0 : wx.cell? ⟨pb, 0, none⟩ = some (.int .i64 (fr : Nat)) := HU.out.2.cell 0
              have z1 : wx.cell? ⟨pb, 1, none⟩ = some (.int .i64 (a : Nat)) := HU.out.2.cell 1
              have z2 : wx.cell? ⟨pb, 2, none⟩ = some (.int .i64 (t : Nat)) := HU.out.2.cell 2
              have z3 : wx.cell? ⟨pb, 3, none⟩ = some (.int .i64 0) := HU.out.2.cell 3
              have z4 : wx.cell? ⟨pb, 4, none⟩ = some (.bool false) := HU.out.2.cell 4
              have HRD := Lib.hid (And.intro (H.out.below HU.out.1.below hB) (Nat.le_trans hB HU.out.1.below.size))
              go_wp2_with fail
              refine (refHeavy_any _ k c L B l (((fr : Nat) : Int), ((a : Nat) : Int), ((t : Nat) : Int), 0, false) _ HRD.out.1 HRD.out.2 (by omega) (show (0 : Int) ≤ ((a : Nat) : Int) by omega) (show ((a : Nat) : Int) < (k : Int) by have := HAJ.out; omega)).mono ?_
              rintro e wh ⟨rfl, hb⟩
              have HSY := Lib.hid (show sylP l ns k (j + 1) = sylP l ns k j ++ [(((fr : Nat) : Int), ((a : Nat) : Int), ((t : Nat) : Int), (0 : Int), heavyF l (((fr : Nat) : Int), ((a : Nat) : Int), ((t : Nat) : Int), 0, false))] by rw [HSK.out.1, HSK.out.2.1])
              generalize heavyF l (((fr : Nat) : Int), ((a : Nat) : Int), ((t : Nat) : Int), 0, false) = hv at *
              have HH := Lib.hid (And.intro (HU.out.1.on hb) (HU.out.2.below hb HU.out.2.lt))
              clear hb HU HRD z0 z1 z2 z3 z4 HSK
              have z4 : wh.cell? ⟨pb, 4, none⟩ = some (.bool false) := HH.out.2.cell 4
              have f4 : wh.frozen? ⟨pb, 4, none⟩ = false := HH.out.2.frozen 4
              go_upto_region 30 with (fail)
              refine wp_abs (fun wz => RtSt w (.slice (some ⟨g4, 0, none⟩) M c4) (.slice A6 j c6) ns (sylP l ns k j) wz ∧ Blk wz pb 37 #[.int .i64 (fr : Nat), .int .i64 (a : Nat), .int .i64 (t : Nat), .int .i64 0, .bool hv]) ⟨HH.out.1.far NN.out.1 NN.out.2 hpb _, by simpa using HH.out.2.set_ 4 (.bool hv)⟩ ?_
              clear z4 f4 HH
              rintro wz hZ
              have HZ := Lib.hid hZ
              clear hZ
              have z0 : wz.cell? ⟨pb, 0, none⟩ = some (.int .i64 (fr : Nat)) := HZ.out.2.cell 0
              have z1 : wz.cell? ⟨pb, 1, none⟩ = some (.int .i64 (a : Nat)) := HZ.out.2.cell 1
              have z2 : wz.cell? ⟨pb, 2, none⟩ = some (.int .i64 (t : Nat)) := HZ.out.2.cell 2
              have z3 : wz.cell? ⟨pb, 3, none⟩ = some (.int .i64 0) := HZ.out.2.cell 3
              have z4 : wz.cell? ⟨pb, 4, none⟩ = some (.bool hv) := HZ.out.2.cell 4
              have hsz := HZ.out.1.below.size
              have HO6 := Lib.hid (show wz.ownsRow w.heap.size 37 5 (.slice A6 j c6) j (sys (sylP l ns k j)) by have := HZ.out.1.own6; rwa [HL6.out] at this)
              go_wp2_with (at_builtin; go_must (refine wpList_append_rd _ rfl _ _ 23 rfl w.heap.size 37 k0 (.agg #[.int .i64 0, .int .i64 0, .int .i64 0, .int .i64 0, .bool false]) 5 40 Try.underlying23 HK.out.1 HK.out.2.1 HK.out.2.2.1 HK.out.2.2.2 rfl (by decide) _ _ _ rfl (HO6.out.alloc _) _ _ _ 1 1 _ rfl (rd_new_eq rfl rfl) (by simp [Value.oneCell']) (by unfold maxLen; omega) (by omega) (by simp; omega) ?_; intro v9 w9 _ hown hgrow _; have HE := Lib.hid ((HZ.out.1.on ((Below.refl _ _).alloc (Nat.le_refl _) _)).app6 HL6.out (((fr : Nat) : Int), ((a : Nat) : Int), ((t : Nat) : Int), (0 : Int), hv) hown hgrow); clear hown hgrow))
              go_roundw
              case rel => exact ⟨j + 1, by omega, by go_num, Lib.hid (by rw [HSY.out]; exact HE.out)⟩
              case measure => simp [intOf]; omega
          obtain ⟨q, hq⟩ : ∃ q, j = q + 1 := ⟨j - 1, by omega⟩
          have dj : decide ((0 : Int) < (j : Int)) = true := decide_eq_true (by omega)
          have djn : 0 < j := by omega
          have wq : IntKind.i64.wrap ((j : Int) - 1) = (q : Int) := by rw [IntWalk.i64_in _ (by omega)]; omega
          obtain ⟨g6, rfl, _, _⟩ := own_addr (by have := HX.out.1.own6; rw [HL6.out] at this; exact this) (by omega)
          obtain ⟨_, _, y2, _, _⟩ := own_cells (by have := HX.out.1.own6; rw [HL6.out] at this ⊢; exact this) (j := q) (by rw [HL6.out]; omega)
          rw [sylP_at (by omega)] at y2
          have hto : toK l ns k q = frK l ns j := by unfold toK; rw [if_pos (by rw [HM.out]; omega), hq]
          have y2b : wx.cell? ⟨g6, q * 5 + 2, none⟩ = some (.int .i64 (frK l ns j : Nat)) := by rw [← hto]; exact y2
          clear y2
          have q1 : (0 : Int) ≤ (q : Int) := by omega
          have q2 : (q : Int) < (j : Int) := by omega
          have f0 : wx.frozen? ⟨pb, 0, none⟩ = false := HX.out.2.frozen 0
          have z0 : wx.cell? ⟨pb, 0, none⟩ = some (.int .i64 0) := HX.out.2.cell 0
          have HY0 := HFIN (wx.setCell ⟨pb, 0, none⟩ (.int .i64 (frK l ns j : Nat))) ⟨HX.out.1.far NN.out.1 NN.out.2 hpb _, by simpa using HX.out.2.set_ 0 (.int .i64 (frK l ns j : Nat))⟩
          clear HFIN hj0 hto hq
          go_upto_region 22 with (fail)
          refine wp_abs (fun W => RtSt w (.slice (some ⟨g4, 0, none⟩) M c4) (.slice (some ⟨g6, 0, none⟩) j c6) ns (sylP l ns k j) W ∧ Blk W pb 37 #[.int .i64 (frK l ns j : Nat), .int .i64 (ns.getD j 0 : Nat), .int .i64 (k : Int), .int .i64 0, .bool false]) HY0.out ?_
          clear f0 z0 y2b HX HY0
          rintro wy hY
          have HY := Lib.hid hY
          clear hY
          generalize hfr : frK l ns j = fr at *
          by_cases hnx : j + 1 < M
          · have HTO := Lib.hid (show toK l ns k j = bordF l (ns.getD j 0) (ns.getD (j + 1) 0) by rw [HSK.out.2.2, if_pos hnx, HFT.out])
            have z0 := HN4.out _ HY.out.1.own4 (j + 1) hnx
            have hab := HRI.out j (j + 1) (by omega) hnx
            have hbk := HAT.out (j + 1) hnx
            have y0 : wy.cell? ⟨pb, 2, none⟩ = some (.int .i64 (k : Int)) := HY.out.2.cell 2
            have f2 : wy.frozen? ⟨pb, 2, none⟩ = false := HY.out.2.frozen 2
            have HN5 := Lib.hid (fun (W : World) (hW : RtSt w (.slice (some ⟨g4, 0, none⟩) M c4) (.slice (some ⟨g6, 0, none⟩) j c6) ns (sylP l ns k j) W) => And.intro (HN4.out W hW.own4 j hjM) (HN4.out W hW.own4 (j + 1) hnx))
            obtain ⟨z1, _⟩ := HN5.out _ HY.out.1
            obtain ⟨j1, hj1⟩ : ∃ j1, j1 = j + 1 := ⟨_, rfl⟩
            rw [← hj1] at z0 HN5 HTO hab hbk hnx
            have wj : IntKind.i64.wrap ((j : Int) + 1) = (j1 : Int) := by rw [IntWalk.i64_in _ (by omega)]; omega
            have dn : decide ((j1 : Int) < (M : Int)) = true := decide_eq_true (by omega)
            have q3 : (0 : Int) ≤ (j1 : Int) := by omega
            have q4 : (j1 : Int) < (M : Int) := by omega
            have HJ1 := Lib.hid hj1
            clear hj1
            generalize ns.getD j 0 = a at *
            generalize ns.getD j1 0 = bb at *
            go_upto_region 24 with (fail)
            refine wp_abs (fun wz => RtSt w (.slice (some ⟨g4, 0, none⟩) M c4) (.slice (some ⟨g6, 0, none⟩) j c6) ns (sylP l ns k j) wz ∧ Blk wz pb 37 #[.int .i64 (fr : Nat), .int .i64 (a : Nat), .int .i64 (bb : Nat), .int .i64 0, .bool false]) ⟨HY.out.1.far NN.out.1 NN.out.2 hpb _, by simpa using HY.out.2.set_ 2 (.int .i64 (bb : Nat))⟩ ?_
            clear y0 f2 z0 z1 HY
            rintro wz hZ
            have HZ := Lib.hid hZ
            clear hZ
            obtain ⟨z0, z1⟩ := HN5.out _ HZ.out.1
            go_wp2
            clear z0 z1
            go_loopw [9] (fun v9 wq => ∃ i : Nat, a ≤ i ∧ i ≤ bb ∧ v9 = .int .i64 i ∧ Hid (RtSt w (.slice (some ⟨g4, 0, none⟩) M c4) (.slice (some ⟨g6, 0, none⟩) j c6) ns (sylP l ns k j) wq ∧ Blk wq pb 37 #[.int .i64 (fr : Nat), .int .i64 (a : Nat), .int .i64 (bordD l bb (bb - i) : Nat), .int .i64 0, .bool false])) (fun v9 _ => (intOf v9).toNat)
            case atStart => exact ⟨bb, by omega, Nat.le_refl _, rfl, Lib.hid (by rw [Nat.sub_self]; exact HZ.out)⟩
            case round =>
              obtain ⟨i, hi1, hi2, rfl, HS⟩ := hrel
              clear HZ
              obtain ⟨z0, z1⟩ := HN5.out _ HS.out.1
              by_cases hai : a < i
              · have di : decide ((a : Int) < (i : Int)) = true := decide_eq_true (by omega)
                have HBS := Lib.hid (bord_step (l := l) (b := bb) (i := i) hi2 (by omega))
                have f1 : (0 : Int) ≤ (i : Int) := by omega
                have f2 : (i : Int) ≤ (bb : Int) := by omega
                have f3 : (bb : Int) ≤ (c : Int) := by omega
                have f4 : (i : Int) < (c : Int) := by omega
                have f5 : (bb : Int) ≤ (k : Int) := by omega
                have wi : IntKind.i64.wrap ((i : Int) - 1) = ((i - 1 : Nat) : Int) := by rw [IntWalk.i64_in _ (by omega)]; omega
                have HCT := Lib.hid ((H.out.below HS.out.1.below hB).cutP (N := i) (M := bb) hi2 (by omega))
                go_wp2_with fail
                refine (refOnset_any _ _ _ L B (cutL l i bb) _ HCT.out (Nat.le_trans hB HS.out.1.below.size) (by unfold maxLen; omega)).mono ?_
                rintro e wt ⟨rfl, hb⟩
                have HT := Lib.hid (And.intro (HS.out.1.on hb) (HS.out.2.below hb HS.out.2.lt))
                clear hb HS HCT z0 z1
                have y2 : wt.cell? ⟨pb, 2, none⟩ = some (.int .i64 (bordD l bb (bb - i) : Nat)) := HT.out.2.cell 2
                have g2 : wt.frozen? ⟨pb, 2, none⟩ = false := HT.out.2.frozen 2
                cases hon : onsetF (cutL l i bb) with
                | true =>
                  have HB2 := Lib.hid (show bordD l bb (bb - (i - 1)) = i by rw [HBS.out, hon]; rfl)
                  have HU := Lib.hid (And.intro (HT.out.1.far (p := ⟨pb, 2, none⟩) NN.out.1 NN.out.2 hpb (.int .i64 (i : Nat))) (show Blk (wt.setCell ⟨pb, 2, none⟩ (.int .i64 (i : Nat))) pb 37 #[.int .i64 (fr : Nat), .int .i64 (a : Nat), .int .i64 (i : Nat), .int .i64 0, .bool false] by simpa using HT.out.2.set_ 2 (.int .i64 (i : Nat))))
                  clear HBS hon HT
                  go_wp2
                  go_roundw
                  case rel => exact ⟨i - 1, by omega, by omega, by go_num, Lib.hid (by rw [HB2.out]; exact HU.out)⟩
                  case measure => simp [intOf]; omega
                | false =>
                  have HB2 := Lib.hid (show bordD l bb (bb - (i - 1)) = bordD l bb (bb - i) by rw [HBS.out, hon]; rfl)
                  clear HBS hon
                  go_wp2
                  go_roundw
                  case rel => exact ⟨i - 1, by omega, by omega, by go_num, Lib.hid (by rw [HB2.out]; exact HT.out)⟩
                  case measure => simp [intOf]; omega
              · obtain rfl : i = a := by omega
                have di : ¬ ((i : Int) < (i : Int)) := by omega
                have HU := Lib.hid (show RtSt w (.slice (some ⟨g4, 0, none⟩) M c4) (.slice (some ⟨g6, 0, none⟩) j c6) ns (sylP l ns k j) wr ∧ Blk wr pb 37 #[.int .i64 (fr : Nat), .int .i64 (i : Nat), .int .i64 (toK l ns k j : Nat), .int .i64 0, .bool false] by rw [HTO.out]; exact HS.out)
                generalize toK l ns k j = t at *
                clear HS HTO
                clear hab hbk z1 wj
                have z0 : wr.cell? ⟨pb, 0, none⟩ = some (.int .i64 (fr : Nat)) := HU.out.2.cell 0
                have z1 : wr.cell? ⟨pb, 1, none⟩ = some (.int .i64 (i : Nat)) := HU.out.2.cell 1
                have z2 : wr.cell? ⟨pb, 2, none⟩ = some (.int .i64 (t : Nat)) := HU.out.2.cell 2
                have z3 : wr.cell? ⟨pb, 3, none⟩ = some (.int .i64 0) := HU.out.2.cell 3
                have z4 : wr.cell? ⟨pb, 4, none⟩ = some (.bool false) := HU.out.2.cell 4
                have HRD := Lib.hid (And.intro (H.out.below HU.out.1.below hB) (Nat.le_trans hB HU.out.1.below.size))
                go_wp2_with fail
                refine (refHeavy_any _ k c L B l (((fr : Nat) : Int), ((i : Nat) : Int), ((t : Nat) : Int), 0, false) _ HRD.out.1 HRD.out.2 (by omega) (show (0 : Int) ≤ ((i : Nat) : Int) by omega) (show ((i : Nat) : Int) < (k : Int) by have := HAJ.out; omega)).mono ?_
                rintro e wh ⟨rfl, hb⟩
                have HSY := Lib.hid (show sylP l ns k (j + 1) = sylP l ns k j ++ [(((fr : Nat) : Int), ((i : Nat) : Int), ((t : Nat) : Int), (0 : Int), heavyF l (((fr : Nat) : Int), ((i : Nat) : Int), ((t : Nat) : Int), 0, false))] by rw [HSK.out.1, HSK.out.2.1])
                generalize heavyF l (((fr : Nat) : Int), ((i : Nat) : Int), ((t : Nat) : Int), 0, false) = hv at *
                have HH := Lib.hid (And.intro (HU.out.1.on hb) (HU.out.2.below hb HU.out.2.lt))
                clear hb HU HRD z0 z1 z2 z3 z4 HSK
                have z4 : wh.cell? ⟨pb, 4, none⟩ = some (.bool false) := HH.out.2.cell 4
                have f4 : wh.frozen? ⟨pb, 4, none⟩ = false := HH.out.2.frozen 4
                go_upto_region 30 with (fail)
                refine wp_abs (fun wz => RtSt w (.slice (some ⟨g4, 0, none⟩) M c4) (.slice (some ⟨g6, 0, none⟩) j c6) ns (sylP l ns k j) wz ∧ Blk wz pb 37 #[.int .i64 (fr : Nat), .int .i64 (i : Nat), .int .i64 (t : Nat), .int .i64 0, .bool hv]) ⟨HH.out.1.far NN.out.1 NN.out.2 hpb _, by simpa using HH.out.2.set_ 4 (.bool hv)⟩ ?_
                clear z4 f4 HH
                rintro wz hZ
                have HZ := Lib.hid hZ
                clear hZ
                have z0 : wz.cell? ⟨pb, 0, none⟩ = some (.int .i64 (fr : Nat)) := HZ.out.2.cell 0
                have z1 : wz.cell? ⟨pb, 1, none⟩ = some (.int .i64 (i : Nat)) := HZ.out.2.cell 1
                have z2 : wz.cell? ⟨pb, 2, none⟩ = some (.int .i64 (t : Nat)) := HZ.out.2.cell 2
                have z3 : wz.cell? ⟨pb, 3, none⟩ = some (.int .i64 0) := HZ.out.2.cell 3
                have z4 : wz.cell? ⟨pb, 4, none⟩ = some (.bool hv) := HZ.out.2.cell 4
                have hsz := HZ.out.1.below.size
                have HO6 := Lib.hid (show wz.ownsRow w.heap.size 37 5 (.slice (some ⟨g6, 0, none⟩) j c6) j (sys (sylP l ns k j)) by have := HZ.out.1.own6; rwa [HL6.out] at this)
                go_wp2_with (at_builtin; go_must (refine wpList_append_rd _ rfl _ _ 23 rfl w.heap.size 37 k0 (.agg #[.int .i64 0, .int .i64 0, .int .i64 0, .int .i64 0, .bool false]) 5 40 Try.underlying23 HK.out.1 HK.out.2.1 HK.out.2.2.1 HK.out.2.2.2 rfl (by decide) _ _ _ rfl (HO6.out.alloc _) _ _ _ 1 1 _ rfl (rd_new_eq rfl rfl) (by simp [Value.oneCell']) (by unfold maxLen; omega) (by omega) (by simp; omega) ?_; intro v9 w9 _ hown hgrow _; have HE := Lib.hid ((HZ.out.1.on ((Below.refl _ _).alloc (Nat.le_refl _) _)).app6 HL6.out (((fr : Nat) : Int), ((i : Nat) : Int), ((t : Nat) : Int), (0 : Int), hv) hown hgrow); clear hown hgrow))
                go_roundw
                case rel => exact ⟨j + 1, by omega, by go_num, Lib.hid (by rw [HSY.out]; exact HE.out)⟩
                case measure => simp [intOf]; omega
          · have HTO := Lib.hid (show toK l ns k j = k by rw [HSK.out.2.2, if_neg hnx])
            have wj : IntKind.i64.wrap ((j : Int) + 1) = ((j + 1 : Nat) : Int) := by rw [IntWalk.i64_in _ (by omega)]; omega
            have dn : decide (((j + 1 : Nat) : Int) < (M : Int)) = false := decide_eq_false (by omega)
            have dn2 : decide ((j : Int) + 1 < (M : Int)) = false := decide_eq_false (by omega)
            have dn3 : ¬ j + 1 < M := hnx
            have dn4 : ¬ (j : Int) + 1 < (M : Int) := by omega
            have HU := Lib.hid (show RtSt w (.slice (some ⟨g4, 0, none⟩) M c4) (.slice (some ⟨g6, 0, none⟩) j c6) ns (sylP l ns k j) wy ∧ Blk wy pb 37 #[.int .i64 (fr : Nat), .int .i64 (ns.getD j 0 : Nat), .int .i64 (toK l ns k j : Nat), .int .i64 0, .bool false] by rw [HTO.out]; exact HY.out)
            generalize ns.getD j 0 = a at *
            generalize toK l ns k j = t at *
            clear HY HTO
            have z0 : wy.cell? ⟨pb, 0, none⟩ = some (.int .i64 (fr : Nat)) := HU.out.2.cell 0
            have z1 : wy.cell? ⟨pb, 1, none⟩ = some (.int .i64 (a : Nat)) := HU.out.2.cell 1
            have z2 : wy.cell? ⟨pb, 2, none⟩ = some (.int .i64 (t : Nat)) := HU.out.2.cell 2
            have z3 : wy.cell? ⟨pb, 3, none⟩ = some (.int .i64 0) := HU.out.2.cell 3
            have z4 : wy.cell? ⟨pb, 4, none⟩ = some (.bool false) := HU.out.2.cell 4
            have HRD := Lib.hid (And.intro (H.out.below HU.out.1.below hB) (Nat.le_trans hB HU.out.1.below.size))
            go_wp2_with fail
            refine (refHeavy_any _ k c L B l (((fr : Nat) : Int), ((a : Nat) : Int), ((t : Nat) : Int), 0, false) _ HRD.out.1 HRD.out.2 (by omega) (show (0 : Int) ≤ ((a : Nat) : Int) by omega) (show ((a : Nat) : Int) < (k : Int) by have := HAJ.out; omega)).mono ?_
            rintro e wh ⟨rfl, hb⟩
            have HSY := Lib.hid (show sylP l ns k (j + 1) = sylP l ns k j ++ [(((fr : Nat) : Int), ((a : Nat) : Int), ((t : Nat) : Int), (0 : Int), heavyF l (((fr : Nat) : Int), ((a : Nat) : Int), ((t : Nat) : Int), 0, false))] by rw [HSK.out.1, HSK.out.2.1])
            generalize heavyF l (((fr : Nat) : Int), ((a : Nat) : Int), ((t : Nat) : Int), 0, false) = hv at *
            have HH := Lib.hid (And.intro (HU.out.1.on hb) (HU.out.2.below hb HU.out.2.lt))
            clear hb HU HRD z0 z1 z2 z3 z4 HSK
            have z4 : wh.cell? ⟨pb, 4, none⟩ = some (.bool false) := HH.out.2.cell 4
            have f4 : wh.frozen? ⟨pb, 4, none⟩ = false := HH.out.2.frozen 4
            go_upto_region 30 with (fail)
            refine wp_abs (fun wz => RtSt w (.slice (some ⟨g4, 0, none⟩) M c4) (.slice (some ⟨g6, 0, none⟩) j c6) ns (sylP l ns k j) wz ∧ Blk wz pb 37 #[.int .i64 (fr : Nat), .int .i64 (a : Nat), .int .i64 (t : Nat), .int .i64 0, .bool hv]) ⟨HH.out.1.far NN.out.1 NN.out.2 hpb _, by simpa using HH.out.2.set_ 4 (.bool hv)⟩ ?_
            clear z4 f4 HH
            rintro wz hZ
            have HZ := Lib.hid hZ
            clear hZ
            have z0 : wz.cell? ⟨pb, 0, none⟩ = some (.int .i64 (fr : Nat)) := HZ.out.2.cell 0
            have z1 : wz.cell? ⟨pb, 1, none⟩ = some (.int .i64 (a : Nat)) := HZ.out.2.cell 1
            have z2 : wz.cell? ⟨pb, 2, none⟩ = some (.int .i64 (t : Nat)) := HZ.out.2.cell 2
            have z3 : wz.cell? ⟨pb, 3, none⟩ = some (.int .i64 0) := HZ.out.2.cell 3
            have z4 : wz.cell? ⟨pb, 4, none⟩ = some (.bool hv) := HZ.out.2.cell 4
            have hsz := HZ.out.1.below.size
            have HO6 := Lib.hid (show wz.ownsRow w.heap.size 37 5 (.slice (some ⟨g6, 0, none⟩) j c6) j (sys (sylP l ns k j)) by have := HZ.out.1.own6; rwa [HL6.out] at this)
            go_wp2_with (at_builtin; go_must (refine wpList_append_rd _ rfl _ _ 23 rfl w.heap.size 37 k0 (.agg #[.int .i64 0, .int .i64 0, .int .i64 0, .int .i64 0, .bool false]) 5 40 Try.underlying23 HK.out.1 HK.out.2.1 HK.out.2.2.1 HK.out.2.2.2 rfl (by decide) _ _ _ rfl (HO6.out.alloc _) _ _ _ 1 1 _ rfl (rd_new_eq rfl rfl) (by simp [Value.oneCell']) (by unfold maxLen; omega) (by omega) (by simp; omega) ?_; intro v9 w9 _ hown hgrow _; have HE := Lib.hid ((HZ.out.1.on ((Below.refl _ _).alloc (Nat.le_refl _) _)).app6 HL6.out (((fr : Nat) : Int), ((a : Nat) : Int), ((t : Nat) : Int), (0 : Int), hv) hown hgrow); clear hown hgrow))
            go_roundw
            case rel => exact ⟨j + 1, by omega, by go_num, Lib.hid (by rw [HSY.out]; exact HE.out)⟩
            case measure => simp [intOf]; omega
        · obtain rfl : j = M := by omega
          have dj : ¬ ((j : Int) < (j : Int)) := by omega
          go_wp2
          go_ret2
          exact ⟨.slice A6 j c6, by rw [HQ.out.1]; rfl, by rw [HQ.out.2]; have := HJ.out.own6; rw [sylP_len] at this ⊢; exact this, HJ.out.below⟩
end Go.Proofs.Ytogofchpocoebaa
