/- RhymeNames: the law walked. -/
import Derived.Test.YtogofchpocoebaaV12
import Derived.Test.YtogofchpocoebaaV9
import Derived.ArgAppend
import Derived.WalkMore
namespace Go.Proofs.Ytogofchpocoebaa
open Go.RowKit Go.Maps
attribute [local go_sem] Oper.semAt_some

/-- 'append(l, x)' whose result is not kept in l: the new slice reads as l and x; l is as it was -/
theorem wpList_beside {P : Program} {w : World} {ops : Array Oper} {rest : List Oper} {o : Oper} {a : Act} {Q : Exit → Act → World → Prop} (hg : o.guard = none) (s x : Operand) (t : TypeId) (hop : o.op = Op.call { callee := Callee.builtin Builtin.append, args := #[s, x], argTypes := #[t, t] })
    (e : TypeId) (i : TypeInfo) (z : Value) (bytes : Nat) (h1 : P.underlying t = some (.slice e)) (h2 : P.info? e = some i) (h3 : i.zero = some z) (h4 : i.size = 2) (h5 : i.bytes = bytes) (h6 : z.cells.size = 2)
    (base n : Nat) (v : Value) (xs : List Value) (hs : a.eval s = v) (hn : 0 < n) (ho : w.ownsRow base e 2 v n xs) (ad : Addr) (c : Nat) (y0 y1 : Value) (hx : a.eval x = .slice (some ad) 1 c) (hc : w.cell? ad = some y0 ∧ w.cell? (ad.add 1) = some y1) (k0 : y0.oneCell' = true ∧ y1.oneCell' = true)
    (b1 : n + 1 ≤ maxLen) (b2 : (n + 1) * bytes ≤ 140737488355328) (hbase : base ≤ w.heap.size)
    (K : ∀ A' c' w', Rd w' base w'.heap.size 2 A' (n + 1) (xs ++ [y0, y1]) → w'.ownsRow base e 2 v n xs → Only (fun k => v.ownBlock = some k) w w' → wpList P ops Q rest (a.put o.dst (.slice A' (n + 1) c')) w') : wpList P ops Q (o :: rest) a w := by
  have hl := ho.1
  rcases ho.2 with ⟨_, h0⟩ | ⟨g, cap, cur, hv, hb, hg2, hnc, hm, hsz, htk⟩
  · omega
  have hB : Blk w g e cur := hg2
  have hcell : ∀ (j : Nat) (u : Value), xs[j]? = some u → cur[j]? = some u := fun j u hj => by
    have : (cur.toList.take (n * 2))[j]? = some u := by rw [htk]; exact hj
    rw [List.getElem?_take] at this
    split at this
    · rw [← Array.getElem?_toList]; exact this
    · cases this
  refine wpList_append_arg w hg s x t hop e i z 2 bytes h1 h2 h3 h4 h5 h6 (by omega) g 0 n cap xs (hs.trans hv) hl (fun j u hj => by rw [Nat.zero_add]; exact (hB.cell j).trans (hcell j u hj)) ad 1 c [y0, y1] hx rfl (fun j u hj => ?_) (fun u hu => ?_) (fun hr j hj => ?_) b1 b2 (fun hr => ?_) (fun hr v' w' ho' hgr => ?_)
  · rcases j with _ | _ | j
    · simp at hj; subst hj; exact hc.1
    · simp at hj; subst hj; exact hc.2
    · simp at hj
  · simp at hu
    rcases hu with rfl | rfl
    · exact k0.1
    · exact k0.2
  · have hj2 : j < 2 := by simpa using hj
    exact ⟨by rw [hB.cell]; simp; omega, hB.frozen _⟩
  · have e1 : w.setCells g (0 + n * 2) [y0, y1] = (w.setCell ⟨g, n * 2, none⟩ y0).setCell ⟨g, n * 2 + 1, none⟩ y1 := by rw [Nat.zero_add]; rfl
    rw [e1]
    have hB2 := (hB.set_ (n * 2) y0).set_ (n * 2 + 1) y1
    have hat : ∀ (j : Nat) (u : Value), (xs ++ [y0, y1])[j]? = some u → ((cur.setIfInBounds (n * 2) y0).setIfInBounds (n * 2 + 1) y1)[j]? = some u := fun j u hj => by
      rw [Array.getElem?_setIfInBounds, Array.getElem?_setIfInBounds]
      by_cases q1 : j = n * 2 + 1
      · subst q1
        rw [if_pos rfl, if_pos (by simp; omega)]
        rw [List.getElem?_append_right (by omega)] at hj
        rw [show n * 2 + 1 - xs.length = 1 by omega] at hj
        exact hj
      · rw [if_neg (by omega)]
        by_cases q2 : j = n * 2
        · subst q2
          rw [if_pos rfl, if_pos (by omega)]
          rw [List.getElem?_append_right (by omega)] at hj
          rw [show n * 2 - xs.length = 0 by omega] at hj
          exact hj
        · rw [if_neg (by omega)]
          have hjl : j < xs.length := by
            have := (List.getElem?_eq_some_iff.1 hj).1
            simp at this
            omega
          rw [List.getElem?_append_left hjl] at hj
          exact hcell j u hj
    refine K _ _ _ ⟨by simp; omega, fun _ => ⟨g, 0, rfl, hb, hB2.lt, fun j u hj => by rw [Nat.zero_add]; exact (hB2.cell j).trans (hat j u hj)⟩⟩ ⟨hl, .inr ⟨g, cap, _, hv, hb, hB2, hnc, hm, by simpa using hsz, ?_⟩⟩ (((Only.refl _ _).setCell (.inl (by rw [hv]; rfl)) _).setCell (.inl (by rw [hv]; rfl)) _)
    rw [← htk]
    simp [List.take_set]
    rw [List.set_eq_of_length_le (by simp; omega), List.set_eq_of_length_le (by simp; omega)]
  · obtain ⟨A', c', rfl⟩ := own_slice ho'
    have hbl : Below w.heap.size w w' := (Only.refl (fun _ => False) w).grown hgr (fun _ h => by cases h) |>.below (Nat.le_refl _) (fun _ _ h => h)
    exact K _ _ _ ((own_rd ho').more hbase (Nat.le_refl _)) (own_stay ho (Only.of_below hbl _)) (Only.of_below hbl _)
/-- Web refuses what is too long -/
theorem web_much (X : Option Addr) (k cp : Nat) (most : Int) (w : World) (h : 512 < k) : Calls Try.prog 73 #[.slice X k cp, .int .i64 most] w fun e w' => e = .returned (.tuple #[.slice none 0 0, .int .i64 3]) ∧ Below w.heap.size w w' := by
  have d1 : decide ((512 : Int) < (k : Int)) = true := by simp; omega
  go_enter Try.func73, Try.ntmps73
  go_wp2
  refine wp_scope_straight ?_
  go_wp2
  rw [Exit.noGoto_ret]
  go_ret2
  exact ⟨rfl, Below.refl _ _⟩
/-- Pairs gives nothing of what is too long -/
theorem pairs_much (X : Option Addr) (k cp lb mb : Nat) (W : World) (hl : Blk W lb 102 #[.slice X k cp]) (h : 512 < k) :
    Gives Try.prog 134 #[.pointer (some ⟨lb, 0, none⟩), .pointer (some ⟨mb, 0, none⟩)] 0 (fun _ _ _ _ => False) (fun _ _ => False) (fun _ => False) W := by
  intro l J Jx _ _ _ h0
  show Calls Try.prog 134 #[.func (.yield l) #[] #[], .pointer (some ⟨lb, 0, none⟩), .pointer (some ⟨mb, 0, none⟩)] W _
  have HJ := Lib.hid h0
  have c0 : W.cell? ⟨lb, 0, none⟩ = some (.slice X k cp) := hl.cell 0
  clear h0 hl
  have d1 : decide ((512 : Int) < (k : Int)) = true := by simp; omega
  go_enter Try.func134, Try.ntmps134
  go_wp2
  (try simp only [Exit.inBlock, Exit.then]); refine bodyPost_ret (results_none rfl _ _ _) rfl ?_
  exact ⟨⟨_, rfl⟩, .inl HJ.out⟩
/-- the form the law makes -/
def a0 (q : Nat) : Sd := ⟨some ⟨q, 0, none⟩, 1, 1, some ⟨q + 1, 0, none⟩, 1, 1, [(97, false, 0)], [⟨0, 0, 1, 0, false⟩]⟩
theorem a0_may (q : Nat) : mayB (a0 q) = true := by show mayF [(97, false, 0)] [⟨0, 0, 1, 0, false⟩] == 0; kernel_rfl
theorem a0_key (q : Nat) : bts (texts (tailF (a0 q).l (a0 q).ss)) = ⟨#[97]⟩ := by show bts (texts (tailF [(97, false, 0)] [⟨0, 0, 1, 0, false⟩])) = _; kernel_rfl
theorem key_list : (⟨#[97]⟩ : ByteArray).toList = [97] := by first | kernel_rfl | simp | decide
theorem rep_all (q n : Nat) : (List.replicate n (a0 q)).all mayB = true := by
  rw [List.all_eq_true]
  intro x hx
  rw [(List.mem_replicate.1 hx).2]
  exact a0_may q
theorem rep_first (q : Nat) : (clsN (keysL (List.replicate 512 (a0 q)))).getD 511 0 = 0 := by
  have hl : (keysL (List.replicate 512 (a0 q))).length = 512 := by unfold keysL; rw [List.length_map, List.length_replicate]
  have h := cls_num (keysL (List.replicate 512 (a0 q)))
  rw [hl] at h
  have h1 := (h.iff 511 0 (by omega) (by omega)).2 (by unfold keysL; rw [List.map_replicate, List.getElem?_replicate, List.getElem?_replicate, if_pos (by omega), if_pos (by omega)])
  have h2 := h.mex 0 (by omega)
  try dsimp only at h1 h2
  rw [h1]
  rcases Nat.eq_zero_or_pos ((clsN (keysL (List.replicate 512 (a0 q)))).getD 0 0) with e | e
  · exact e
  · obtain ⟨j, hj, _⟩ := h2 0 e
    omega
/-- memory of the law: the result's cell, the form's box -/
structure NaSt (w : World) (q : Nat) (W : World) : Prop where
  res : Blk W w.heap.size 4 #[.bool false]
  ph : Blk W q 43 #[.int .i32 97, .bool false, .int .i32 0]
  sy : Blk W (q + 1) 37 #[.int .i64 0, .int .i64 0, .int .i64 1, .int .i64 0, .bool false]
  box : Blk W (q + 2) 25 #[.slice (some ⟨q, 0, none⟩) 1 1, .slice (some ⟨q + 1, 0, none⟩) 1 1]
  below : Below w.heap.size w W
  lq : w.heap.size < q
theorem NaSt.past {w W W' : World} {q : Nat} (h : NaSt w q W) (hb : Below (q + 3) W W') : NaSt w q W' := by
  have := h.lq
  exact ⟨h.res.below hb (by omega), h.ph.below hb (by omega), h.sy.below hb (by omega), h.box.below hb (by omega), h.below.trans (hb.mono (by omega)), h.lq⟩
theorem NaSt.on {w W W' : World} {q : Nat} (h : NaSt w q W) (hb : Below W.heap.size W W') : NaSt w q W' := h.past (hb.mono h.box.lt)
theorem NaSt.sd {w W : World} {q : Nat} (h : NaSt w q W) : SdIn W (q + 2) (a0 q) := by
  refine ⟨⟨rfl, fun _ => ⟨q, 0, rfl, Nat.zero_le _, by omega, fun j u hj => ?_⟩⟩, ⟨rfl, fun _ => ⟨q + 1, 0, rfl, Nat.zero_le _, by omega, fun j u hj => ?_⟩⟩, fun p hp => ?_, Nat.le_refl _⟩
  · rw [Nat.zero_add]; refine (h.ph.cell j).trans ?_; rw [List.getElem?_toArray]; exact hj
  · rw [Nat.zero_add]; refine (h.sy.cell j).trans ?_; rw [List.getElem?_toArray]; exact hj
  · have : p = (97, false, 0) := by simpa [a0] using hp
    subst this
    exact ⟨by unfold fit32; decide, by unfold fit32; decide⟩
/-- and the rows: the forms, the numbers -/
structure NbSt (w : World) (q : Nat) (v vc : Value) (W : World) : Prop where
  na : NaSt w q W
  ol : W.ownsRow (q + 3) 25 2 v 512 ((List.replicate 512 (a0 q)).flatMap sdC)
  oc : W.ownsRow (q + 3) 3 1 vc 512 ((clsN (keysL (List.replicate 512 (a0 q)))).map natV)
theorem NbSt.on {w W W' : World} {q : Nat} {v vc : Value} (h : NbSt w q v vc W) (hb : Below W.heap.size W W') : NbSt w q v vc W' :=
  ⟨h.na.on hb, own_stay h.ol (Only.of_below hb _), own_stay h.oc (Only.of_below hb _)⟩
theorem NbSt.beside {w W W' : World} {q : Nat} {v vc : Value} (h : NbSt w q v vc W) (ho : Only (fun k => v.ownBlock = some k) W W') (hl : W'.ownsRow (q + 3) 25 2 v 512 ((List.replicate 512 (a0 q)).flatMap sdC)) : NbSt w q v vc W' :=
  ⟨h.na.past (ho.below h.na.box.lt (fun k hk e => by have := own_ge' h.ol e; omega)), hl, own_keep h.oc (own_ne h.oc h.ol (by decide)) ho⟩
theorem rep_in {w W : World} {q : Nat} (h : NaSt w q W) {X : Option Addr} {n : Nat} {L : Nat} (hr : Rd W L W.heap.size 2 X n ((List.replicate n (a0 q)).flatMap sdC)) : SdsIn W W.heap.size X n (List.replicate n (a0 q)) :=
  ⟨hr.more (Nat.zero_le _) (Nat.le_refl _), fun x hx => by
    rw [(List.mem_replicate.1 hx).2]
    exact h.sd.more (Nat.le_of_lt h.box.lt)⟩
theorem zero_at {l : List Nat} (hl : l.length = 512) (h : l.getD 511 0 = 0) : (l.map natV)[511]? = some (.int .i64 0) := by
  rw [List.getD_eq_getElem?_getD, List.getElem?_eq_getElem (by omega)] at h
  rw [List.getElem?_map, List.getElem?_eq_getElem (by omega)]
  simp only [Option.getD_some] at h
  rw [h]
  rfl
theorem rep_cell (q : Nat) : ((clsN (keysL (List.replicate 512 (a0 q)))).map natV)[511]? = some (.int .i64 0) :=
  zero_at (by rw [clsN_len]; unfold keysL; rw [List.length_map, List.length_replicate]) (rep_first q)
theorem rep_next (q i : Nat) : (List.replicate i (a0 q)).flatMap sdC ++ [.slice (some ⟨q, 0, none⟩) 1 1, .slice (some ⟨q + 1, 0, none⟩) 1 1] = (List.replicate (i + 1) (a0 q)).flatMap sdC := by
  rw [List.replicate_succ', List.flatMap_append]
  rfl
set_option maxHeartbeats 8000000 in
set_option maxRecDepth 100000 in
theorem rhymeNames_any (w : World) : Calls Try.prog 15 #[] w fun e w' => e = .returned (.bool true) ∧ Below w.heap.size w w' := by
  have hi2 : (Try.prog.info? 25).map (fun i => (i.zero, i.size, i.bytes)) = some (some (.agg #[.slice none 0 0, .slice none 0 0]), 2, 48) := by kernel_rfl
  obtain ⟨i0, hi, hz0, hz1, hz2⟩ := info_parts hi2
  have HI := Lib.hid (And.intro hi (And.intro hz0 (And.intro hz1 hz2)))
  clear hi hz0 hz1 hz2 hi2
  refine calls_of_wp_marks Try.func15 rfl ?_
  simp only [Try.ntmps15, List.size_toArray, List.length_nil, Nat.reduceSub, Array.replicate_succ, Array.replicate_zero, List.push_toArray, List.append_toArray, List.nil_append, List.cons_append]
  go_upto_region 1 with (fail)
  refine wp_abs (fun wx => Blk wx w.heap.size 4 #[.bool false] ∧ Below w.heap.size w wx) ⟨Blk.new _ _ _, (Below.refl _ _).alloc (Nat.le_refl _) _⟩ ?_
  rintro w1 ⟨b0, hb⟩
  have H1 := Lib.hid (And.intro b0 hb)
  clear b0 hb
  go_wp2_with fail
  refine (wakes15_any w1).mono ?_
  rintro e w2 ⟨rfl, hb⟩
  have H2 := Lib.hid (And.intro (H1.out.1.below hb H1.out.1.lt) (H1.out.2.trans (hb.mono H1.out.2.size)))
  clear hb H1
  go_upto_region 4 with (fail)
  have hq2 := H2.out.1.lt
  refine wp_abs (NaSt w w2.heap.size) ⟨((H2.out.1.alloc _).alloc _).alloc _, ((Blk.new _ _ _).alloc _).alloc _, (blk_new_eq (by simp)).alloc _, blk_new_eq (by simp), ((H2.out.2.alloc H2.out.2.size _).alloc (by simp; omega) _).alloc (by simp; omega) _, hq2⟩ ?_
  intro w3 hS
  have H3 := Lib.hid hS
  clear hS H2
  generalize w2.heap.size = q at *
  go_wp2
  go_loopw [2, 3] (fun v2 v3 wr => ∃ i : Nat, i ≤ 512 ∧ v3 = .int .i64 i ∧ Hid (wr.ownsRow (q + 3) 25 2 v2 i ((List.replicate i (a0 q)).flatMap sdC) ∧ NaSt w q wr)) (fun _ v3 _ => 512 - (intOf v3).toNat)
  case atStart => exact ⟨0, by omega, rfl, Lib.hid ⟨World.ownsRow_nil _ _ _ _, H3.out⟩⟩
  case round =>
    obtain ⟨i, hi, rfl, HR⟩ := hrel
    clear H3
    have hql := HR.out.2.box.lt
    by_cases hlt : i < 512
    · have i1 : (0 : Int) ≤ (i : Int) := by omega
      have di : decide ((i : Int) < 512) = true := by simp; omega
      have x0 : wr.cell? ⟨q + 2, 0, none⟩ = some (.slice (some ⟨q, 0, none⟩) 1 1) := HR.out.2.box.cell 0
      have x1 : wr.cell? ⟨q + 2, 1, none⟩ = some (.slice (some ⟨q + 1, 0, none⟩) 1 1) := HR.out.2.box.cell 1
      go_wp2_with (at_builtin; go_must (refine wpList_append_rd _ rfl _ _ 102 rfl (q + 3) 25 i0 (.agg #[.slice none 0 0, .slice none 0 0]) 2 48 Try.underlying102 HI.out.1 HI.out.2.1 HI.out.2.2.1 HI.out.2.2.2 rfl (by decide) _ _ _ rfl (HR.out.1.alloc _) _ _ _ 1 1 _ rfl (rd_new _ _ #[.slice (some ⟨q, 0, none⟩) 1 1, .slice (some ⟨q + 1, 0, none⟩) 1 1] 2 rfl) (by simp [Value.oneCell']) (by unfold maxLen; omega) (by omega) (by simp; omega) ?_; intro v4 w5 _ hown hgrow _; have HN := Lib.hid (And.intro hown (HR.out.2.past (((Below.refl _ wr).alloc hql _).grown hgrow (by simp; omega) (fun g hg => own_ge' HR.out.1 hg)))); clear hown hgrow))
      go_roundw
      case rel => exact ⟨i + 1, by omega, by go_num, Lib.hid ⟨by rw [← rep_next]; exact HN.out.1, HN.out.2⟩⟩
      case measure => simp [intOf]; omega
    · obtain rfl : i = 512 := by omega
      have di : decide (((512 : Nat) : Int) < 512) = false := by decide
      obtain ⟨X, CP, rfl⟩ := own_slice HR.out.1
      have HO := Lib.hid HR.out.1
      have HSI := Lib.hid (rep_in HR.out.2 (own_rd HR.out.1))
      go_wp2_with fail
      refine (classes_any X 512 CP wr.heap.size (List.replicate 512 (a0 q)) wr HSI.out (Nat.le_refl _) (by omega)).mono ?_
      rintro e w4 ⟨v, rfl, ho, hb⟩
      have ho := ho (rep_all q 512)
      rw [rep_all, if_pos rfl]
      obtain ⟨A1, C1, rfl⟩ := own_slice ho
      have H4 := Lib.hid (show NbSt w q (.slice X 512 CP) (.slice A1 512 C1) w4 from ⟨HR.out.2.on hb, own_stay HO.out (Only.of_below hb _), own_more ho (by omega)⟩)
      clear ho hb HR HO HSI
      have x0 : w4.cell? ⟨q + 2, 0, none⟩ = some (.slice (some ⟨q, 0, none⟩) 1 1) := H4.out.na.box.cell 0
      have x1 : w4.cell? ⟨q + 2, 1, none⟩ = some (.slice (some ⟨q + 1, 0, none⟩) 1 1) := H4.out.na.box.cell 1
      go_wp2_with (at_builtin; go_must (refine wpList_beside rfl _ _ 102 rfl 25 i0 _ 48 Try.underlying102 HI.out.1 HI.out.2.1 HI.out.2.2.1 HI.out.2.2.2 rfl (q + 3) 512 _ _ rfl (by omega) (H4.out.ol.alloc _) ⟨w4.heap.size, 0, none⟩ 1 (.slice (some ⟨q, 0, none⟩) 1 1) (.slice (some ⟨q + 1, 0, none⟩) 1 1) rfl ⟨(Blk.new w4 _ _).cell 0, (Blk.new w4 _ _).cell 1⟩ ⟨rfl, rfl⟩ (by unfold maxLen; omega) (by omega) (by have := H4.out.na.box.lt; simp; omega) ?_; intro A2 C2 w5 hrd hown ho; have H5 := Lib.hid ((H4.out.on ((Below.refl _ _).alloc (Nat.le_refl _) _)).beside ho hown); clear hrd hown ho))
      refine (classes_long A2 513 C2 w5 (by omega)).mono ?_
      rintro e w6 ⟨rfl, hb⟩
      have H6 := Lib.hid (H5.out.on hb)
      clear hb H5 H4 x0 x1
      go_wp2_with (at_builtin; go_must (refine wpList_beside rfl _ _ 102 rfl 25 i0 _ 48 Try.underlying102 HI.out.1 HI.out.2.1 HI.out.2.2.1 HI.out.2.2.2 rfl (q + 3) 512 _ _ rfl (by omega) (H6.out.ol.alloc _) ⟨w6.heap.size, 0, none⟩ 1 (.slice none 0 0) (.slice none 0 0) rfl ⟨(Blk.new w6 _ _).cell 0, (Blk.new w6 _ _).cell 1⟩ ⟨rfl, rfl⟩ (by unfold maxLen; omega) (by omega) (by have := H6.out.na.box.lt; simp; omega) ?_; intro A3 C3 w7 hrd hown ho; have H7 := Lib.hid ((H6.out.on ((Below.refl _ _).alloc (Nat.le_refl _) _)).beside ho hown); clear hrd hown ho))
      refine (web_much A3 513 C3 (-1) w7 (by omega)).mono ?_
      rintro e w8 ⟨rfl, hb⟩
      have H8 := Lib.hid (H7.out.on hb)
      clear hb H7 H6
      have x0 : w8.cell? ⟨q + 2, 0, none⟩ = some (.slice (some ⟨q, 0, none⟩) 1 1) := H8.out.na.box.cell 0
      have x1 : w8.cell? ⟨q + 2, 1, none⟩ = some (.slice (some ⟨q + 1, 0, none⟩) 1 1) := H8.out.na.box.cell 1
      go_wp2_with (at_builtin; go_must (refine wpList_beside rfl _ _ 102 rfl 25 i0 _ 48 Try.underlying102 HI.out.1 HI.out.2.1 HI.out.2.2.1 HI.out.2.2.2 rfl (q + 3) 512 _ _ rfl (by omega) (H8.out.ol.alloc _) ⟨w8.heap.size, 0, none⟩ 1 (.slice (some ⟨q, 0, none⟩) 1 1) (.slice (some ⟨q + 1, 0, none⟩) 1 1) rfl ⟨(Blk.new w8 _ _).cell 0, (Blk.new w8 _ _).cell 1⟩ ⟨rfl, rfl⟩ (by unfold maxLen; omega) (by omega) (by have := H8.out.na.box.lt; simp; omega) ?_; intro A4 C4 w9 hrd hown ho; have H9 := Lib.hid ((H8.out.on ((Below.refl _ _).alloc (Nat.le_refl _) _)).beside ho hown); clear hrd hown ho))
      refine (pairs_call A4 513 C4 9 w9).mono ?_
      rintro e w10 ⟨rfl, hw10⟩
      have H10 := Lib.hid (And.intro (show NbSt w q (.slice X 512 CP) (.slice A1 512 C1) w10 by rw [hw10]; exact H9.out.on (((Below.refl _ _).alloc (Nat.le_refl _) _).alloc (by simp) _)) (show Blk w10 w9.heap.size 102 #[.slice A4 513 C4] by rw [hw10]; exact (Blk.new _ _ _).alloc _))
      clear hw10 H8 H9 x0 x1
      generalize w9.heap.size = pb at *
      go_wp2
      refine wp_range_none (gf := 134) (lb := #[.pointer (some ⟨pb, 0, none⟩), .pointer (some ⟨pb + 1, 0, none⟩)]) rfl (enters_of Try.func134 (by kernel_rfl) rfl) (fun W hb _ => pairs_much A4 513 C4 pb (pb + 1) W (H10.out.2.below hb H10.out.2.lt) (by omega)) ?_
      intro W hb hmk
      have H11 := Lib.hid (And.intro (H10.out.1.on hb) hmk)
      have hms : w.heap.size + 1 ≤ w10.heap.size := by have := H10.out.1.na.box.lt; omega
      have HMS := Lib.hid hms
      clear hb hmk H10 hms
      generalize w10.heap.size = mk at *
      go_wp2_with fail
      refine (classes_any none 0 0 W.heap.size [] W ⟨Rd.nil, fun x hx => absurd hx (by simp)⟩ (Nat.le_refl _) (by omega)).mono ?_
      rintro e w12 ⟨v0, rfl, ho, hb⟩
      have ho := ho rfl
      obtain ⟨A0, C0, rfl⟩ := own_slice ho
      rw [if_pos (show ([] : List Sd).all mayB = true from rfl)]
      have H12 := Lib.hid (And.intro (H11.out.1.on hb) ((hb.block mk (Array.getElem?_eq_some_iff.1 H11.out.2).1).trans H11.out.2))
      clear hb ho H11
      have x0 : w12.cell? ⟨q + 2, 0, none⟩ = some (.slice (some ⟨q, 0, none⟩) 1 1) := H12.out.1.na.box.cell 0
      have x1 : w12.cell? ⟨q + 2, 1, none⟩ = some (.slice (some ⟨q + 1, 0, none⟩) 1 1) := H12.out.1.na.box.cell 1
      go_wp2_with fail
      refine (keyUp_any (a0 q) (q + 2) w12 H12.out.1.na.sd (Nat.le_of_lt H12.out.1.na.box.lt)).mono ?_
      rintro e w13 ⟨rfl, hb⟩
      rw [a0_may, if_pos rfl]
      have hk : (bts (texts (tailF (a0 q).l (a0 q).ss))).toList = [97] := by rw [a0_key]; exact key_list
      generalize bts (texts (tailF (a0 q).l (a0 q).ss)) = s at *
      have H13 := Lib.hid (And.intro (H12.out.1.on hb) ((hb.block mk (Array.getElem?_eq_some_iff.1 H12.out.2).1).trans H12.out.2))
      clear hb H12 x0 x1
      obtain ⟨bc, oc, ec, _, _, hc⟩ := (own_rd H13.out.1.oc).2 (by omega)
      have hc0 := hc 511 (.int .i64 0) (rep_cell q)
      have r0 : w13.cell? ⟨w.heap.size, 0, none⟩ = some (.bool false) := H13.out.1.na.res.cell 0
      have r1 : w13.frozen? ⟨w.heap.size, 0, none⟩ = false := H13.out.1.na.res.frozen 0
      rw [ec]
      clear hc ec ho hq2 hi hlt di hql
      go_upto_region 16 with (fail)
      go_wp2
      have hmks : Marks (w.heap.size + 1) [{ target := .collected mk, args := #[] }] (w13.setCell ⟨w.heap.size, 0, none⟩ (.bool true)) := ⟨mk, rfl, HMS.out, (Below.heap_setCell _ _ _ _ (by have := HMS.out; simp; omega)).trans H13.out.2, fun d hd => absurd hd (by simp), trivial⟩
      refine bodyPostM_ret (B := w.heap.size + 1) hmks ?_
      intro w' hb
      have g : w'.cell? ⟨w.heap.size, 0, none⟩ = some (.bool true) := by
        have := ((H13.out.1.na.res.set_ 0 (.bool true)).below hb (by omega)).cell 0
        simpa using this
      refine ⟨.bool true, by simp [results, Try.results15, go_sem, g], rfl, (H13.out.1.na.below.setCell (by simp) _).trans (hb.mono (by omega))⟩
end Go.Proofs.Ytogofchpocoebaa
