/- syllable.Lay, the reference's Lay, slices.Clone of ints. -/
import Derived.Test.YtogofchpocoebaaW25
import Derived.Test.YtogofchpocoebaaW15
import Derived.Test.YtogofchpocoebaaW11
import Derived.Test.YtogofchpocoebaaW17
namespace Go.Proofs.Ytogofchpocoebaa
open Go.RowKit Go.Maps

def ints (l : List Int) : List Value := l.map (Value.int .i64)
theorem ints_len (l : List Int) : (ints l).length = l.length := by simp [ints]
theorem Rd.len_int {w : World} {L B n : Nat} {A : Option Addr} {l : List Int} (h : Rd w L B 1 A n (ints l)) : l.length = n := by have := h.1; rw [ints_len] at this; omega
theorem Rd.intAt {w : World} {L B n : Nat} {A : Option Addr} {l : List Int} (h : Rd w L B 1 A n (ints l)) {k : Nat} (hk : k < n) : ∃ (b o : Nat) (hl : k < l.length), A = some ⟨b, o, none⟩ ∧ w.cell? ⟨b, o + k, none⟩ = some (.int .i64 l[k]) := by
  have hl : k < l.length := by rw [h.len_int]; exact hk
  obtain ⟨b, o, e, _, _, hc⟩ := h.2 (by omega)
  exact ⟨b, o, hl, e, hc k _ (by unfold ints; rw [List.getElem?_map, List.getElem?_eq_getElem hl]; rfl)⟩
def okSt (x : Int) : Bool := decide (0 ≤ x) && decide (x ≤ 2)
/-- syllables of which the first k have the stresses that are told -/
def lyK (ss : List Sy) (st : List Int) (k : Nat) : List Sy := (List.range ss.length).map fun i => if i < k then setSt (ss.getD i sy0) (st.getD i 0) else ss.getD i sy0
theorem lyK_len (ss : List Sy) (st : List Int) (k : Nat) : (lyK ss st k).length = ss.length := by simp [lyK]
theorem lyK_get {ss : List Sy} {st : List Int} {k i : Nat} (h : i < ss.length) : (lyK ss st k)[i]? = some (if i < k then setSt (ss.getD i sy0) (st.getD i 0) else ss.getD i sy0) := by
  unfold lyK
  rw [List.getElem?_map, List.getElem?_range h]
  rfl
theorem lyK_zero (ss : List Sy) (st : List Int) : lyK ss st 0 = ss := by
  apply List.ext_getElem?
  intro i
  rcases Nat.lt_or_ge i ss.length with h | h
  · rw [lyK_get h, if_neg (by omega), List.getD_eq_getElem?_getD, List.getElem?_eq_getElem h]; rfl
  · rw [List.getElem?_eq_none (by rw [lyK_len]; exact h), List.getElem?_eq_none h]
theorem lyK_at {ss : List Sy} {st : List Int} {k : Nat} (h : k < ss.length) : (lyK ss st k).getD k sy0 = ss.getD k sy0 := by
  rw [List.getD_eq_getElem?_getD, lyK_get h, if_neg (by omega)]
  rfl
theorem lyK_step {ss : List Sy} {st : List Int} {k : Nat} (h : k < ss.length) : (lyK ss st k).set k (setSt (ss.getD k sy0) (st.getD k 0)) = lyK ss st (k + 1) := by
  apply List.ext_getElem?
  intro i
  rw [List.getElem?_set]
  rcases Nat.lt_or_ge i ss.length with hi | hi
  · rw [lyK_get hi]
    by_cases e : k = i
    · subst e
      rw [if_pos rfl, if_pos (by rw [lyK_len]; exact hi), lyK_get hi, if_pos (by omega)]
    · rw [if_neg e, lyK_get hi]
      by_cases e2 : i < k
      · rw [if_pos e2, if_pos (by omega)]
      · rw [if_neg e2, if_neg (by omega)]
  · rw [if_neg (by omega), List.getElem?_eq_none (by rw [lyK_len]; exact hi), List.getElem?_eq_none (by rw [lyK_len]; exact hi)]
/-- what Lay answers -/
def layR (l : List Ph) (st : List Int) (rule : Int) : List Sy × Int :=
  if rule < 1 ∨ 4 < rule then ([], 2) else if spE l ≠ 0 then ([], spE l) else if st.length = 0 then (stL (spL l) rule, stE (spL l) rule)
  else if st.length ≠ (spL l).length then ([], 2) else if st.all okSt then (lyK (spL l) st st.length, 0) else ([], 2)
theorem SrSt.put {w0 : World} {out : List Sy} {W : World} {g cap m : Nat} (h : SrSt w0 (.slice (some ⟨g, 0, none⟩) m cap) out W) (hm : out.length = m) (i : Nat) (u : Value) (out' : List Sy) (he : (sys out).set i u = sys out') (hl : out'.length = m) : SrSt w0 (.slice (some ⟨g, 0, none⟩) m cap) out' (W.setCell ⟨g, i, none⟩ u) := by
  subst hm
  have hg : w0.heap.size ≤ g := (h.own.lt g rfl).1
  refine ⟨?_, h.below.setCell hg _⟩
  rw [hl, ← he]
  exact own_set h.own i u

set_option maxHeartbeats 4000000 in
set_option maxRecDepth 100000 in
theorem cloneI_any' (A : Option Addr) (n c L B : Nat) (ls : List Int) (w : World) (h : Rd w L B 1 A n (ints ls)) (hn : n * 8 ≤ 140737488351232) :
    Calls Try.prog 95 #[.slice A n c] w fun e w' => ∃ A' C', e = .returned (.slice A' n C') ∧ w'.ownsRow w.heap.size 3 1 (.slice A' n C') n (ints ls) ∧ Below w.heap.size w w' := by
  have q71 : ∀ (w : World) (a : Option Addr) (n c n' c' : Nat), (binOp .eql 71 (.slice a n c) (.slice none n' c')).run Try.prog w = .ok (.bool a.isNone) w := fun w a n c n' c' => Lib.run_eql_slice_nil w _ _ a n c n' c' Try.underlying71
  have u71 : ∀ w, Sem.run Try.prog (underlying 71) w = .ok (TypeDesc.slice 3) w := run_underlying Try.underlying71
  have H := Lib.hid h
  clear h
  cases A with
  | none =>
    have hn0 : n = 0 := by
      rcases Nat.eq_zero_or_pos n with h0 | h0
      · exact h0
      · obtain ⟨_, _, e, _⟩ := H.out.2 (by omega); cases e
    subst hn0
    have hl : ints ls = [] := List.eq_nil_of_length_eq_zero (by have := H.out.1; omega)
    rw [hl]
    go_enter Try.func95, Try.ntmps95
    go_wp2
    go_ret
    exact ⟨none, 0, rfl, World.ownsRow_nil _ _ _ _, Below.refl _ _⟩
  | some ad =>
    obtain ⟨j0, hj, jz0, jz1, jz2⟩ := info_parts info3a
    go_enter Try.func95, Try.ntmps95
    go_wp2_with (at_builtin; refine wpList_append_own _ rfl _ _ 71 rfl w.heap.size 3 j0 (.int .i64 0) 1 8 Try.underlying71 hj jz0 jz1 jz2 rfl (by decide) _ _ _ rfl (World.ownsRow_made w #[] 0 (Nat.le_refl _) (Nat.zero_le _) rfl) ad n c (ints ls) rfl ?qc1 ?qc2 ?qc3 ?qc4 ?qc5 ?qc6 ?_)
    case qc1 => exact H.out.1
    case qc2 =>
      intro j u hu
      exact Lib.cell?_alloc_some _ (H.out.at_add j u hu)
    case qc3 =>
      intro u hu
      obtain ⟨z, _, rfl⟩ := List.mem_map.1 hu
      rfl
    case qc4 => unfold maxLen; omega
    case qc5 => omega
    case qc6 => simp
    intro v' w1 hown hgrow hnil
    obtain ⟨A', C', rfl⟩ := own_slice hown
    go_wp2
    go_ret
    exact ⟨A', C', rfl, by simpa using hown, ((Below.refl _ w).alloc (Nat.le_refl _) _).grown hgrow (by simp) (by intro k hk; simp [Value.ownBlock] at hk; omega)⟩


set_option maxHeartbeats 16000000 in
set_option maxRecDepth 100000 in
theorem lay_any (A S : Option Addr) (n c m d : Nat) (l : List Ph) (st : List Int) (rule : Int) (w : World) (h : Rd w 0 w.heap.size 3 A n (phs l)) (h2 : Rd w 0 w.heap.size 1 S m (ints st)) (hnc : n ≤ c) (_hn : n ≤ maxLen) (hf : ∀ p ∈ l, fitP p) :
    Calls Try.prog 94 #[.slice A n c, .slice S m d, .int .i64 rule] w fun e w' => ∃ v, e = .returned (.tuple #[v, .int .i64 (layR l st rule).2]) ∧ w'.ownsRow w.heap.size 37 5 v (layR l st rule).1.length (sys (layR l st rule).1) ∧ Below w.heap.size w w' := by
  have HR := Lib.hid (show layR l st rule = if rule < 1 ∨ 4 < rule then ([], 2) else if spE l ≠ 0 then ([], spE l) else if st.length = 0 then (stL (spL l) rule, stE (spL l) rule)
    else if st.length ≠ (spL l).length then ([], 2) else if st.all okSt then (lyK (spL l) st st.length, 0) else ([], 2) from rfl)
  have hm := h2.len_int
  have HM := Lib.hid hm
  have HS := Lib.hid h2
  have HSPL := Lib.hid (split_any A n c 0 _ l w h (Nat.le_refl _) hnc hf)
  clear h h2
  obtain ⟨RR, hRR⟩ : ∃ RR, layR l st rule = RR := ⟨_, rfl⟩
  rw [hRR]
  have HRR := Lib.hid hRR
  clear hRR
  by_cases q1 : rule < 1
  · have he : RR = ([], 2) := by rw [← HRR.out, HR.out, if_pos (.inl q1)]
    subst he
    have d1 : decide (rule < 1) = true := decide_eq_true q1
    go_enter Try.func94, Try.ntmps94
    go_wp2
    go_ret2
    exact ⟨.slice none 0 0, rfl, World.ownsRow_nil _ _ _ _, Below.refl _ _⟩
  have d1 : decide (rule < 1) = false := decide_eq_false q1
  by_cases q2 : 4 < rule
  · have he : RR = ([], 2) := by rw [← HRR.out, HR.out, if_pos (.inr q2)]
    subst he
    have d2 : decide (4 < rule) = true := decide_eq_true q2
    go_enter Try.func94, Try.ntmps94
    go_wp2
    go_ret2
    exact ⟨.slice none 0 0, rfl, World.ownsRow_nil _ _ _ _, Below.refl _ _⟩
  have d2 : decide (4 < rule) = false := decide_eq_false q2
  have HR2 := Lib.hid (show RR = if spE l ≠ 0 then ([], spE l) else if st.length = 0 then (stL (spL l) rule, stE (spL l) rule)
    else if st.length ≠ (spL l).length then ([], 2) else if st.all okSt then (lyK (spL l) st st.length, 0) else ([], 2) by rw [← HRR.out, HR.out, if_neg (by omega)])
  clear HR HRR
  have HL128 := Lib.hid (fun h : spE l = 0 => (may_fit (may_split h)).2.2)
  generalize spL l = ss at *
  generalize spE l = E at *
  by_cases hE : E = 0
  case neg =>
    have he : RR = ([], E) := by rw [HR2.out, if_pos hE]
    subst he
    have dE : (E != 0) = true := by simpa using hE
    clear hE
    go_enter Try.func94, Try.ntmps94
    go_wp2_with fail
    refine HSPL.out.mono ?_
    rintro e w2 ⟨v, rfl, ho, hb⟩
    obtain ⟨D, dd, rfl⟩ := own_slice ho
    have H2 := Lib.hid hb
    clear hb ho HSPL
    go_wp2
    go_ret2
    exact ⟨.slice none 0 0, rfl, World.ownsRow_nil _ _ _ _, H2.out⟩
  have HR3 := Lib.hid (show RR = if st.length = 0 then (stL ss rule, stE ss rule) else if st.length ≠ ss.length then ([], 2) else if st.all okSt then (lyK ss st st.length, 0) else ([], 2) by rw [HR2.out, if_neg (by rw [hE]; decide)])
  have hss := HL128.out hE
  subst hE
  clear HR2 HL128
  obtain ⟨M, hM⟩ : ∃ M, ss.length = M := ⟨_, rfl⟩
  have HMM := Lib.hid hM
  rw [hM] at HSPL HR3 hss
  rw [hm] at HR3
  clear hM hm
  by_cases hm0 : m = 0
  · have he : RR = (stL ss rule, stE ss rule) := by rw [HR3.out, if_pos hm0]
    subst he
    have dm : ((m : Int) == 0) = true := by rw [hm0]; rfl
    clear hm0
    go_enter Try.func94, Try.ntmps94
    go_wp2_with fail
    refine HSPL.out.mono ?_
    rintro e w2 ⟨v, rfl, ho, hb⟩
    obtain ⟨D, dd, rfl⟩ := own_slice ho
    have H2 := Lib.hid (And.intro ((own_rd ho).more (Nat.zero_le _) (Nat.le_refl _)) hb)
    clear hb ho HSPL
    go_wp2_with fail
    refine (stress_any _ _ dd 0 _ ss rule _ H2.out.1 (Nat.le_refl _)).mono ?_
    rintro e w3 ⟨v, rfl, ho, hb⟩
    have H3 := Lib.hid (And.intro (own_more ho H2.out.2.size) (H2.out.2.trans (hb.mono H2.out.2.size)))
    clear hb ho H2
    go_wp2
    go_ret2
    exact ⟨_, rfl, H3.out.1, H3.out.2⟩
  have dm : ((m : Int) == 0) = false := beq_eq_false_iff_ne.2 (by omega)
  by_cases hmM : m = M
  case neg =>
    have he : RR = ([], 2) := by rw [HR3.out, if_neg hm0, if_pos hmM]
    subst he
    have dM : ((m : Int) != (M : Int)) = true := by have : (m : Int) ≠ (M : Int) := by omega
                                                    simpa using this
    have dM2 : ¬ m = M := hmM
    clear hm0 hmM
    go_enter Try.func94, Try.ntmps94
    go_wp2_with fail
    refine HSPL.out.mono ?_
    rintro e w2 ⟨v, rfl, ho, hb⟩
    obtain ⟨D, dd, rfl⟩ := own_slice ho
    have H2 := Lib.hid hb
    clear hb ho HSPL
    go_wp2
    go_ret2
    exact ⟨.slice none 0 0, rfl, World.ownsRow_nil _ _ _ _, H2.out⟩
  subst hmM
  have HR4 := Lib.hid (show RR = if st.all okSt then (lyK ss st m, 0) else ([], 2) by rw [HR3.out, if_neg hm0, if_neg (by simp)])
  clear HR3
  go_enter Try.func94, Try.ntmps94
  go_wp2_with fail
  refine HSPL.out.mono ?_
  rintro e w2 ⟨v, rfl, ho, hb⟩
  obtain ⟨D, dd, rfl⟩ := own_slice ho
  obtain ⟨g, rfl, _, _⟩ := own_addr ho (by omega)
  have H2 := Lib.hid (show SrSt w (.slice (some ⟨g, 0, none⟩) m dd) ss w2 from ⟨by rw [HMM.out]; exact ho, hb⟩)
  clear hb ho HSPL hm0
  go_wp2
  go_loopw [10, 11, 44] (fun _ _ v44 wr => ∃ k : Nat, k ≤ m ∧ v44 = .int .i64 k ∧ Hid (SrSt w (.slice (some ⟨g, 0, none⟩) m dd) (lyK ss st k) wr ∧ (st.take k).all okSt = true)) (fun _ _ v44 _ => m - (intOf v44).toNat)
  case atStart => exact ⟨0, by omega, rfl, Lib.hid ⟨by rw [lyK_zero]; exact H2.out, by simp⟩⟩
  case round =>
    obtain ⟨k, hk, rfl, HI⟩ := hrel
    clear H2
    by_cases hlt : k < m
    · obtain ⟨b, o, hl0, rfl, x0⟩ := (HS.out.below HI.out.1.below (Nat.le_refl _)).intAt hlt
      have hsn : st.take (k + 1) = st.take k ++ [st[k]] := List.take_succ_eq_append_getElem hl0
      have hgd : st.getD k 0 = st[k] := by rw [List.getD_eq_getElem?_getD, List.getElem?_eq_getElem hl0]; rfl
      have hbad : okSt st[k] = false → RR = ([], 2) := fun h => by
        rw [HR4.out, if_neg]
        intro ha
        rw [List.all_eq_true.1 ha _ (List.getElem_mem hl0)] at h
        cases h
      have hstp := lyK_step (ss := ss) (st := st) (k := k) (by rw [HMM.out]; exact hlt)
      rw [hgd] at hstp
      have hle : (lyK ss st k).length = m := by rw [lyK_len]; exact HMM.out
      have hle2 : (lyK ss st (k + 1)).length = m := by rw [lyK_len]; exact HMM.out
      have hat := lyK_at (ss := ss) (st := st) (k := k) (by rw [HMM.out]; exact hlt)
      have hown := HI.out.1.own
      rw [hle] at hown
      obtain ⟨⟨_, z3⟩, f3⟩ := own_at hown (i := k * 5 + 3) (by omega)
      have HX := Lib.hid (And.intro hsn (And.intro hbad (And.intro hstp (And.intro hle (And.intro hle2 hat)))))
      clear hown hsn hgd hbad hstp hle hle2 hat
      generalize st[k] = x at *
      have i1 : (0 : Int) ≤ (k : Int) := by omega
      have i2 : (k : Int) < (m : Int) := by omega
      by_cases s1 : x < 0
      · have b1 : decide (x < 0) = true := decide_eq_true s1
        have HB := Lib.hid (HX.out.2.1 (by unfold okSt; rw [decide_eq_false (by omega)]; rfl))
        clear HX
        go_wp2
        go_ret2
        exact ⟨.slice none 0 0, by rw [HB.out]; rfl, by rw [HB.out]; exact World.ownsRow_nil _ _ _ _, HI.out.1.below⟩
      have b1 : decide (x < 0) = false := decide_eq_false s1
      by_cases s2 : 2 < x
      · have b2 : decide (2 < x) = true := decide_eq_true s2
        have HB := Lib.hid (HX.out.2.1 (by unfold okSt; rw [decide_eq_false (p := x ≤ 2) (by omega), Bool.and_false]))
        clear HX
        go_wp2
        go_ret2
        exact ⟨.slice none 0 0, by rw [HB.out]; rfl, by rw [HB.out]; exact World.ownsRow_nil _ _ _ _, HI.out.1.below⟩
      have b2 : decide (2 < x) = false := decide_eq_false s2
      have HOK := Lib.hid (show okSt x = true by unfold okSt; rw [decide_eq_true (by omega), decide_eq_true (by omega)]; rfl)
      have HE := Lib.hid (HI.out.1.put HX.out.2.2.2.1 (k * 5 + 3) (.int .i64 x) (lyK ss st (k + 1)) (by rw [sys_st _ _ _ (by rw [HX.out.2.2.2.1]; exact hlt), HX.out.2.2.2.2.2, HX.out.2.2.1]) HX.out.2.2.2.2.1)
      have HA := Lib.hid (show (st.take (k + 1)).all okSt = true by rw [HX.out.1, List.all_append, HI.out.2]; simp [HOK.out])
      clear HI HX s1 s2
      go_wp2
      go_roundw
      case rel => exact ⟨k + 1, by omega, by go_num, Lib.hid ⟨HE.out, HA.out⟩⟩
      case measure => simp [intOf]; omega
    · obtain rfl : k = m := by omega
      have di : ¬ ((k : Int) < (k : Int)) := by omega
      have HB := Lib.hid (show RR = (lyK ss st k, 0) by
        have := HI.out.2
        rw [List.take_of_length_le (by rw [HM.out]; exact Nat.le_refl _)] at this
        rw [HR4.out, if_pos this])
      have HLL := Lib.hid (show (lyK ss st k).length = k by rw [lyK_len]; exact HMM.out)
      go_wp2
      go_ret2
      exact ⟨.slice (some ⟨g, 0, none⟩) k dd, by rw [HB.out]; rfl, by rw [HB.out]; exact HI.out.1.own, HI.out.1.below⟩


set_option maxHeartbeats 16000000 in
set_option maxRecDepth 100000 in
theorem refLay_any (A S : Option Addr) (n c m d : Nat) (l : List Ph) (st : List Int) (rule : Int) (w : World) (h : Rd w 0 w.heap.size 3 A n (phs l)) (h2 : Rd w 0 w.heap.size 1 S m (ints st)) (hnc : n ≤ c) (hn : n ≤ maxLen) :
    Calls Try.prog 96 #[.slice A n c, .slice S m d, .int .i64 rule] w fun e w' => ∃ v, e = .returned (.tuple #[v, .int .i64 (layR l st rule).2]) ∧ w'.ownsRow w.heap.size 37 5 v (layR l st rule).1.length (sys (layR l st rule).1) ∧ Below w.heap.size w w' := by
  have HR := Lib.hid (show layR l st rule = if rule < 1 ∨ 4 < rule then ([], 2) else if spE l ≠ 0 then ([], spE l) else if st.length = 0 then (stL (spL l) rule, stE (spL l) rule)
    else if st.length ≠ (spL l).length then ([], 2) else if st.all okSt then (lyK (spL l) st st.length, 0) else ([], 2) from rfl)
  have hm := h2.len_int
  have HM := Lib.hid hm
  have HS := Lib.hid h2
  have HSPL := Lib.hid (refSplit_any A n c 0 _ l w h (Nat.le_refl _) hn hnc)
  clear h h2
  obtain ⟨RR, hRR⟩ : ∃ RR, layR l st rule = RR := ⟨_, rfl⟩
  rw [hRR]
  have HRR := Lib.hid hRR
  clear hRR
  by_cases q1 : rule < 1
  · have he : RR = ([], 2) := by rw [← HRR.out, HR.out, if_pos (.inl q1)]
    subst he
    have d1 : decide (rule < 1) = true := decide_eq_true q1
    go_enter Try.func96, Try.ntmps96
    go_wp2
    go_ret2
    exact ⟨.slice none 0 0, rfl, World.ownsRow_nil _ _ _ _, Below.refl _ _⟩
  have d1 : decide (rule < 1) = false := decide_eq_false q1
  by_cases q2 : 4 < rule
  · have he : RR = ([], 2) := by rw [← HRR.out, HR.out, if_pos (.inr q2)]
    subst he
    have d2 : decide (4 < rule) = true := decide_eq_true q2
    go_enter Try.func96, Try.ntmps96
    go_wp2
    go_ret2
    exact ⟨.slice none 0 0, rfl, World.ownsRow_nil _ _ _ _, Below.refl _ _⟩
  have d2 : decide (4 < rule) = false := decide_eq_false q2
  have HR2 := Lib.hid (show RR = if spE l ≠ 0 then ([], spE l) else if st.length = 0 then (stL (spL l) rule, stE (spL l) rule)
    else if st.length ≠ (spL l).length then ([], 2) else if st.all okSt then (lyK (spL l) st st.length, 0) else ([], 2) by rw [← HRR.out, HR.out, if_neg (by omega)])
  clear HR HRR
  have HL128 := Lib.hid (fun h : spE l = 0 => (may_fit (may_split h)).2.2)
  generalize spL l = ss at *
  generalize spE l = E at *
  by_cases hE : E = 0
  case neg =>
    have he : RR = ([], E) := by rw [HR2.out, if_pos hE]
    subst he
    have dE : (E != 0) = true := by simpa using hE
    clear hE
    go_enter Try.func96, Try.ntmps96
    go_wp2_with fail
    refine HSPL.out.mono ?_
    rintro e w2 ⟨v, rfl, ho, hb⟩
    obtain ⟨D, dd, rfl⟩ := own_slice ho
    have H2 := Lib.hid hb
    clear hb ho HSPL
    go_wp2
    go_ret2
    exact ⟨.slice none 0 0, rfl, World.ownsRow_nil _ _ _ _, H2.out⟩
  have HR3 := Lib.hid (show RR = if st.length = 0 then (stL ss rule, stE ss rule) else if st.length ≠ ss.length then ([], 2) else if st.all okSt then (lyK ss st st.length, 0) else ([], 2) by rw [HR2.out, if_neg (by rw [hE]; decide)])
  have hss := HL128.out hE
  subst hE
  clear HR2 HL128
  obtain ⟨M, hM⟩ : ∃ M, ss.length = M := ⟨_, rfl⟩
  have HMM := Lib.hid hM
  rw [hM] at HSPL HR3 hss
  rw [hm] at HR3
  clear hM hm
  by_cases hm0 : m = 0
  · have he : RR = (stL ss rule, stE ss rule) := by rw [HR3.out, if_pos hm0]
    subst he
    have dm : ((m : Int) == 0) = true := by rw [hm0]; rfl
    clear hm0
    go_enter Try.func96, Try.ntmps96
    go_wp2_with fail
    refine HSPL.out.mono ?_
    rintro e w2 ⟨v, rfl, ho, hb⟩
    obtain ⟨D, dd, rfl⟩ := own_slice ho
    have H2 := Lib.hid (And.intro ((own_rd ho).more (Nat.zero_le _) (Nat.le_refl _)) hb)
    clear hb ho HSPL
    go_wp2_with fail
    refine (refStress_any _ _ dd 0 _ ss rule _ H2.out.1 (Nat.le_refl _) (by unfold maxLen; omega)).mono ?_
    rintro e w3 ⟨v, rfl, ho, hb⟩
    have H3 := Lib.hid (And.intro (own_more ho H2.out.2.size) (H2.out.2.trans (hb.mono H2.out.2.size)))
    clear hb ho H2
    go_wp2
    go_ret2
    exact ⟨_, rfl, H3.out.1, H3.out.2⟩
  have dm : ((m : Int) == 0) = false := beq_eq_false_iff_ne.2 (by omega)
  by_cases hmM : m = M
  case neg =>
    have he : RR = ([], 2) := by rw [HR3.out, if_neg hm0, if_pos hmM]
    subst he
    have dM : ((m : Int) != (M : Int)) = true := by have : (m : Int) ≠ (M : Int) := by omega
                                                    simpa using this
    have dM2 : ¬ m = M := hmM
    clear hm0 hmM
    go_enter Try.func96, Try.ntmps96
    go_wp2_with fail
    refine HSPL.out.mono ?_
    rintro e w2 ⟨v, rfl, ho, hb⟩
    obtain ⟨D, dd, rfl⟩ := own_slice ho
    have H2 := Lib.hid hb
    clear hb ho HSPL
    go_wp2
    go_ret2
    exact ⟨.slice none 0 0, rfl, World.ownsRow_nil _ _ _ _, H2.out⟩
  subst hmM
  have HR4 := Lib.hid (show RR = if st.all okSt then (lyK ss st m, 0) else ([], 2) by rw [HR3.out, if_neg hm0, if_neg (by simp)])
  clear HR3
  go_enter Try.func96, Try.ntmps96
  go_wp2_with fail
  refine HSPL.out.mono ?_
  rintro e w2 ⟨v, rfl, ho, hb⟩
  obtain ⟨D, dd, rfl⟩ := own_slice ho
  obtain ⟨g, rfl, _, _⟩ := own_addr ho (by omega)
  have H2 := Lib.hid (show SrSt w (.slice (some ⟨g, 0, none⟩) m dd) ss w2 from ⟨by rw [HMM.out]; exact ho, hb⟩)
  clear hb ho HSPL hm0
  go_wp2
  go_loopw [10] (fun v10 wr => ∃ k : Nat, k ≤ m ∧ v10 = .int .i64 k ∧ Hid (SrSt w (.slice (some ⟨g, 0, none⟩) m dd) (lyK ss st k) wr ∧ (st.take k).all okSt = true)) (fun v10 _ => m - (intOf v10).toNat)
  case atStart => exact ⟨0, by omega, rfl, Lib.hid ⟨by rw [lyK_zero]; exact H2.out, by simp⟩⟩
  case round =>
    obtain ⟨k, hk, rfl, HI⟩ := hrel
    clear H2
    by_cases hlt : k < m
    · obtain ⟨b, o, hl0, rfl, x0⟩ := (HS.out.below HI.out.1.below (Nat.le_refl _)).intAt hlt
      have hsn : st.take (k + 1) = st.take k ++ [st[k]] := List.take_succ_eq_append_getElem hl0
      have hgd : st.getD k 0 = st[k] := by rw [List.getD_eq_getElem?_getD, List.getElem?_eq_getElem hl0]; rfl
      have hbad : okSt st[k] = false → RR = ([], 2) := fun h => by
        rw [HR4.out, if_neg]
        intro ha
        rw [List.all_eq_true.1 ha _ (List.getElem_mem hl0)] at h
        cases h
      have hstp := lyK_step (ss := ss) (st := st) (k := k) (by rw [HMM.out]; exact hlt)
      rw [hgd] at hstp
      have hle : (lyK ss st k).length = m := by rw [lyK_len]; exact HMM.out
      have hle2 : (lyK ss st (k + 1)).length = m := by rw [lyK_len]; exact HMM.out
      have hat := lyK_at (ss := ss) (st := st) (k := k) (by rw [HMM.out]; exact hlt)
      have hown := HI.out.1.own
      rw [hle] at hown
      obtain ⟨⟨_, z3⟩, f3⟩ := own_at hown (i := k * 5 + 3) (by omega)
      have HX := Lib.hid (And.intro hsn (And.intro hbad (And.intro hstp (And.intro hle (And.intro hle2 hat)))))
      clear hown hsn hgd hbad hstp hle hle2 hat
      generalize st[k] = x at *
      have i1 : (0 : Int) ≤ (k : Int) := by omega
      have i2 : (k : Int) < (m : Int) := by omega
      by_cases s1 : x < 0
      · have b1 : decide (x < 0) = true := decide_eq_true s1
        have HB := Lib.hid (HX.out.2.1 (by unfold okSt; rw [decide_eq_false (by omega)]; rfl))
        clear HX
        go_wp2
        go_ret2
        exact ⟨.slice none 0 0, by rw [HB.out]; rfl, by rw [HB.out]; exact World.ownsRow_nil _ _ _ _, HI.out.1.below⟩
      have b1 : decide (x < 0) = false := decide_eq_false s1
      by_cases s2 : 2 < x
      · have b2 : decide (2 < x) = true := decide_eq_true s2
        have HB := Lib.hid (HX.out.2.1 (by unfold okSt; rw [decide_eq_false (p := x ≤ 2) (by omega), Bool.and_false]))
        clear HX
        go_wp2
        go_ret2
        exact ⟨.slice none 0 0, by rw [HB.out]; rfl, by rw [HB.out]; exact World.ownsRow_nil _ _ _ _, HI.out.1.below⟩
      have b2 : decide (2 < x) = false := decide_eq_false s2
      have HOK := Lib.hid (show okSt x = true by unfold okSt; rw [decide_eq_true (by omega), decide_eq_true (by omega)]; rfl)
      have HE := Lib.hid (HI.out.1.put HX.out.2.2.2.1 (k * 5 + 3) (.int .i64 x) (lyK ss st (k + 1)) (by rw [sys_st _ _ _ (by rw [HX.out.2.2.2.1]; exact hlt), HX.out.2.2.2.2.2, HX.out.2.2.1]) HX.out.2.2.2.2.1)
      have HA := Lib.hid (show (st.take (k + 1)).all okSt = true by rw [HX.out.1, List.all_append, HI.out.2]; simp [HOK.out])
      clear HI HX s1 s2
      go_wp2
      go_roundw
      case rel => exact ⟨k + 1, by omega, by go_num, Lib.hid ⟨HE.out, HA.out⟩⟩
      case measure => simp [intOf]; omega
    · obtain rfl : k = m := by omega
      have di : ¬ ((k : Int) < (k : Int)) := by omega
      have HB := Lib.hid (show RR = (lyK ss st k, 0) by
        have := HI.out.2
        rw [List.take_of_length_le (by rw [HM.out]; exact Nat.le_refl _)] at this
        rw [HR4.out, if_pos this])
      have HLL := Lib.hid (show (lyK ss st k).length = k by rw [lyK_len]; exact HMM.out)
      go_wp2
      go_ret2
      exact ⟨.slice (some ⟨g, 0, none⟩) k dd, by rw [HB.out]; rfl, by rw [HB.out]; exact HI.out.1.own, HI.out.1.below⟩

end Go.Proofs.Ytogofchpocoebaa
