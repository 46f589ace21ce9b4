/- RhymeClasses: the law walked. -/
import Derived.Test.YtogofchpocoebaaV15
import Derived.Test.YtogofchpocoebaaV12
import Derived.Test.YtogofchpocoebaaV11
namespace Go.Proofs.Ytogofchpocoebaa
open Go.RowKit Go.Maps
attribute [local go_sem] Oper.semAt_some

/-! ### what the numbers are -/
theorem cls_stable (ks : List ByteArray) {i : Nat} : ∀ j, i < j → j ≤ ks.length → (cls ks j).2.getD i 0 = (cls ks (i + 1)).2.getD i 0 := by
  intro j
  induction j with
  | zero => intro h; omega
  | succ j ih =>
    intro h hj
    by_cases e : i = j
    · subst e; rfl
    · rw [← ih (by omega) (by omega), cls_succ ks (by omega)]
      have hl := (cls_ok ks j (by omega)).len
      unfold clsStep
      split
      · exact getD_snoc_lt (by omega)
      · exact getD_snoc_lt (by omega)
theorem pos_of {ks : List ByteArray} {i : Nat} (hi : i < ks.length) : posB (cls ks i).1 ks[i] = none ↔ ∀ p, p < i → ks[p]? ≠ ks[i]? := by
  have hk := cls_ok ks i (by omega)
  have hii : ks[i]? = some ks[i] := List.getElem?_eq_getElem hi
  rw [posB_none]
  constructor
  · intro h p hp e
    have a := hk.at_ p hp
    rw [e, hii] at a
    exact h _ a
  · intro h q e
    have hq : q < (cls ks i).1.length := (List.getElem?_eq_some_iff.1 e).1
    obtain ⟨j, hj, ej⟩ := hk.got q hq
    have a := hk.at_ j hj
    rw [ej, e] at a
    exact h j hj (by rw [← a, hii])
theorem cls_new {ks : List ByteArray} {i : Nat} (hi : i < ks.length) (hno : ∀ p, p < i → ks[p]? ≠ ks[i]?) : (clsN ks).getD i 0 = (cls ks i).1.length ∧ (cls ks (i + 1)).1.length = (cls ks i).1.length + 1 := by
  have hp := (pos_of hi).2 hno
  have hl := (cls_ok ks i (by omega)).len
  have hs := cls_succ ks hi
  unfold clsStep at hs
  rw [hp] at hs
  refine ⟨?_, by rw [hs]; simp⟩
  unfold clsN
  rw [cls_stable ks _ hi (Nat.le_refl _), hs]
  exact getD_snoc_eq (by omega)
theorem cls_old {ks : List ByteArray} {i p : Nat} (hi : i < ks.length) (hp : p < i) (e : ks[p]? = ks[i]?) : (clsN ks).getD p 0 = (clsN ks).getD i 0 ∧ (cls ks (i + 1)).1.length = (cls ks i).1.length := by
  refine ⟨((cls_num ks).iff p i (by omega) hi).2 e, ?_⟩
  have hs := cls_succ ks hi
  unfold clsStep at hs
  cases h : posB (cls ks i).1 ks[i] with
  | none => exact absurd e ((pos_of hi).1 h p hp)
  | some q => rw [h] at hs; rw [hs]
theorem clsN_fnl (ks : List ByteArray) : (clsN ks).map natV = fnl (fun a => (((clsN ks).getD a 0 : Nat) : Int)) ks.length := by
  apply List.ext_getElem?
  intro j
  by_cases hj : j < ks.length
  · rw [fnl_at hj, List.getElem?_map, List.getElem?_eq_getElem (by rw [clsN_len]; exact hj), List.getD_eq_getElem?_getD, List.getElem?_eq_getElem (by rw [clsN_len]; exact hj)]
    rfl
  · rw [List.getElem?_eq_none (by rw [List.length_map, clsN_len]; omega), List.getElem?_eq_none (by rw [fnl_len]; omega)]
theorem keys_at {xs : List Sd} {a : Nat} (h : a < xs.length) : (keysL xs)[a]? = some (keyB (xs.getD a sd0)) := by
  unfold keysL
  rw [List.getElem?_map, List.getElem?_eq_getElem h, List.getD_eq_getElem?_getD, List.getElem?_eq_getElem h]
  rfl
theorem sd_mem {xs : List Sd} {a : Nat} (h : a < xs.length) : xs.getD a sd0 ∈ xs := by
  rw [List.getD_eq_getElem?_getD, List.getElem?_eq_getElem h]
  exact List.getElem_mem h
theorem near0 {xs : List Sd} (hf : ∀ x ∈ xs, Form x.l x.ss) {a b : Nat} (ha : a < xs.length) (hb : b < xs.length) : nearQ xs 0 a b = true ↔ (keysL xs)[a]? = (keysL xs)[b]? := by
  have fa := hf _ (sd_mem ha)
  have fb := hf _ (sd_mem hb)
  have hnn := far_nn' (xs.getD a sd0) (xs.getD b sd0)
  rw [keys_at ha, keys_at hb]
  unfold nearQ
  rw [decide_eq_true_iff]
  constructor
  · intro h
    have h0 : farS (xs.getD a sd0) (xs.getD b sd0) = 0 := by omega
    exact congrArg some ((key_eq fa fb).2 ((far_same fa fb).1 h0))
  · intro h
    have := (far_same fa fb).2 ((key_eq fa fb).1 (Option.some.inj h))
    omega
theorem zero_num {xs : List Sd} (hf : ∀ x ∈ xs, Form x.l x.ss) {F : Nat → Nat} (h : Num xs.length (Conn xs.length (nearQ xs 0)) F) : ∀ a, a < xs.length → F a = (clsN (keysL xs)).getD a 0 := by
  have hl : (keysL xs).length = xs.length := by unfold keysL; simp
  have h2 := cls_num (keysL xs)
  rw [hl] at h2
  refine (h.of_iff fun i j hi hj => ⟨fun hc => ?_, fun e => ?_⟩).one h2
  · exact (hc (fun x => x < xs.length → (keysL xs)[i]? = (keysL xs)[x]?) (fun _ => rfl) (fun a b ha hb ih hab _ => (ih ha).trans ((near0 hf ha hb).1 hab))) hj
  · exact (Conn.refl _ _ i).step hi hj ((near0 hf hi hj).2 e)

/-! ### both answers of Web -/
theorem web_sum (X : Option Addr) (k cp BB : Nat) (xs : List Sd) (most : Int) (w : World) (h : SdsIn w BB X k xs) (hBB : BB ≤ w.heap.size) (hk : k ≤ 512) (hall : xs.all mayB = true) :
    Calls Try.prog 73 #[.slice X k cp, .int .i64 most] w fun e w' => ∃ (A : Option Addr) (n c : Nat) (f : Int) (F : Nat → Nat), e = .returned (.tuple #[.slice A n c, .int .i64 f]) ∧ (most < 0 → n = 0 ∧ f = 2) ∧ (0 ≤ most → n = k ∧ f = 0 ∧ Rd w' 0 w'.heap.size 1 A k (fnl (fun a => (F a : Int)) k) ∧ Num k (Conn k (nearQ xs most)) F) ∧ Below w.heap.size w w' := by
  by_cases hm : most < 0
  · refine (web_neg X k cp most w hk hm).mono ?_
    rintro e w' ⟨rfl, hb⟩
    exact ⟨none, 0, 0, 2, fun _ => 0, rfl, fun _ => ⟨rfl, rfl⟩, fun h => absurd h (by omega), hb⟩
  · refine (web_any X k cp BB xs most w h hBB hk (by omega) hall).mono ?_
    rintro e w' ⟨v, F, rfl, ho, hn, hb⟩
    obtain ⟨A, c, rfl⟩ := own_slice ho
    exact ⟨A, k, c, 0, F, rfl, fun h => absurd h hm, fun _ => ⟨rfl, rfl, (own_rd ho).more (Nat.zero_le _) (Nat.le_refl _), hn⟩, hb⟩
theorem web_bad (X : Option Addr) (k cp BB : Nat) (xs : List Sd) (most : Int) (w : World) (h : SdsIn w BB X k xs) (hBB : BB ≤ w.heap.size) (hk : k ≤ 512) (hall : xs.all mayB = false) :
    Calls Try.prog 73 #[.slice X k cp, .int .i64 most] w fun e w' => e = .returned (.tuple #[.slice none 0 0, .int .i64 2]) ∧ Below w.heap.size w w' := by
  by_cases hm : most < 0
  · exact web_neg X k cp most w hk hm
  · exact web_ill X k cp BB xs most w h hBB hk (by omega) hall

/-- memory of the law -/
structure RcSt (w : World) (X : Option Addr) (k : Nat) (xs : List Sd) (A1 A2 : Option Addr) (C : Nat → Nat) (W : World) : Prop where
  sd : SdsIn W w.heap.size X k xs
  rc : Rd W 0 W.heap.size 1 A1 k (fnl (fun a => (C a : Int)) k)
  rz : Rd W 0 W.heap.size 1 A2 k (fnl (fun a => (C a : Int)) k)
  below : Below w.heap.size w W
section
variable {w : World} {X : Option Addr} {k : Nat} {xs : List Sd} {A1 A2 : Option Addr} {C : Nat → Nat} {W W' : World}
theorem RcSt.on (h : RcSt w X k xs A1 A2 C W) (hb : Below W.heap.size W W') : RcSt w X k xs A1 A2 C W' :=
  ⟨h.sd.below hb h.below.size, h.rc.up hb hb.size, h.rz.up hb hb.size, h.below.trans (hb.mono h.below.size)⟩
end
theorem rcl_ill (X : Option Addr) (k cp : Nat) (xs : List Sd) (most : Int) (w : World) (hr : SdsIn w w.heap.size X k xs) (hk : k ≤ 60) (hall : xs.all mayB = false) : Calls Try.prog 14 #[.slice X k cp, .int .i64 most] w fun e w' => e = .returned (.bool true) ∧ Below w.heap.size w w' := by
  have d1 : decide ((60 : Int) < (k : Int)) = false := by simp; omega
  have HX := Lib.hid hr
  have HA := Lib.hid hall
  have HM := Lib.hid (show k ≤ maxLen by unfold maxLen; omega)
  clear hr hall
  go_enter Try.func14, Try.ntmps14
  go_wp2_with fail
  refine (wakes15_any w).mono ?_
  rintro e w1 ⟨rfl, hb⟩
  have H1 := Lib.hid (And.intro (HX.out.on hb) hb)
  clear hb
  go_wp2_with fail
  refine (classes_any X k cp w.heap.size xs w1 H1.out.1 H1.out.2.size (by omega)).mono ?_
  rintro e w2 ⟨v, rfl, _, hb⟩
  have H2 := Lib.hid (And.intro (H1.out.1.on (hb.mono H1.out.2.size)) (H1.out.2.trans (hb.mono H1.out.2.size)))
  rw [HA.out, if_neg (by decide)]
  clear hb H1
  go_wp2_with fail
  refine (web_bad X k cp w.heap.size xs most w2 H2.out.1 H2.out.2.size (by omega) HA.out).mono ?_
  rintro e w3 ⟨rfl, hb⟩
  have H3 := Lib.hid (And.intro (H2.out.1.on (hb.mono H2.out.2.size)) (H2.out.2.trans (hb.mono H2.out.2.size)))
  clear hb H2
  go_wp2_with fail
  refine (refAllR_any X k cp w.heap.size xs w3 H3.out.1 H3.out.2.size HM.out).mono ?_
  rintro e w4 ⟨rfl, hb⟩
  have H4 := Lib.hid (H3.out.2.trans (hb.mono H3.out.2.size))
  rw [HA.out]
  clear hb H3
  go_wp2
  go_ret
  exact ⟨rfl, H4.out⟩
theorem Rd.fnl_at' {w : World} {L B N b o : Nat} {A : Option Addr} {f : Nat → Int} (h : Rd w L B 1 A N (_root_.Go.Proofs.Ytogofchpocoebaa.fnl f N)) (hA : A = some ⟨b, o, none⟩) {k : Nat} (hk : k < N) : w.cell? ⟨b, o + k, none⟩ = some (.int .i64 (f k)) := by
  obtain ⟨b', o', e, _, _, hc⟩ := h.fnl hk
  rw [hA] at e
  injection e with e
  injection e with e1 e2
  subst e1 e2
  exact hc
theorem SdsIn.at' {W : World} {B b o : Nat} {X : Option Addr} {k : Nat} {xs : List Sd} (h : SdsIn W B X k xs) (hX : X = some ⟨b, o, none⟩) {j : Nat} (hj : j < k) :
    W.cell? ⟨b, o + j * 2, none⟩ = some (.slice (xs.getD j sd0).A (xs.getD j sd0).n (xs.getD j sd0).c) ∧ W.cell? ⟨b, o + j * 2 + 1, none⟩ = some (.slice (xs.getD j sd0).D (xs.getD j sd0).m (xs.getD j sd0).d) ∧ SdIn W B (xs.getD j sd0) := by
  obtain ⟨b', o', e, _, h1, h2, h3, _⟩ := h.at hj
  rw [hX] at e
  injection e with e
  injection e with e1 e2
  subst e1 e2
  exact ⟨h1, h2, h3⟩
/-- what the law's own count does -/
structure ClsLaw (k : Nat) (E : Nat → Nat → Prop) (C L : Nat → Nat) : Prop where
  l0 : L 0 = 0
  le : ∀ a, a ≤ k → L a ≤ a
  new : ∀ a, a < k → (∀ p, p < a → ¬ E p a) → C a = L a ∧ L (a + 1) = L a + 1
  old : ∀ a p, a < k → p < a → E p a → C p = C a ∧ L (a + 1) = L a
theorem cls_law (ks : List ByteArray) : ClsLaw ks.length (fun p a => ks[p]? = ks[a]?) (fun a => (clsN ks).getD a 0) (fun a => (cls ks a).1.length) :=
  ⟨rfl, fun a ha => (cls_ok ks a ha).few, fun _ ha h => cls_new ha h, fun _ _ ha hp e => cls_old ha hp e⟩
set_option maxHeartbeats 8000000 in
set_option maxRecDepth 100000 in
theorem rcl_ok (X : Option Addr) (k cp : Nat) (xs : List Sd) (most : Int) (w : World) (hr : SdsIn w w.heap.size X k xs) (hk : k ≤ 60) (hall : xs.all mayB = true) : Calls Try.prog 14 #[.slice X k cp, .int .i64 most] w fun e w' => e = .returned (.bool true) ∧ Below w.heap.size w w' := by
  have d1 : decide ((60 : Int) < (k : Int)) = false := by simp; omega
  have hlen := hr.len
  have HL := Lib.hid hlen
  have HX := Lib.hid hr
  have HA := Lib.hid hall
  have HM := Lib.hid (show k ≤ maxLen by unfold maxLen; omega)
  have HMB := Lib.hid (show ∀ x ∈ xs, mayB x = true from fun x hx => List.all_eq_true.1 hall x hx)
  have HF := Lib.hid (show ∀ x ∈ xs, Form x.l x.ss from fun x hx => form_of (by have := List.all_eq_true.1 hall x hx; unfold mayB at this; exact eq_of_beq this))
  clear hr hall
  have hkl : (keysL xs).length = k := by unfold keysL; simpa using hlen
  have hlaw := cls_law (keysL xs)
  rw [hkl] at hlaw
  have HKE := Lib.hid (show ∀ a b, a < k → b < k → ((keysL xs)[b]? = (keysL xs)[a]? ↔ tailF (xs.getD b sd0).l (xs.getD b sd0).ss = tailF (xs.getD a sd0).l (xs.getD a sd0).ss) from fun a b ha hb => by
    rw [keys_at (show a < xs.length by omega), keys_at (show b < xs.length by omega)]
    exact ⟨fun h => (key_eq (HF.out _ (sd_mem (by omega))) (HF.out _ (sd_mem (by omega)))).1 (Option.some.inj h), fun h => congrArg some ((key_eq (HF.out _ (sd_mem (by omega))) (HF.out _ (sd_mem (by omega)))).2 h)⟩)
  have HFN := Lib.hid (show (clsN (keysL xs)).map natV = fnl (fun a => (((clsN (keysL xs)).getD a 0 : Nat) : Int)) k from by rw [← hkl]; exact clsN_fnl _)
  have HZN := Lib.hid (show ∀ F : Nat → Nat, Num k (Conn k (nearQ xs 0)) F → ∀ a, a < k → F a = (clsN (keysL xs)).getD a 0 from fun F hF => by
    have h := @zero_num xs HF.out F
    rw [hlen] at h
    exact h hF)
  go_enter Try.func14, Try.ntmps14
  go_wp2_with fail
  refine (wakes15_any w).mono ?_
  rintro e w1 ⟨rfl, hb⟩
  have H1 := Lib.hid (And.intro (HX.out.on hb) hb)
  clear hb
  go_wp2_with fail
  refine (classes_any X k cp w.heap.size xs w1 H1.out.1 H1.out.2.size (by omega)).mono ?_
  rintro e w2 ⟨v, rfl, ho, hb⟩
  have ho := ho HA.out
  rw [HFN.out] at ho
  obtain ⟨A1, C1, rfl⟩ := own_slice ho
  obtain ⟨C, hC⟩ : ∃ C : Nat → Nat, C = fun a => (clsN (keysL xs)).getD a 0 := ⟨_, rfl⟩
  obtain ⟨L, hLd⟩ : ∃ L : Nat → Nat, L = fun a => (cls (keysL xs) a).1.length := ⟨_, rfl⟩
  have H2 := Lib.hid (And.intro (H1.out.1.on (hb.mono H1.out.2.size)) (And.intro (H1.out.2.trans (hb.mono H1.out.2.size)) (show Rd w2 0 w2.heap.size 1 A1 k (fnl (fun a => (C a : Int)) k) by rw [hC]; exact (own_rd ho).more (Nat.zero_le _) (Nat.le_refl _))))
  rw [HA.out, if_pos rfl]
  have hlaw2 : ClsLaw k (fun p a => (keysL xs)[p]? = (keysL xs)[a]?) C L := by rw [hC, hLd]; exact hlaw
  have HLAW := Lib.hid hlaw2
  have HZN2 := Lib.hid (show ∀ F : Nat → Nat, Num k (Conn k (nearQ xs 0)) F → ∀ a, a < k → F a = C a by rw [hC]; exact HZN.out)
  clear hb H1 ho HFN HZN hlaw hC hLd hkl hlaw2
  go_wp2_with fail
  refine (web_sum X k cp w.heap.size xs most w2 H2.out.1 H2.out.2.1.size (by omega) HA.out).mono ?_
  rintro e w3 ⟨A3, n3, C3, f3, F3, rfl, hf1, hf2, hb⟩
  have H3 := Lib.hid (And.intro (H2.out.1.on (hb.mono H2.out.2.1.size)) (And.intro (H2.out.2.1.trans (hb.mono H2.out.2.1.size)) (And.intro (H2.out.2.2.up hb hb.size) (show 0 ≤ most → Rd w3 0 w3.heap.size 1 A3 k (fnl (fun a => (F3 a : Int)) k) from fun h => (hf2 h).2.2.1))))
  have HW3 := Lib.hid (And.intro hf1 (show 0 ≤ most → n3 = k ∧ f3 = 0 ∧ Num k (Conn k (nearQ xs most)) F3 from fun h => ⟨(hf2 h).1, (hf2 h).2.1, (hf2 h).2.2.2⟩))
  clear hb H2 hf1 hf2
  go_wp2_with fail
  refine (refAllR_any X k cp w.heap.size xs w3 H3.out.1 H3.out.2.1.size HM.out).mono ?_
  rintro e w4 ⟨rfl, hb⟩
  have H4 := Lib.hid (And.intro (H3.out.1.on (hb.mono H3.out.2.1.size)) (And.intro (H3.out.2.1.trans (hb.mono H3.out.2.1.size)) (And.intro (H3.out.2.2.1.up hb hb.size) (show 0 ≤ most → Rd w4 0 w4.heap.size 1 A3 k (fnl (fun a => (F3 a : Int)) k) from fun h => (H3.out.2.2.2 h).up hb hb.size))))
  rw [HA.out]
  clear hb H3
  go_wp2_with fail
  refine (web_sum X k cp w.heap.size xs 0 w4 H4.out.1 H4.out.2.1.size (by omega) HA.out).mono ?_
  rintro e w5 ⟨A2, n2, C2, f2, F2, rfl, _, hf2, hb⟩
  obtain ⟨rfl, rfl, hr2, hn2⟩ := hf2 (Int.le_refl _)
  have hzc : fnl (fun a => (F2 a : Int)) n2 = fnl (fun a => (C a : Int)) n2 := fnl_congr fun a ha => by rw [HZN2.out F2 hn2 a ha]
  rw [hzc] at hr2
  have H5 := Lib.hid (And.intro (show RcSt w X n2 xs A1 A2 C w5 from ⟨H4.out.1.on (hb.mono H4.out.2.1.size), H4.out.2.2.1.up hb hb.size, hr2, H4.out.2.1.trans (hb.mono H4.out.2.1.size)⟩) (show 0 ≤ most → Rd w5 0 w5.heap.size 1 A3 n2 (fnl (fun a => (F3 a : Int)) n2) from fun h => (H4.out.2.2.2 h).up hb hb.size))
  clear hb H4 hr2 hn2 hzc
  generalize n2 = k at *
  have wf : ∀ k, Fence.wide.fn k := fun _ => trivial
  have wd : Fence.wide.depth = none := rfl
  go_wp2
  go_loopw [12, 13, 14, 15] (fun v12 v13 _ _ wr => ∃ a : Nat, a ≤ k ∧ v13 = .int .i64 a ∧ v12 = .int .i64 (L a : Nat) ∧ Hid (RcSt w X k xs A1 A2 C wr ∧ (0 ≤ most → Rd wr 0 wr.heap.size 1 A3 k (fnl (fun a => (F3 a : Int)) k)))) (fun _ v13 _ _ _ => k - (intOf v13).toNat)
  case atStart => exact ⟨0, by omega, rfl, by rw [HLAW.out.l0]; rfl, H5⟩
  case round =>
    obtain ⟨a, ha, rfl, rfl, HR⟩ := hrel
    clear H5
    by_cases hlt : a < k
    · have i1 : (0 : Int) ≤ (a : Int) := by omega
      have i2 : (a : Int) < (k : Int) := by omega
      have da : decide ((a : Int) < (k : Int)) = true := by simp; omega
      have hLe := HLAW.out.le a (by omega)
      obtain ⟨b1, o1, e1, _⟩ := HR.out.1.rc.fnl hlt
      obtain ⟨b2, o2, e2, _⟩ := HR.out.1.rz.fnl hlt
      obtain ⟨bx, ox, eX, _⟩ := HR.out.1.sd.at hlt
      have HE := Lib.hid (And.intro e1 (And.intro e2 eX))
      rw [e1, e2, eX]
      clear e1 e2 eX
      go_wp2
      go_loopw [14, 15] (fun v14 v15 wq => ∃ (b : Nat) (n : Int), b ≤ a ∧ v15 = .int .i64 b ∧ v14 = .int .i64 n ∧ Hid ((n = -1 ∧ ∀ p, p < b → (keysL xs)[p]? ≠ (keysL xs)[a]?) ∨ (n = (C a : Int) ∧ ∃ p, p < a ∧ (keysL xs)[p]? = (keysL xs)[a]?)) ∧ Hid (RcSt w X k xs A1 A2 C wq ∧ (0 ≤ most → Rd wq 0 wq.heap.size 1 A3 k (fnl (fun a => (F3 a : Int)) k)))) (fun _ v15 _ => a - (intOf v15).toNat)
      case atStart => exact ⟨0, -1, by omega, rfl, rfl, Lib.hid (.inl ⟨rfl, fun p hp => absurd hp (Nat.not_lt_zero _)⟩), HR⟩
      case round =>
        obtain ⟨b, n, hb, rfl, rfl, HN, HQ⟩ := hrel
        clear HR
        rcases HN.out with ⟨rfl, hno⟩ | ⟨rfl, hex⟩
        · have HNO := Lib.hid hno
          clear HN hno
          by_cases hlb : b < a
          · have j1 : (0 : Int) ≤ (b : Int) := by omega
            have j2 : (b : Int) < (a : Int) := by omega
            have j3 : (b : Int) < (k : Int) := by omega
            have db : decide ((b : Int) < (a : Int)) = true := by simp; omega
            obtain ⟨x0, x1, hx1⟩ := HQ.out.1.sd.at' HE.out.2.2 (show b < k by omega)
            obtain ⟨y0, y1, hy1⟩ := HQ.out.1.sd.at' HE.out.2.2 hlt
            have HXX := Lib.hid (And.intro (And.intro hx1 (HF.out _ (sd_mem (show b < xs.length by omega)))) (And.intro hy1 (HF.out _ (sd_mem (show a < xs.length by omega)))))
            have HKB := Lib.hid (HKE.out a b hlt (by omega))
            have hBr : w.heap.size ≤ wr.heap.size := HQ.out.1.below.size
            clear hx1 hy1
            generalize xs.getD b sd0 = x at *
            generalize xs.getD a sd0 = y at *
            go_wp2
            have Xx0 := Bel.cell x0
            have Xx1 := Bel.cell x1
            have Xy0 := Bel.cell y0
            have Xy1 := Bel.cell y1
            clear x0 x1 y0 y1
            refine wp_bel (by kernel_rfl) (by kernel_rfl) ?_
            repeat (gi_big_quiet_step (fail))
            gi_big_quiet_want
            gi_big_quiet_op
            refine ⟨.string (bts (texts (tailF x.l x.ss))), fun u => ?_, ?_⟩
            · exact callsIn_wide.2 ((refKey_any x w.heap.size u.1 (HXX.out.1.1.below u.2 hBr) (Nat.le_trans hBr u.2.size) HXX.out.1.2).mono (fun e w' h => ⟨h.1, u.next h.2⟩))
            go_big_quiet_on
            repeat (gi_big_quiet_step (fail))
            gi_big_quiet_want
            gi_big_quiet_op
            refine ⟨.string (bts (texts (tailF y.l y.ss))), fun u => ?_, ?_⟩
            · exact callsIn_wide.2 ((refKey_any y w.heap.size u.1 (HXX.out.2.1.below u.2 hBr) (Nat.le_trans hBr u.2.size) HXX.out.2.2).mono (fun e w' h => ⟨h.1, u.next h.2⟩))
            go_big_quiet_on
            repeat (gi_big_quiet_step (fail))
            refine wpQuietIn_nil ?_
            intro _ hw'
            obtain ⟨zW, hw''⟩ := hw'
            subst hw''
            have hzb := zW.2
            generalize zW.1 = wz at *
            have HZ := Lib.hid (And.intro (HQ.out.1.on hzb) (show 0 ≤ most → Rd wz 0 wz.heap.size 1 A3 k (fnl (fun a => (F3 a : Int)) k) from fun h => (HQ.out.2 h).up hzb hzb.size))
            clear Xx0 Xx1 Xy0 Xy1 hzb
            have hkb := key_beq HXX.out.1.2 HXX.out.2.2
            have cb := HZ.out.1.rc.fnl_at' HE.out.1 (show b < k by omega)
            by_cases ht : tailF x.l x.ss = tailF y.l y.ss
            · rw [decide_eq_true ht] at hkb
              rw [hkb]
              clear hkb
              have hco := (HLAW.out.old a b hlt hlb (HKB.out.2 ht)).1
              have HEX := Lib.hid (HKB.out.2 ht)
              clear ht HXX
              generalize bts (texts (tailF x.l x.ss)) = s1 at *
              generalize bts (texts (tailF y.l y.ss)) = s2 at *
              rw [hco] at cb
              go_wp2
              go_roundw
              case rel => exact ⟨b + 1, (C a : Int), by omega, by go_num, rfl, Lib.hid (.inr ⟨rfl, b, hlb, HEX.out⟩), HZ⟩
              case measure => simp [intOf]; omega
            · rw [decide_eq_false ht] at hkb
              rw [hkb]
              clear hkb
              have HEX := Lib.hid (fun h => ht (HKB.out.1 h))
              clear ht HXX cb
              generalize bts (texts (tailF x.l x.ss)) = s1 at *
              generalize bts (texts (tailF y.l y.ss)) = s2 at *
              go_wp2
              go_roundw
              case rel => exact ⟨b + 1, -1, by omega, by go_num, rfl, Lib.hid (.inl ⟨rfl, fun p hp => by
                rcases Nat.lt_or_ge p b with h | h
                · exact HNO.out p h
                · have : p = b := by omega
                  subst this
                  exact HEX.out⟩), HZ⟩
              case measure => simp [intOf]; omega
          · have hba : b = a := by omega
            subst hba
            have db : decide ((b : Int) < (b : Int)) = false := by simp
            have HNW := Lib.hid (HLAW.out.new b hlt HNO.out)
            have cc := HQ.out.1.rc.fnl_at' HE.out.1 hlt
            have cz := HQ.out.1.rz.fnl_at' HE.out.2.1 hlt
            rw [HNW.out.1] at cc cz
            go_wp2
            go_roundw
            case rel => exact ⟨b + 1, by omega, by go_num, by rw [HNW.out.2]; go_num, by have h := HQ; rw [HE.out.2.2, HE.out.1, HE.out.2.1] at h; exact h⟩
            case measure => simp [intOf]; omega
        · have HEX := Lib.hid hex
          clear HN hex
          have dn : decide ((C a : Int) < 0) = false := by simp
          have dn2 : ¬ (C a : Int) < 0 := by omega
          have cc := HQ.out.1.rc.fnl_at' HE.out.1 hlt
          have cz := HQ.out.1.rz.fnl_at' HE.out.2.1 hlt
          have HOL := Lib.hid (show L (a + 1) = L a by obtain ⟨p, hp, e⟩ := HEX.out; exact (HLAW.out.old a p hlt hp e).2)
          by_cases hlb : b < a
          · have db : decide ((b : Int) < (a : Int)) = true := by simp; omega
            go_wp2
            go_roundw
            case rel => exact ⟨a + 1, by omega, by go_num, by rw [HOL.out], by have h := HQ; rw [HE.out.2.2, HE.out.1, HE.out.2.1] at h; exact h⟩
            case measure => simp [intOf]; omega
          · have db : decide ((b : Int) < (a : Int)) = false := by simp; omega
            go_wp2
            go_roundw
            case rel => exact ⟨a + 1, by omega, by go_num, by rw [HOL.out], by have h := HQ; rw [HE.out.2.2, HE.out.1, HE.out.2.1] at h; exact h⟩
            case measure => simp [intOf]; omega
    · have hak : a = k := by omega
      subst hak
      have da : decide ((a : Int) < (a : Int)) = false := by simp
      by_cases hm : most < 0
      · have dm : decide (most < 0) = true := decide_eq_true hm
        obtain ⟨h1, h2⟩ := HW3.out.1 hm
        subst h1 h2
        go_wp2
        go_ret
        exact ⟨rfl, HR.out.1.below⟩
      · have dm : decide (most < 0) = false := decide_eq_false hm
        obtain ⟨h1, h2, h3⟩ := HW3.out.2 (by omega)
        subst h1 h2
        have HNF := Lib.hid h3
        have HR3 := Lib.hid (HR.out.2 (by omega))
        clear h3 HW3
        go_wp2_with fail
        refine (refWeb_any X n3 cp w.heap.size xs most wr HR.out.1.sd HR.out.1.below.size hk HMB.out).mono ?_
        rintro e w6 ⟨g, G, rfl, hg, hrow, hnum, hb⟩
        have HFG := Lib.hid (HNF.out.one hnum)
        have H6 := Lib.hid (And.intro hrow (And.intro (HR3.out.up hb hb.size) (HR.out.1.below.trans (hb.mono HR.out.1.below.size))))
        clear hrow hnum hb HR3 HNF
        go_wp2
        go_loopw [17] (fun v17 wq => ∃ c : Nat, c ≤ n3 ∧ v17 = .int .i64 c ∧ Hid (IntR wq g n3 n3 (fun a => (G a : Int)) ∧ Rd wq 0 wq.heap.size 1 A3 n3 (fnl (fun a => (F3 a : Int)) n3) ∧ Below w.heap.size w wq)) (fun v17 _ => n3 - (intOf v17).toNat)
        case atStart => exact ⟨0, by omega, rfl, H6⟩
        case round =>
          obtain ⟨c, hc, rfl, HQ⟩ := hrel
          clear H6 HR
          by_cases hlc : c < n3
          · have i1 : (0 : Int) ≤ (c : Int) := by omega
            have i2 : (c : Int) < (n3 : Int) := by omega
            have dc : decide ((c : Int) < (n3 : Int)) = true := by simp; omega
            obtain ⟨b3, o3, e3, _, _, c3⟩ := HQ.out.2.1.fnl hlc
            have cg := HQ.out.1.cell hlc
            rw [HFG.out c hlc] at c3
            have HE3 := Lib.hid e3
            rw [e3]
            clear e3
            generalize (G c : Int) = d at *
            go_wp2
            go_quiet (fail)
            go_wp2
            go_roundw
            case rel => exact ⟨c + 1, by omega, by go_num, Lib.hid ⟨HQ.out.1.on (bdrawn (Below.refl _ _) _), (by have h := HQ.out.2.1; rw [HE3.out] at h; exact h.up (bdrawn (Below.refl _ wr) _) (bdrawn (Below.refl wr.heap.size wr) _).size), bdrawn HQ.out.2.2 _⟩⟩
            case measure => simp [intOf]; omega
          · have hcn : c = n3 := by omega
            subst hcn
            have dc : decide ((c : Int) < (c : Int)) = false := by simp
            go_wp2
            go_ret
            exact ⟨rfl, HQ.out.2.2⟩
theorem rhymeClasses_any (X : Option Addr) (k cp : Nat) (xs : List Sd) (most : Int) (w : World) (hr : SdsIn w w.heap.size X k xs) : Calls Try.prog 14 #[.slice X k cp, .int .i64 most] w fun e w' => e = .returned (.bool true) ∧ Below w.heap.size w w' := by
  by_cases hk : k ≤ 60
  · cases hall : xs.all mayB with
    | true => exact rcl_ok X k cp xs most w hr hk hall
    | false => exact rcl_ill X k cp xs most w hr hk hall
  · have d1 : decide ((60 : Int) < (k : Int)) = true := by simp; omega
    go_enter Try.func14, Try.ntmps14
    go_wp2_with fail
    refine (wakes15_any w).mono ?_
    rintro e w1 ⟨rfl, hb⟩
    have H1 := Lib.hid hb
    clear hb
    go_wp2
    go_ret
    exact ⟨rfl, H1.out⟩
end Go.Proofs.Ytogofchpocoebaa
