/- The reference's Web. -/
import Derived.Test.YtogofchpocoebaaV7
import Derived.Test.YtogofchpocoebaaQ11
namespace Go.Proofs.Ytogofchpocoebaa
open Go.RowKit Go.Maps

/-- a row of k ints in block g, of which the first m are f's -/
def IntR (W : World) (g k m : Nat) (f : Nat → Int) : Prop := ∃ cs : Array Value, Blk W g 3 cs ∧ cs.size = k ∧ ∀ a, a < m → cs[a]? = some (.int .i64 (f a))
section
variable {W W' : World} {g k m : Nat} {f : Nat → Int}
theorem IntR.lt (h : IntR W g k m f) : g < W.heap.size := let ⟨_, h1, _⟩ := h; h1.lt
theorem IntR.on (h : IntR W g k m f) (hb : Below W.heap.size W W') : IntR W' g k m f := let ⟨cs, h1, h2, h3⟩ := h; ⟨cs, h1.below hb h1.lt, h2, h3⟩
theorem IntR.only {S : Nat → Prop} (h : IntR W g k m f) (ho : Only S W W') (hS : ¬ S g) : IntR W' g k m f := let ⟨cs, h1, h2, h3⟩ := h; ⟨cs, h1.only ho hS, h2, h3⟩
theorem IntR.cell (h : IntR W g k m f) {a : Nat} (ha : a < m) : W.cell? ⟨g, a, none⟩ = some (.int .i64 (f a)) := let ⟨_, h1, _, h3⟩ := h; (h1.cell a).trans (h3 a ha)
theorem IntR.frozen (h : IntR W g k m f) (a : Nat) : W.frozen? ⟨g, a, none⟩ = false := let ⟨_, h1, _⟩ := h; h1.frozen a
theorem IntR.has (h : IntR W g k m f) {a : Nat} (ha : a < k) : ∃ u, W.cell? ⟨g, a, none⟩ = some u := let ⟨_, h1, h2, _⟩ := h; ⟨_, (h1.cell a).trans (Array.getElem?_eq_getElem (by omega))⟩
theorem IntR.set (h : IntR W g k m f) {j : Nat} (hj : j < k) (v : Int) : IntR (W.setCell ⟨g, j, none⟩ (.int .i64 v)) g k m (fun a => if a = j then v else f a) := by
  obtain ⟨cs, h1, h2, h3⟩ := h
  refine ⟨cs.setIfInBounds j (.int .i64 v), h1.set_ j _, by simpa using h2, fun a ha => ?_⟩
  rw [Array.getElem?_setIfInBounds]
  by_cases e : a = j
  · subst e; rw [if_pos rfl, if_pos (by omega)]; dsimp only; rw [if_pos rfl]
  · rw [if_neg (Ne.symm e)]; dsimp only; rw [if_neg e]; exact h3 a ha
theorem IntR.next (h : IntR W g k m f) (hj : m < k) {v : Int} (hv : v = f m) : IntR (W.setCell ⟨g, m, none⟩ (.int .i64 v)) g k (m + 1) f := by
  obtain ⟨cs, h1, h2, h3⟩ := h
  refine ⟨cs.setIfInBounds m (.int .i64 v), h1.set_ m _, by simpa using h2, fun a ha => ?_⟩
  rw [Array.getElem?_setIfInBounds]
  by_cases e : a = m
  · subst e; rw [if_pos rfl, if_pos (by omega), hv]
  · rw [if_neg (Ne.symm e)]; exact h3 a (by omega)
theorem IntR.congr {f' : Nat → Int} (h : IntR W g k m f) (hf : ∀ a, a < m → f a = f' a) : IntR W g k m f' := let ⟨cs, h1, h2, h3⟩ := h; ⟨cs, h1, h2, fun a ha => by rw [h3 a ha, hf a ha]⟩
theorem IntR.own (h : IntR W g k k f) {base : Nat} (hb : base ≤ g) (hk : k ≤ maxLen) : W.ownsRow base 3 1 (.slice (some ⟨g, 0, none⟩) k k) k (fnl f k) := by
  obtain ⟨cs, h1, h2, h3⟩ := h
  refine ⟨by rw [fnl_len, Nat.mul_one], .inr ⟨g, k, cs, rfl, hb, h1, Nat.le_refl _, hk, by rw [h2, Nat.mul_one], ?_⟩⟩
  rw [Nat.mul_one]
  apply List.ext_getElem?
  intro i
  by_cases hi : i < k
  · rw [List.getElem?_take, if_pos hi, fnl_at hi, Array.getElem?_toList]
    exact h3 i hi
  · rw [List.getElem?_eq_none (by rw [List.length_take]; omega), List.getElem?_eq_none (by rw [fnl_len]; omega)]
end
/-- how much is left of the loop 'for changed' -/
def mW (v : Value) (w : World) (g k : Nat) : Nat := 2 * sumW w g k + (match v with | .bool true => 1 | _ => 0)

/-- labels that sink: each form's leads to it by near ones -/
structure LabOk (N : Nat) (r : Nat → Nat → Bool) (F : Nat → Nat) : Prop where
  le : ∀ a, a < N → F a ≤ a
  con : ∀ a, a < N → Conn N r (F a) a
theorem LabOk.init (N : Nat) (r : Nat → Nat → Bool) : LabOk N r (fun a => a) := ⟨fun _a _ => Nat.le_refl _, fun _a _ => Conn.refl _ _ _⟩
theorem LabOk.sink {N : Nat} {r : Nat → Nat → Bool} {F : Nat → Nat} (h : LabOk N r F) (hr : ∀ a b, r a b = r b a) {i j : Nat} (hi : i < N) (hj : j < N) (hlt : F j < F i) (hn : r i j = true) : LabOk N r (fun a => if a = i then F j else F a) := by
  refine ⟨fun a ha => ?_, fun a ha => ?_⟩
  · split
    · rename_i e; subst e; have := h.le a ha; omega
    · exact h.le a ha
  · split
    · rename_i e; subst e; exact (h.con j hj).step hj ha (by rw [hr]; exact hn)
    · exact h.con a ha
theorem near_comm (xs : List Sd) (most : Int) (a b : Nat) : nearQ xs most a b = nearQ xs most b a := by
  unfold nearQ farS
  rw [cost_comm]
/-- which pairs have been looked at: none of them sinks -/
def Flat (N : Nat) (r : Nat → Nat → Bool) (F : Nat → Nat) (i j : Nat) : Prop := ∀ a b, b < N → (a < i ∨ (a = i ∧ b < j)) → r a b = true → ¬ F b < F a

def natW (n : Nat) : Value := .int .i64 (n : Int)
/-- the state of the numbering -/
structure NmSt (w : World) (g k : Nat) (F : Nat → Nat) (m : Nat) (l out : List Nat) (v : Value) (wr : World) : Prop where
  own : wr.ownsRow (g + 1) 3 1 v l.length (l.map natW)
  row : IntR wr g k k (fun a => ((if a < m then out.getD a 0 else F a : Nat) : Int))
  below : Below g w wr
section
variable {w wr w' : World} {g k m n : Nat} {F : Nat → Nat} {l l' out : List Nat} {v v' : Value}
theorem NmSt.on (h : NmSt w g k F m l out v wr) (hb : Below wr.heap.size wr w') : NmSt w g k F m l out v w' :=
  ⟨own_stay h.own (Only.of_below hb _), h.row.on hb, h.below.trans (hb.mono (Nat.le_of_lt h.row.lt))⟩
theorem NmSt.app {cs : List Value} (h : NmSt w g k F m l out v wr) (hown : w'.ownsRow (g + 1) 3 1 v' n cs) (hg : wr.grownBy w' v.ownBlock) (hc : cs = l'.map natW) : NmSt w g k F m l' out v' w' := by
  subst hc
  have hn : n = l'.length := by have := hown.1; simp at this; omega
  subst hn
  have ho : Only (fun k => v.ownBlock = some k) wr w' := (Only.refl _ _).grown hg (fun _ hg => .inl hg)
  exact ⟨hown, h.row.only ho (fun hk => by have := (h.own.lt _ hk).1; omega), h.below.trans (ho.below (Nat.le_of_lt h.row.lt) (fun k hk hh => by have := (h.own.lt _ hh).1; omega))⟩
theorem NmSt.set (h : NmSt w g k F m l out v wr) (hm : m < k) (hl : out.length = m) (n : Nat) : NmSt w g k F (m + 1) l (out ++ [n]) v (wr.setCell ⟨g, m, none⟩ (.int .i64 (n : Int))) := by
  refine ⟨own_setCell h.own (Nat.lt_succ_self _) _, (h.row.set hm (n : Int)).congr (fun a _ => ?_), h.below.setCell (Nat.le_refl _) _⟩
  by_cases e : a = m
  · rw [if_pos e, if_pos (by omega), getD_snoc_eq (by omega)]
  · rw [if_neg e]
    by_cases e2 : a < m
    · rw [if_pos e2, if_pos (by omega), getD_snoc_lt (by omega)]
    · rw [if_neg e2, if_neg (by omega)]
theorem NmSt.name (h : NmSt w g k F m l out v wr) {b : Nat} (hb : b < l.length) : ∃ (A : Option Addr) (bk o c : Nat), v = .slice A l.length c ∧ A = some ⟨bk, o, none⟩ ∧ wr.cell? ⟨bk, o + b, none⟩ = some (.int .i64 ((l.getD b 0 : Nat) : Int)) := by
  have ho := h.own
  obtain ⟨A, c, rfl⟩ := own_slice ho
  obtain ⟨bk, o, e, _, _, hc⟩ := (own_rd ho).2 (by omega)
  refine ⟨A, bk, o, c, rfl, e, hc b _ ?_⟩
  rw [List.getElem?_map, List.getElem?_eq_getElem hb]
  simp [natW, List.getD_eq_getElem?_getD, List.getElem?_eq_getElem hb]
end
def ixV (o : Option Nat) : Value := .int .i64 (match o with | some n => (n : Int) | none => -1)
theorem ix_next {l : List Nat} {v b : Nat} (hb : b < l.length) : ixOf l v (b + 1) = if l.getD b 0 = v then some b else ixOf l v b := by
  rw [ixOf, List.getElem?_eq_getElem hb, List.getD_eq_getElem?_getD, List.getElem?_eq_getElem hb]
  simp
theorem num_some {F : Nat → Nat} {m n : Nat} (h : ixOf (numSt F m).1 (F m) (numSt F m).1.length = some n) : numSt F (m + 1) = ((numSt F m).1, (numSt F m).2 ++ [n]) := by
  simp only [numSt, h]
theorem num_none {F : Nat → Nat} {m : Nat} (h : ixOf (numSt F m).1 (F m) (numSt F m).1.length = none) : numSt F (m + 1) = ((numSt F m).1 ++ [F m], (numSt F m).2 ++ [(numSt F m).1.length]) := by
  simp only [numSt, h]
set_option maxHeartbeats 8000000 in
set_option maxRecDepth 100000 in
theorem refWeb_any (X : Option Addr) (k cp BB : Nat) (xs : List Sd) (most : Int) (w : World) (h : SdsIn w BB X k xs) (hBB : BB ≤ w.heap.size) (hk : k ≤ 60) (hm : ∀ x ∈ xs, mayB x = true) :
    Calls Try.prog 74 #[.slice X k cp, .int .i64 most] w fun e w' => ∃ (g : Nat) (F : Nat → Nat), e = .returned (.slice (some ⟨g, 0, none⟩) k k) ∧ w.heap.size ≤ g ∧ IntR w' g k k (fun a => (F a : Int)) ∧ Num k (Conn k (nearQ xs most)) F ∧ Below w.heap.size w w' := by
  have HX := Lib.hid h
  have HF := Lib.hid hm
  have HL := Lib.hid h.len
  have HK := Lib.hid hk
  clear h hm
  obtain ⟨i0, hi, hz0, hz1, hz2⟩ := info_parts info3
  obtain ⟨Z, hZ, hmk⟩ := made_full (P := Try.prog) 71 3 i0 (.int .i64 0) 1 Try.underlying71 hi hz0 hz1 k (by rw [hz2]; omega) (by unfold maxLen; omega)
  have HI := Lib.hid (And.intro hi (And.intro hz0 (And.intro hz1 hz2)))
  clear hi hz0 hz1 hz2
  have wf : ∀ k, Fence.wide.fn k := fun _ => trivial
  have wd : Fence.wide.depth = none := rfl
  go_enter Try.func74, Try.ntmps74
  go_upto_region 2 with (fail)
  refine wp_abs (fun wx => IntR wx w.heap.size k 0 (fun a => ((a : Nat) : Int)) ∧ Below w.heap.size w wx) ⟨⟨Z, Blk.new _ _ _, by rw [hZ, Nat.mul_one], fun a ha => absurd ha (Nat.not_lt_zero _)⟩, (Below.refl _ _).alloc (Nat.le_refl _) _⟩ ?_
  intro w1 h1
  have H1 := Lib.hid h1
  obtain ⟨g, hg⟩ : ∃ g, g = w.heap.size := ⟨_, rfl⟩
  have HG := Lib.hid hg
  rw [← hg] at H1 ⊢
  clear hmk hZ h1 hg
  go_wp2
  go_loopw [6] (fun v wr => ∃ i : Nat, i ≤ k ∧ v = .int .i64 i ∧ Hid (IntR wr g k i (fun a => ((a : Nat) : Int)) ∧ Below g w wr)) (fun v _ => k - (intOf v).toNat)
  case atStart => exact ⟨0, by omega, rfl, H1⟩
  case round =>
    obtain ⟨i, hi, rfl, HR⟩ := hrel
    by_cases hlt : i < k
    · obtain ⟨u, fc⟩ := HR.out.1.has hlt
      have fo := HR.out.1.frozen i
      have i1 : (0 : Int) ≤ (i : Int) := by omega
      have i2 : (i : Int) < (k : Int) := by omega
      have di : decide ((i : Int) < (k : Int)) = true := by simp; omega
      go_wp2
      go_roundw
      case rel => exact ⟨i + 1, by omega, by go_num, Lib.hid ⟨HR.out.1.next hlt rfl, HR.out.2.setCell (Nat.le_refl _) _⟩⟩
      case measure => simp [intOf]; omega
    · have hik : i = k := by omega
      subst hik
      have di : decide ((i : Int) < (i : Int)) = false := by simp
      clear H1
      go_wp2
      go_loopw [7, 8, 9] (fun v7 _ _ wr => ∃ (c : Bool) (F : Nat → Nat), v7 = .bool c ∧ Hid (IntR wr g i i (fun a => (F a : Int)) ∧ Below g w wr ∧ LabOk i (nearQ xs most) F ∧ (c = false → Flat i (nearQ xs most) F i 0))) (fun v7 _ _ wr => mW v7 wr g i)
      case atStart => exact ⟨true, fun a => a, rfl, Lib.hid ⟨HR.out.1, HR.out.2, LabOk.init _ _, fun h => by cases h⟩⟩
      case round =>
        obtain ⟨c, F, rfl, HQ⟩ := hrel
        clear HR
        cases c with
        | true =>
          have hm0 : mW (.bool true) wr g i = 2 * sumF F i + 1 := by unfold mW; rw [sumW_is (f := F) (fun j hj => HQ.out.1.cell hj)]
          have HM0 := Lib.hid hm0
          clear hm0
          go_wp2
          go_loopw [7, 8, 9] (fun v7 v8 _ wq => ∃ (c : Bool) (G : Nat → Nat) (a : Nat), v7 = .bool c ∧ v8 = .int .i64 a ∧ a ≤ i ∧ Hid (IntR wq g i i (fun a => (G a : Int)) ∧ Below g w wq ∧ LabOk i (nearQ xs most) G ∧ (c = true → sumF G i < sumF F i) ∧ (c = false → sumF G i = sumF F i ∧ Flat i (nearQ xs most) G a 0))) (fun _ v8 _ _ => i - (intOf v8).toNat)
          case atStart => exact ⟨false, F, 0, rfl, rfl, by omega, Lib.hid ⟨HQ.out.1, HQ.out.2.1, HQ.out.2.2.1, (fun h => by cases h), fun _ => ⟨rfl, fun a b _ h => by omega⟩⟩⟩
          case round =>
            obtain ⟨c, G, a, rfl, rfl, ha, HS⟩ := hrel
            by_cases hla : a < i
            · have i1 : (0 : Int) ≤ (a : Int) := by omega
              have i2 : (a : Int) < (i : Int) := by omega
              have da : decide ((a : Int) < (i : Int)) = true := by simp; omega
              go_wp2
              go_loopw [7, 9] (fun v7 v9 wp_ => ∃ (c : Bool) (G : Nat → Nat) (b : Nat), v7 = .bool c ∧ v9 = .int .i64 b ∧ b ≤ i ∧ Hid (IntR wp_ g i i (fun a => (G a : Int)) ∧ Below g w wp_ ∧ LabOk i (nearQ xs most) G ∧ (c = true → sumF G i < sumF F i) ∧ (c = false → sumF G i = sumF F i ∧ Flat i (nearQ xs most) G a b))) (fun _ v9 _ => i - (intOf v9).toNat)
              case atStart => exact ⟨c, G, 0, rfl, rfl, by omega, HS⟩
              case round =>
                obtain ⟨c, G, b, rfl, rfl, hb, HS⟩ := hrel
                by_cases hlb : b < i
                · have j1 : (0 : Int) ≤ (b : Int) := by omega
                  have j2 : (b : Int) < (i : Int) := by omega
                  have db : decide ((b : Int) < (i : Int)) = true := by simp; omega
                  have ca : wr.cell? ⟨g, a, none⟩ = some (.int .i64 (G a : Int)) := HS.out.1.cell hla
                  have cb : wr.cell? ⟨g, b, none⟩ = some (.int .i64 (G b : Int)) := HS.out.1.cell hlb
                  have hc2 : ∀ c' : Bool, (c' = true → sumF G i < sumF F i) → True := fun _ _ => trivial
                  by_cases hgl : G b < G a
                  · have dg : decide ((G b : Int) < (G a : Int)) = true := by simp; omega
                    have hxx := HX.out.below (show Below w.heap.size w wr by have h := HS.out.2.1; rwa [HG.out] at h) hBB
                    obtain ⟨ba, oa, eX, hba, x0, x1, hx1, hmx⟩ := hxx.at hla
                    obtain ⟨bb, ob, eX2, hbb, y0, y1, hy1, hmy⟩ := hxx.at hlb
                    rw [eX] at eX2
                    injection eX2 with eX2
                    injection eX2 with e1 e2
                    subst e1 e2
                    have hBr : BB ≤ wr.heap.size := Nat.le_trans hBB (by have := HS.out.2.1.size; exact this)
                    have hqd : nearQ xs most a b = decide (farS (xs.getD a sd0) (xs.getD b sd0) ≤ most) := rfl
                    have HXX := Lib.hid (And.intro hx1 (And.intro hy1 (And.intro (HF.out _ hmx) (HF.out _ hmy))))
                    have HQD := Lib.hid hqd
                    rw [eX]
                    clear hx1 hy1 hmx hmy hqd eX hxx
                    generalize xs.getD a sd0 = x at *
                    generalize xs.getD b sd0 = y at *
                    go_wp2
                    have Xx0 := Bel.cell x0
                    have Xx1 := Bel.cell x1
                    have Xy0 := Bel.cell y0
                    have Xy1 := Bel.cell y1
                    have Xca := Bel.cell ca
                    have Xcb := Bel.cell cb
                    clear x0 x1 y0 y1 ca cb
                    refine wp_bel (by kernel_rfl) (by kernel_rfl) ?_
                    repeat (gi_big_quiet_step (fail))
                    gi_big_quiet_want
                    gi_big_quiet_op
                    refine ⟨.int .i64 (farS x y), fun u => ?_, ?_⟩
                    · exact callsIn_wide.2 ((refNear_any x y BB u.1 (HXX.out.1.below u.2 hBr) (HXX.out.2.1.below u.2 hBr) (Nat.le_trans hBr u.2.size) HXX.out.2.2).mono (fun e w' h => ⟨h.1, u.next h.2⟩))
                    go_big_quiet_on
                    repeat (gi_big_quiet_step (fail))
                    refine wpQuietIn_nil ?_
                    intro _ hw'
                    obtain ⟨uW, hw''⟩ := hw'
                    subst hw''
                    have HZ := Lib.hid (show IntR uW.1 g i i (fun a => (G a : Int)) ∧ Below g w uW.1 from ⟨HS.out.1.on uW.2, HS.out.2.1.trans (uW.2.mono (by have := HS.out.1.lt; omega))⟩)
                    generalize uW.1 = wz at *
                    clear Xx0 Xx1 Xy0 Xy1 Xca Xcb HXX
                    by_cases hq : farS x y ≤ most
                    · have dq : decide (farS x y ≤ most) = true := decide_eq_true hq
                      have dq3 : ¬ most < farS x y := by omega
                      have hnr : nearQ xs most a b = true := by rw [HQD.out]; exact dq
                      have HNR := Lib.hid hnr
                      clear hnr hq
                      have cb : wz.cell? ⟨g, b, none⟩ = some (.int .i64 (G b : Int)) := HZ.out.1.cell hlb
                      have ca : wz.cell? ⟨g, a, none⟩ = some (.int .i64 (G a : Int)) := HZ.out.1.cell hla
                      have fa : wz.frozen? ⟨g, a, none⟩ = false := HZ.out.1.frozen a
                      generalize farS x y = d at *
                      go_wp2
                      go_roundw
                      case rel =>
                        refine ⟨true, (fun c => if c = a then G b else G c), b + 1, rfl, by go_num, by omega, Lib.hid ⟨((HZ.out.1.set hla (G b : Int)).congr (fun c _ => by dsimp only; split <;> rfl)), HZ.out.2.setCell (Nat.le_refl _) _, HS.out.2.2.1.sink (near_comm xs most) hla hlb hgl HNR.out, fun _ => ?_, fun h => by cases h⟩⟩
                        have h1 := sum_set (f := G) (j := a) (v := G b) hgl i
                        rw [if_pos hla] at h1
                        cases c with
                        | true => have := HS.out.2.2.2.1 rfl; omega
                        | false => have := (HS.out.2.2.2.2 rfl).1; omega
                      case measure => simp [intOf]; omega
                    · have dq : decide (farS x y ≤ most) = false := decide_eq_false hq
                      have dq3 : most < farS x y := by omega
                      have hnr : nearQ xs most a b = false := by rw [HQD.out]; exact dq
                      have HNR := Lib.hid hnr
                      clear hnr hq
                      generalize farS x y = d at *
                      go_wp2
                      go_roundw
                      case rel => exact ⟨c, G, b + 1, rfl, by go_num, by omega, Lib.hid ⟨HZ.out.1, HZ.out.2, HS.out.2.2.1, HS.out.2.2.2.1, fun h => ⟨(HS.out.2.2.2.2 h).1, fun a' b' hb' h2 hn' => by
                        rcases h2 with h2 | ⟨rfl, h2⟩
                        · exact (HS.out.2.2.2.2 h).2 a' b' hb' (.inl h2) hn'
                        · rcases Nat.lt_or_ge b' b with h3 | h3
                          · exact (HS.out.2.2.2.2 h).2 a' b' hb' (.inr ⟨rfl, h3⟩) hn'
                          · have : b' = b := by omega
                            subst this
                            rw [HNR.out] at hn'
                            cases hn'⟩⟩⟩
                      case measure => simp [intOf]; omega
                  · have dg : decide ((G b : Int) < (G a : Int)) = false := by simp; omega
                    go_wp2
                    go_quiet (fail)
                    go_wp2
                    go_roundw
                    case rel => exact ⟨c, G, b + 1, rfl, by go_num, by omega, Lib.hid ⟨HS.out.1.on (Below.drewNB (Below.refl _ _) _), bdrawn HS.out.2.1 _, HS.out.2.2.1, HS.out.2.2.2.1, fun h => ⟨(HS.out.2.2.2.2 h).1, fun a' b' hb' h2 hn' => by
                      rcases h2 with h2 | ⟨rfl, h2⟩
                      · exact (HS.out.2.2.2.2 h).2 a' b' hb' (.inl h2) hn'
                      · rcases Nat.lt_or_ge b' b with h3 | h3
                        · exact (HS.out.2.2.2.2 h).2 a' b' hb' (.inr ⟨rfl, h3⟩) hn'
                        · have : b' = b := by omega
                          subst this
                          exact hgl⟩⟩⟩
                    case measure => simp [intOf]; omega
                · have hbi : b = i := by omega
                  subst hbi
                  have db : decide ((b : Int) < (b : Int)) = false := by simp
                  go_wp2
                  go_roundw
                  case rel => exact ⟨c, G, a + 1, rfl, by go_num, by omega, Lib.hid ⟨HS.out.1, HS.out.2.1, HS.out.2.2.1, HS.out.2.2.2.1, fun h => ⟨(HS.out.2.2.2.2 h).1, fun a' b' hb' h2 hn' => by
                    rcases h2 with h2 | ⟨_, h2⟩
                    · rcases Nat.lt_or_ge a' a with h3 | h3
                      · exact (HS.out.2.2.2.2 h).2 a' b' hb' (.inl h3) hn'
                      · exact (HS.out.2.2.2.2 h).2 a' b' hb' (.inr ⟨by omega, hb'⟩) hn'
                    · omega⟩⟩⟩
                  case measure => simp [intOf]; omega
            · have hai : a = i := by omega
              subst hai
              have da : decide ((a : Int) < (a : Int)) = false := by simp
              go_wp2
              go_roundw
              case rel => exact ⟨c, G, rfl, Lib.hid ⟨HS.out.1, HS.out.2.1, HS.out.2.2.1, fun h => (HS.out.2.2.2.2 h).2⟩⟩
              case measure =>
                rw [HM0.out]
                unfold mW
                rw [sumW_is (f := G) (fun j hj => HS.out.1.cell hj)]
                cases c with
                | true => have := HS.out.2.2.2.1 rfl; simp; omega
                | false => have := (HS.out.2.2.2.2 rfl).1; simp; omega
        | false =>
          have HFL := Lib.hid (And.intro HQ.out.2.2.1 (HQ.out.2.2.2 rfl))
          have HB0 := Lib.hid (show NmSt w g i F 0 (numSt F 0).1 (numSt F 0).2 (.slice none 0 0) wr from ⟨⟨rfl, .inl ⟨rfl, rfl⟩⟩, HQ.out.1.congr (fun a _ => by rw [if_neg (by omega)]), HQ.out.2.1⟩)
          clear HQ
          go_wp2
          go_loopw [10, 11, 12, 13] (fun v10 v11 _ _ wr => ∃ m : Nat, m ≤ i ∧ v11 = .int .i64 m ∧ Hid (NmSt w g i F m (numSt F m).1 (numSt F m).2 v10 wr)) (fun _ v11 _ _ _ => i - (intOf v11).toNat)
          case atStart => exact ⟨0, by omega, rfl, HB0⟩
          case round =>
            obtain ⟨m, hm, rfl, HN⟩ := hrel
            clear HB0
            by_cases hlm : m < i
            · have i1 : (0 : Int) ≤ (m : Int) := by omega
              have i2 : (m : Int) < (i : Int) := by omega
              have da : decide ((m : Int) < (i : Int)) = true := by simp; omega
              have hnl := (numSt_ok F m).few
              have HOL := Lib.hid (numSt_ok F m).len
              have HSN := Lib.hid (And.intro (@num_some F m) (@num_none F m))
              obtain ⟨XV, XC, eV⟩ := own_slice HN.out.own
              subst eV
              generalize (numSt F m).1 = l at *
              generalize (numSt F m).2 = out at *
              go_wp2
              go_loopw [12, 13] (fun v12 v13 wq => ∃ b : Nat, b ≤ l.length ∧ v13 = .int .i64 b ∧ v12 = ixV (ixOf l (F m) b) ∧ Hid (NmSt w g i F m l out (.slice XV l.length XC) wq)) (fun _ v13 _ => l.length - (intOf v13).toNat)
              case atStart => exact ⟨0, by omega, rfl, rfl, HN⟩
              case round =>
                obtain ⟨b, hb, rfl, rfl, HP⟩ := hrel
                by_cases hlb : b < l.length
                · have j1 : (0 : Int) ≤ (b : Int) := by omega
                  have j2 : (b : Int) < (l.length : Int) := by omega
                  have db : decide ((b : Int) < (l.length : Int)) = true := by simp; omega
                  obtain ⟨XA, bk, ok, xc, exv, exa, cx⟩ := HP.out.name hlb
                  injection exv with ex1 _ ex2
                  subst ex1 ex2
                  subst exa
                  have cr : wr.cell? ⟨g, m, none⟩ = some (.int .i64 ((F m : Nat) : Int)) := by
                    have h := HP.out.row.cell hlm
                    rwa [if_neg (Nat.lt_irrefl m)] at h
                  have HIX := Lib.hid (ix_next (v := F m) hlb)
                  by_cases he : l.getD b 0 = F m
                  · have de : (((l.getD b 0 : Nat) : Int) == ((F m : Nat) : Int)) = true := beq_iff_eq.2 (by omega)
                    have HE := Lib.hid he
                    clear he
                    generalize l.getD b 0 = lb at *
                    go_wp2
                    go_quiet (fail)
                    go_wp2
                    go_roundw
                    case rel => exact ⟨b + 1, by omega, by go_num, by rw [HIX.out, if_pos HE.out]; rfl, Lib.hid (HP.out.on (bdrawn (Below.refl _ _) _))⟩
                    case measure => simp [intOf]; omega
                  · have de : (((l.getD b 0 : Nat) : Int) == ((F m : Nat) : Int)) = false := beq_eq_false_iff_ne.2 (by omega)
                    have HE := Lib.hid he
                    clear he
                    generalize l.getD b 0 = lb at *
                    go_wp2
                    go_quiet (fail)
                    go_wp2
                    go_roundw
                    case rel => exact ⟨b + 1, by omega, by go_num, by rw [HIX.out, if_neg HE.out], Lib.hid (HP.out.on (bdrawn (Below.refl _ _) _))⟩
                    case measure => simp [intOf]; omega
                · have hbl : b = l.length := by omega
                  subst hbl
                  have db : decide (((l.length : Nat) : Int) < ((l.length : Nat) : Int)) = false := by simp
                  clear HN
                  cases hix : ixOf l (F m) l.length with
                  | some n =>
                    have hnn : ixV (some n) = .int .i64 (n : Int) := rfl
                    have dn : decide ((n : Int) < 0) = false := decide_eq_false (by omega)
                    obtain ⟨u, fc⟩ := HP.out.row.has hlm
                    have fo := HP.out.row.frozen m
                    have HSS := Lib.hid (HSN.out.1 hix)
                    clear hix
                    rw [hnn]
                    go_wp2
                    go_roundw
                    case rel => exact ⟨m + 1, by omega, by go_num, Lib.hid (by rw [HSS.out]; exact HP.out.set hlm HOL.out n)⟩
                    case measure => simp [intOf]; omega
                  | none =>
                    have hnn : ixV none = .int .i64 (-1) := rfl
                    have cr : wr.cell? ⟨g, m, none⟩ = some (.int .i64 ((F m : Nat) : Int)) := by
                      have h := HP.out.row.cell hlm
                      rwa [if_neg (Nat.lt_irrefl m)] at h
                    have HSS := Lib.hid (HSN.out.2 hix)
                    have hgl := HP.out.row.lt
                    clear hix
                    rw [hnn]
                    go_wp2_with (at_builtin; go_must (refine wpList_append_rd _ rfl _ _ 71 rfl (g + 1) 3 i0 (.int .i64 0) 1 8 Try.underlying71 HI.out.1 HI.out.2.1 HI.out.2.2.1 HI.out.2.2.2 rfl (by decide) _ _ _ rfl ((HP.out.own).alloc _) _ _ _ 1 1 _ rfl (rd_new _ _ #[.int .i64 ((F m : Nat) : Int)] 1 rfl) (by simp [Value.oneCell']) (by unfold maxLen; omega) (by omega) (by simp; omega) ?_; intro v4 w5 _ hown hgrow _; have HA := Lib.hid ((HP.out.on ((Below.refl _ _).alloc (Nat.le_refl _) _)).app (l' := l ++ [F m]) hown hgrow (by rw [List.map_append]; rfl)); clear hown hgrow; have fc := HA.out.row.has hlm; obtain ⟨u, fc⟩ := fc; have fo := HA.out.row.frozen m))
                    go_roundw
                    case rel => exact ⟨m + 1, by omega, by go_num, Lib.hid (by rw [HSS.out]; exact HA.out.set hlm HOL.out l.length)⟩
                    case measure => simp [intOf]; omega
            · have hmi : m = i := by omega
              subst hmi
              have da : decide ((m : Int) < (m : Int)) = false := by simp
              go_wp2
              go_ret
              refine ⟨g, numF F m, rfl, by rw [HG.out]; exact Nat.le_refl _, HN.out.row.congr (fun a ha => by rw [if_pos ha]; rfl), (numF_num F m).of_iff (fix_conn (near_comm xs most) HFL.out.1.con (fun a b ha hb => HFL.out.2 a b hb (.inl ha))), by have h := HN.out.below; rwa [HG.out] at h⟩
end Go.Proofs.Ytogofchpocoebaa
