/- phone's least: the cost from a pair of places on, all further ones being known. -/
import Derived.Test.YtogofchpocoebaaQ9
namespace Go.Proofs.Ytogofchpocoebaa
open Go.RowKit Go.Maps

theorem at_at (tb xb g : Nat) (A B : Option Addr) (la ca lb cb : Nat) (cs : Array Value) (i k : Nat) (x y : Int) (hx : x = i) (hy : y = k) (w : World) (h : ReIn tb xb g A B la ca lb cb cs w) (h1 : la ≤ 128) (h2 : lb ≤ 128) (hi : i ≤ la) (hk : k ≤ lb) :
    Calls Try.prog 130 #[.pointer (some ⟨xb, 0, none⟩), .int .i64 x, .int .i64 y] w fun e w' => e = .returned (.pointer (some ⟨g, i * (lb + 1) + k, none⟩)) ∧ Below w.heap.size w w' := by
  subst hx hy
  exact at_any tb xb g A B la ca lb cb cs i k w h h1 h2 hi hk
theorem Below.fullB {w0 W W' : World} (h : Below W.heap.size W W') (hb : Below w0.heap.size w0 W) : Below w0.heap.size W W' := h.mono hb.size
theorem Below.full {w0 W W' : World} (h : Below W.heap.size W W') (hb : Below w0.heap.size w0 W) : Below w0.heap.size W W' := h.mono hb.size
theorem LeSt.reB {w0 : World} {tb xb g la ca lb cb : Nat} {A B : Option Addr} {cells : Array Value} {a b : List Ph} {v : Int} {W W' : World} (h : LeSt w0 tb xb g A B la ca lb cb cells a b v W) (hb : Below w0.heap.size W W') : ReIn tb xb g A B la ca lb cb cells W' :=
  ⟨h.re.bx.below hb h.lx, h.re.bg.below hb h.lg, h.re.sz, h.re.tab.below hb h.lt⟩

set_option maxHeartbeats 4000000 in
set_option maxRecDepth 100000 in
theorem least_any (tb xb g : Nat) (A B : Option Addr) (la ca lb cb : Nat) (cells : Array Value) (a b : List Ph) (i k : Nat) (w : World) (h : ReIn tb xb g A B la ca lb cb cells w) (ra : Rd w 0 w.heap.size 3 A la (phs a)) (rb : Rd w 0 w.heap.size 3 B lb (phs b))
    (h1 : la ≤ 128) (h2 : lb ≤ 128) (hi : i ≤ la) (hk : k ≤ lb) (fa : ∀ p ∈ a, fit32 p.1) (fb : ∀ p ∈ b, fit32 p.1)
    (h11 : i < la → k < lb → cells[(i + 1) * (lb + 1) + (k + 1)]? = some (.int .i64 (cs a b (i + 1) (k + 1)))) (h10 : i < la → cells[(i + 1) * (lb + 1) + k]? = some (.int .i64 (cs a b (i + 1) k))) (h01 : k < lb → cells[i * (lb + 1) + (k + 1)]? = some (.int .i64 (cs a b i (k + 1)))) :
    Calls Try.prog 162 #[.pointer (some ⟨xb, 0, none⟩), .int .i64 i, .int .i64 k] w fun e w' => e = .returned (.int .i64 (cs a b i k)) ∧ Below w.heap.size w w' := by
  have ea := ra.len_ph
  have eb := rb.len_ph
  have H := Lib.hid (And.intro h (And.intro ra rb))
  have b11 := cs_bound a b (i + 1) (k + 1) (by omega) (by omega)
  have b10 := cs_bound a b (i + 1) k (by omega) (by omega)
  have b01 := cs_bound a b i (k + 1) (by omega) (by omega)
  have wi : IntKind.i64.wrap ((i : Int) + 1) = (i : Int) + 1 := IntWalk.i64_in _ (by omega)
  have wk : IntKind.i64.wrap ((k : Int) + 1) = (k : Int) + 1 := IntWalk.i64_in _ (by omega)
  have lx := h.bx.lt
  have lg := h.bg.lt
  have lt := h.tab.lt
  clear h
  have hcase : (i = la ∧ k = lb) ∨ (i < la ∧ k = lb) ∨ (i = la ∧ k < lb) ∨ (i < la ∧ k < lb) := by omega
  rcases hcase with ⟨hi', hk'⟩ | ⟨hi', hk'⟩ | ⟨hi', hk'⟩ | ⟨hi', hk'⟩
  · have hce := cs_end (a := a) (b := b) (i := i) (k := k) (by omega) (by omega)
    have HCE := Lib.hid hce
    have q1 : ((i : Int) == (la : Int)) = true := by rw [hi']; simp
    have q2 : ((k : Int) == (lb : Int)) = true := by rw [hk']; simp
    clear h11 h10 h01 b11 b10 b01 hce ra rb
    go_enter Try.func162, Try.ntmps162
    go_upto_region 2 with (fail)
    refine wp_abs (LeSt w tb xb g A B la ca lb cb cells a b (-1)) ⟨H.out.1.on ((Below.refl _ _).alloc (Nat.le_refl _) _), H.out.2.1.below ((Below.refl _ _).alloc (Nat.le_refl _) _) (Nat.le_refl _), H.out.2.2.below ((Below.refl _ _).alloc (Nat.le_refl _) _) (Nat.le_refl _), Blk.new _ _ _, (Below.refl _ _).alloc (Nat.le_refl _) _, lx, lg, lt⟩ ?_
    intro wx hx
    have x1wx : wx.cell? ⟨xb, 1, none⟩ = some (.slice A la ca) := hx.re.bx.cell 1
    have x2wx : wx.cell? ⟨xb, 2, none⟩ = some (.slice B lb cb) := hx.re.bx.cell 2
    have HX := Lib.hid hx
    clear hx
    go_wp2
    go_ret
    exact ⟨ret_int HCE.out.symm, HX.out.below⟩
  · skip
    obtain ⟨ba, oa, hla, rfl, _, hba, a0, a1, a2⟩ := ra.ph hi'
    have fp := fa _ (List.getElem_mem hla)
    have hce := cs_a (a := a) (b := b) (i := i) (k := k) hla (by omega)
    have lp := lone_pos a[i]
    have lp2 := lone_hi a[i]
    have H10 := Lib.hid (h10 hi')
    clear h11 h10 h01
    generalize cs a b (i + 1) (k + 1) = c11 at *
    generalize cs a b (i + 1) k = c10 at *
    generalize cs a b i (k + 1) = c01 at *
    generalize a[i] = p at *
    have FP := Lib.hid fp
    have PA := Lib.hid (And.intro hba (And.intro a0 (And.intro a1 a2)))
    clear fp a0 a1 a2
    generalize hcv : cs a b i k = cv at *
    have HCE := Lib.hid (And.intro hcv hce)
    clear hcv hce ra rb
    obtain ⟨b111, b112⟩ := b11
    obtain ⟨b101, b102⟩ := b10
    obtain ⟨b011, b012⟩ := b01
    have v2 : IntKind.i64.wrap (loneF p + c10) = loneF p + c10 := IntWalk.i64_in _ (by omega)
    have q1 : ((i : Int) == (la : Int)) = false := by simp; omega
    have q3 : decide ((i : Int) < (la : Int)) = true := by simp; omega
    have q2 : ((k : Int) == (lb : Int)) = true := by rw [hk']; simp
    have q4 : decide ((k : Int) < (lb : Int)) = false := by simp; omega
    have q5 : ¬ (k < lb) := by omega
    clear hk'
    go_enter Try.func162, Try.ntmps162
    go_upto_region 2 with (fail)
    refine wp_abs (LeSt w tb xb g (some ⟨ba, oa, none⟩) B la ca lb cb cells a b (-1)) ⟨H.out.1.on ((Below.refl _ _).alloc (Nat.le_refl _) _), H.out.2.1.below ((Below.refl _ _).alloc (Nat.le_refl _) _) (Nat.le_refl _), H.out.2.2.below ((Below.refl _ _).alloc (Nat.le_refl _) _) (Nat.le_refl _), Blk.new _ _ _, (Below.refl _ _).alloc (Nat.le_refl _) _, lx, lg, lt⟩ ?_
    intro wx hx
    have x1wx : wx.cell? ⟨xb, 1, none⟩ = some (.slice (some ⟨ba, oa, none⟩) la ca) := hx.re.bx.cell 1
    have x2wx : wx.cell? ⟨xb, 2, none⟩ = some (.slice B lb cb) := hx.re.bx.cell 2
    have HXwx := Lib.hid hx
    clear hx
    go_upto_region 8 with (fail)
    have hK : ∀ W', Below w.heap.size wx W' → W'.cell? ⟨xb, 0, none⟩ = some (.map (some tb)) ∧ W'.cell? ⟨xb, 1, none⟩ = some (.slice (some ⟨ba, oa, none⟩) la ca) ∧ W'.cell? ⟨ba, oa + i * 3, none⟩ = some (.int .i32 p.1) ∧ W'.cell? ⟨ba, oa + i * 3 + 1, none⟩ = some (.bool p.2.1) ∧ W'.cell? ⟨ba, oa + i * 3 + 2, none⟩ = some (.int .i32 p.2.2) ∧ W'.cell? ⟨g, (i + 1) * (lb + 1) + k, none⟩ = some (.int .i64 c10) := fun W' hb' => by
      have h1 := HXwx.out.reB hb'
      exact ⟨h1.bx.cell 0, h1.bx.cell 1, (hb'.cell (p := ⟨ba, oa + i * 3, none⟩) PA.out.1).trans ((HXwx.out.below.cell (p := ⟨ba, oa + i * 3, none⟩) PA.out.1).trans PA.out.2.1), (hb'.cell (p := ⟨ba, oa + i * 3 + 1, none⟩) PA.out.1).trans ((HXwx.out.below.cell (p := ⟨ba, oa + i * 3 + 1, none⟩) PA.out.1).trans PA.out.2.2.1), (hb'.cell (p := ⟨ba, oa + i * 3 + 2, none⟩) PA.out.1).trans ((HXwx.out.below.cell (p := ⟨ba, oa + i * 3 + 2, none⟩) PA.out.1).trans PA.out.2.2.2), (h1.bg.cell _).trans H10.out⟩
    have HKwx := Lib.hid hK
    clear hK
    go_region_held3 (fun W' => W'.cell? ⟨xb, 0, none⟩ = some (.map (some tb)) ∧ W'.cell? ⟨xb, 1, none⟩ = some (.slice (some ⟨ba, oa, none⟩) la ca) ∧ W'.cell? ⟨ba, oa + i * 3, none⟩ = some (.int .i32 p.1) ∧ W'.cell? ⟨ba, oa + i * 3 + 1, none⟩ = some (.bool p.2.1) ∧ W'.cell? ⟨ba, oa + i * 3 + 2, none⟩ = some (.int .i32 p.2.2) ∧ W'.cell? ⟨g, (i + 1) * (lb + 1) + k, none⟩ = some (.int .i64 c10))
      ((refine HKwx.out _ ?_; first | exact (Below.fullB HT.out HXwx.out.below) | exact (Below.fullB HA.out HXwx.out.below) | exact HEwv1.out.2 | exact ⟨rfl, rfl, rfl, Nat.le_refl _, fun _ _ => rfl⟩))
      (first
        | (go_at_call 116
           refine (lone_any tb p _ (by first | exact (HXwx.out.reB (Below.full (by exact HT.out) HXwx.out.below)).tab | exact (HXwx.out.reB (Below.full (by exact ⟨rfl, rfl, rfl, Nat.le_refl _, fun _ _ => rfl⟩) HXwx.out.below)).tab) FP.out).mono ?_
           rintro e wa ⟨rfl, hb⟩
           have HA : Hid (Below wx.heap.size wx wa) := Lib.hid (by first | exact HT.out.trans (hb.mono HT.out.size) | exact ⟨hb.os, hb.tape, hb.output, hb.size, hb.block⟩)
           clear hb)
        | (go_at_call 130
           refine (at_at tb xb g _ _ la ca lb cb cells (i + 1) k _ _ (by first | omega | (rw [wi]; omega)) (by first | omega | (rw [wk]; omega)) _ (by first | exact HXwx.out.reB (Below.full (by exact HA.out) HXwx.out.below) | exact HXwx.out.reB (Below.full (by exact ⟨rfl, rfl, rfl, Nat.le_refl _, fun _ _ => rfl⟩) HXwx.out.below)) (by omega) (by omega) (by omega) (by omega)).mono ?_
           rintro e wt ⟨rfl, hb⟩
           have HT : Hid (Below wx.heap.size wx wt) := Lib.hid (by first | exact HA.out.trans (hb.mono HA.out.size) | exact ⟨hb.os, hb.tape, hb.output, hb.size, hb.block⟩)
           clear hb)
        | (go_at_call 169
           refine (take_any w.heap.size (-1) _ _ (by first | exact HXwx.out.bb.below HT.out HXwx.out.bb.lt | exact HXwx.out.bb.below HA.out HXwx.out.bb.lt)).mono ?_
           rintro e wv1 ⟨rfl, hbb, ho⟩
           (try rw [v1] at hbb)
           (try rw [v2] at hbb)
           (try rw [v3] at hbb)
           have HEwv1 : Hid (LeSt w tb xb g (some ⟨ba, oa, none⟩) B la ca lb cb cells a b (takeF (-1) (loneF p + c10)) wv1 ∧ Below w.heap.size wx wv1) := Lib.hid (by
             first
               | exact ⟨(HXwx.out.on HT.out).stay ho (fun _ e => Nat.le_of_eq (Eq.symm e)) hbb, (Below.fullB HT.out HXwx.out.below).trans (ho.below (Nat.le_trans HXwx.out.below.size HT.out.size) (fun _ hk e => Nat.ne_of_lt hk e))⟩
               | exact ⟨(HXwx.out.on HA.out).stay ho (fun _ e => Nat.le_of_eq (Eq.symm e)) hbb, (Below.fullB HA.out HXwx.out.below).trans (ho.below (Nat.le_trans HXwx.out.below.size HA.out.size) (fun _ hk e => Nat.ne_of_lt hk e))⟩)
           clear hbb ho))
    all_goals
      have HXwv1 := Lib.hid HEwv1.out.1
      have y1wv1 : wv1.cell? ⟨xb, 1, none⟩ = some (.slice (some ⟨ba, oa, none⟩) la ca) := HXwv1.out.re.bx.cell 1
      have y2wv1 : wv1.cell? ⟨xb, 2, none⟩ = some (.slice B lb cb) := HXwv1.out.re.bx.cell 2
    all_goals
      have bv : wv1.cell? ⟨w.heap.size, 0, none⟩ = some (.int .i64 (takeF (-1) (loneF p + c10))) := HXwv1.out.bb.cell 0
      have HZ := Lib.hid HXwv1.out.below
      go_wp2
      go_ret
      exact ⟨ret_int (by (try rw [HCE.out.1]); rw [HCE.out.2]; unfold takeF; (repeat split) <;> omega), HZ.out⟩
  · skip
    obtain ⟨bc, oc, hlb, rfl, _, hbc, d0, d1, d2⟩ := rb.ph hk'
    have fq := fb _ (List.getElem_mem hlb)
    have hce := cs_b (a := a) (b := b) (i := i) (k := k) (by omega) hlb
    have lq := lone_pos b[k]
    have lq2 := lone_hi b[k]
    have H01 := Lib.hid (h01 hk')
    clear h11 h10 h01
    generalize cs a b (i + 1) (k + 1) = c11 at *
    generalize cs a b (i + 1) k = c10 at *
    generalize cs a b i (k + 1) = c01 at *
    generalize b[k] = q at *
    have FQ := Lib.hid fq
    have PC := Lib.hid (And.intro hbc (And.intro d0 (And.intro d1 d2)))
    clear fq d0 d1 d2
    generalize hcv : cs a b i k = cv at *
    have HCE := Lib.hid (And.intro hcv hce)
    clear hcv hce ra rb
    obtain ⟨b111, b112⟩ := b11
    obtain ⟨b101, b102⟩ := b10
    obtain ⟨b011, b012⟩ := b01
    have v3 : IntKind.i64.wrap (loneF q + c01) = loneF q + c01 := IntWalk.i64_in _ (by omega)
    have q1 : ((i : Int) == (la : Int)) = true := by rw [hi']; simp
    have q3 : decide ((i : Int) < (la : Int)) = false := by simp; omega
    have q2 : ((k : Int) == (lb : Int)) = false := by simp; omega
    have q4 : decide ((k : Int) < (lb : Int)) = true := by simp; omega
    have q5 : ¬ (i < la) := by omega
    clear hi'
    go_enter Try.func162, Try.ntmps162
    go_upto_region 2 with (fail)
    refine wp_abs (LeSt w tb xb g A (some ⟨bc, oc, none⟩) la ca lb cb cells a b (-1)) ⟨H.out.1.on ((Below.refl _ _).alloc (Nat.le_refl _) _), H.out.2.1.below ((Below.refl _ _).alloc (Nat.le_refl _) _) (Nat.le_refl _), H.out.2.2.below ((Below.refl _ _).alloc (Nat.le_refl _) _) (Nat.le_refl _), Blk.new _ _ _, (Below.refl _ _).alloc (Nat.le_refl _) _, lx, lg, lt⟩ ?_
    intro wx hx
    have x1wx : wx.cell? ⟨xb, 1, none⟩ = some (.slice A la ca) := hx.re.bx.cell 1
    have x2wx : wx.cell? ⟨xb, 2, none⟩ = some (.slice (some ⟨bc, oc, none⟩) lb cb) := hx.re.bx.cell 2
    have HXwx := Lib.hid hx
    clear hx
    go_upto_region 10 with (fail)
    have hK : ∀ W', Below w.heap.size wx W' → W'.cell? ⟨xb, 0, none⟩ = some (.map (some tb)) ∧ W'.cell? ⟨xb, 2, none⟩ = some (.slice (some ⟨bc, oc, none⟩) lb cb) ∧ W'.cell? ⟨bc, oc + k * 3, none⟩ = some (.int .i32 q.1) ∧ W'.cell? ⟨bc, oc + k * 3 + 1, none⟩ = some (.bool q.2.1) ∧ W'.cell? ⟨bc, oc + k * 3 + 2, none⟩ = some (.int .i32 q.2.2) ∧ W'.cell? ⟨g, i * (lb + 1) + (k + 1), none⟩ = some (.int .i64 c01) := fun W' hb' => by
      have h1 := HXwx.out.reB hb'
      exact ⟨h1.bx.cell 0, h1.bx.cell 2, (hb'.cell (p := ⟨bc, oc + k * 3, none⟩) PC.out.1).trans ((HXwx.out.below.cell (p := ⟨bc, oc + k * 3, none⟩) PC.out.1).trans PC.out.2.1), (hb'.cell (p := ⟨bc, oc + k * 3 + 1, none⟩) PC.out.1).trans ((HXwx.out.below.cell (p := ⟨bc, oc + k * 3 + 1, none⟩) PC.out.1).trans PC.out.2.2.1), (hb'.cell (p := ⟨bc, oc + k * 3 + 2, none⟩) PC.out.1).trans ((HXwx.out.below.cell (p := ⟨bc, oc + k * 3 + 2, none⟩) PC.out.1).trans PC.out.2.2.2), (h1.bg.cell _).trans H01.out⟩
    have HKwx := Lib.hid hK
    clear hK
    go_region_held3 (fun W' => W'.cell? ⟨xb, 0, none⟩ = some (.map (some tb)) ∧ W'.cell? ⟨xb, 2, none⟩ = some (.slice (some ⟨bc, oc, none⟩) lb cb) ∧ W'.cell? ⟨bc, oc + k * 3, none⟩ = some (.int .i32 q.1) ∧ W'.cell? ⟨bc, oc + k * 3 + 1, none⟩ = some (.bool q.2.1) ∧ W'.cell? ⟨bc, oc + k * 3 + 2, none⟩ = some (.int .i32 q.2.2) ∧ W'.cell? ⟨g, i * (lb + 1) + (k + 1), none⟩ = some (.int .i64 c01))
      ((refine HKwx.out _ ?_; first | exact (Below.fullB HT.out HXwx.out.below) | exact (Below.fullB HA.out HXwx.out.below) | exact HEwv1.out.2 | exact ⟨rfl, rfl, rfl, Nat.le_refl _, fun _ _ => rfl⟩))
      (first
        | (go_at_call 116
           refine (lone_any tb q _ (by first | exact (HXwx.out.reB (Below.full (by exact HT.out) HXwx.out.below)).tab | exact (HXwx.out.reB (Below.full (by exact ⟨rfl, rfl, rfl, Nat.le_refl _, fun _ _ => rfl⟩) HXwx.out.below)).tab) FQ.out).mono ?_
           rintro e wa ⟨rfl, hb⟩
           have HA : Hid (Below wx.heap.size wx wa) := Lib.hid (by first | exact HT.out.trans (hb.mono HT.out.size) | exact ⟨hb.os, hb.tape, hb.output, hb.size, hb.block⟩)
           clear hb)
        | (go_at_call 130
           refine (at_at tb xb g _ _ la ca lb cb cells i (k + 1) _ _ (by first | omega | (rw [wi]; omega)) (by first | omega | (rw [wk]; omega)) _ (by first | exact HXwx.out.reB (Below.full (by exact HA.out) HXwx.out.below) | exact HXwx.out.reB (Below.full (by exact ⟨rfl, rfl, rfl, Nat.le_refl _, fun _ _ => rfl⟩) HXwx.out.below)) (by omega) (by omega) (by omega) (by omega)).mono ?_
           rintro e wt ⟨rfl, hb⟩
           have HT : Hid (Below wx.heap.size wx wt) := Lib.hid (by first | exact HA.out.trans (hb.mono HA.out.size) | exact ⟨hb.os, hb.tape, hb.output, hb.size, hb.block⟩)
           clear hb)
        | (go_at_call 169
           refine (take_any w.heap.size (-1) _ _ (by first | exact HXwx.out.bb.below HT.out HXwx.out.bb.lt | exact HXwx.out.bb.below HA.out HXwx.out.bb.lt)).mono ?_
           rintro e wv1 ⟨rfl, hbb, ho⟩
           (try rw [v1] at hbb)
           (try rw [v2] at hbb)
           (try rw [v3] at hbb)
           have HEwv1 : Hid (LeSt w tb xb g A (some ⟨bc, oc, none⟩) la ca lb cb cells a b (takeF (-1) (loneF q + c01)) wv1 ∧ Below w.heap.size wx wv1) := Lib.hid (by
             first
               | exact ⟨(HXwx.out.on HT.out).stay ho (fun _ e => Nat.le_of_eq (Eq.symm e)) hbb, (Below.fullB HT.out HXwx.out.below).trans (ho.below (Nat.le_trans HXwx.out.below.size HT.out.size) (fun _ hk e => Nat.ne_of_lt hk e))⟩
               | exact ⟨(HXwx.out.on HA.out).stay ho (fun _ e => Nat.le_of_eq (Eq.symm e)) hbb, (Below.fullB HA.out HXwx.out.below).trans (ho.below (Nat.le_trans HXwx.out.below.size HA.out.size) (fun _ hk e => Nat.ne_of_lt hk e))⟩)
           clear hbb ho))
    all_goals
      have HXwv1 := Lib.hid HEwv1.out.1
      have y1wv1 : wv1.cell? ⟨xb, 1, none⟩ = some (.slice A la ca) := HXwv1.out.re.bx.cell 1
      have y2wv1 : wv1.cell? ⟨xb, 2, none⟩ = some (.slice (some ⟨bc, oc, none⟩) lb cb) := HXwv1.out.re.bx.cell 2
    all_goals
      have bv : wv1.cell? ⟨w.heap.size, 0, none⟩ = some (.int .i64 (takeF (-1) (loneF q + c01))) := HXwv1.out.bb.cell 0
      have HZ := Lib.hid HXwv1.out.below
      go_wp2
      go_ret
      exact ⟨ret_int (by (try rw [HCE.out.1]); rw [HCE.out.2]; unfold takeF; (repeat split) <;> omega), HZ.out⟩
  · skip
    obtain ⟨ba, oa, hla, rfl, _, hba, a0, a1, a2⟩ := ra.ph hi'
    have fp := fa _ (List.getElem_mem hla)
    obtain ⟨bc, oc, hlb, rfl, _, hbc, d0, d1, d2⟩ := rb.ph hk'
    have fq := fb _ (List.getElem_mem hlb)
    have hce := cs_ab (a := a) (b := b) (i := i) (k := k) hla hlb
    have lp := lone_pos a[i]
    have lp2 := lone_hi a[i]
    have H10 := Lib.hid (h10 hi')
    have lq := lone_pos b[k]
    have lq2 := lone_hi b[k]
    have H01 := Lib.hid (h01 hk')
    have ap := apart_nn a[i] b[k]
    have ap2 := apart_hi a[i] b[k]
    have H11 := Lib.hid (h11 hi' hk')
    clear h11 h10 h01
    generalize cs a b (i + 1) (k + 1) = c11 at *
    generalize cs a b (i + 1) k = c10 at *
    generalize cs a b i (k + 1) = c01 at *
    generalize a[i] = p at *
    have FP := Lib.hid fp
    have PA := Lib.hid (And.intro hba (And.intro a0 (And.intro a1 a2)))
    clear fp a0 a1 a2
    generalize b[k] = q at *
    have FQ := Lib.hid fq
    have PC := Lib.hid (And.intro hbc (And.intro d0 (And.intro d1 d2)))
    clear fq d0 d1 d2
    generalize hcv : cs a b i k = cv at *
    have HCE := Lib.hid (And.intro hcv hce)
    clear hcv hce ra rb
    obtain ⟨b111, b112⟩ := b11
    obtain ⟨b101, b102⟩ := b10
    obtain ⟨b011, b012⟩ := b01
    have v1 : IntKind.i64.wrap (apartF p q + c11) = apartF p q + c11 := IntWalk.i64_in _ (by omega)
    have v2 : IntKind.i64.wrap (loneF p + c10) = loneF p + c10 := IntWalk.i64_in _ (by omega)
    have v3 : IntKind.i64.wrap (loneF q + c01) = loneF q + c01 := IntWalk.i64_in _ (by omega)
    have q1 : ((i : Int) == (la : Int)) = false := by simp; omega
    have q3 : decide ((i : Int) < (la : Int)) = true := by simp; omega
    have q2 : ((k : Int) == (lb : Int)) = false := by simp; omega
    have q4 : decide ((k : Int) < (lb : Int)) = true := by simp; omega
    go_enter Try.func162, Try.ntmps162
    go_upto_region 2 with (fail)
    refine wp_abs (LeSt w tb xb g (some ⟨ba, oa, none⟩) (some ⟨bc, oc, none⟩) la ca lb cb cells a b (-1)) ⟨H.out.1.on ((Below.refl _ _).alloc (Nat.le_refl _) _), H.out.2.1.below ((Below.refl _ _).alloc (Nat.le_refl _) _) (Nat.le_refl _), H.out.2.2.below ((Below.refl _ _).alloc (Nat.le_refl _) _) (Nat.le_refl _), Blk.new _ _ _, (Below.refl _ _).alloc (Nat.le_refl _) _, lx, lg, lt⟩ ?_
    intro wx hx
    have x1wx : wx.cell? ⟨xb, 1, none⟩ = some (.slice (some ⟨ba, oa, none⟩) la ca) := hx.re.bx.cell 1
    have x2wx : wx.cell? ⟨xb, 2, none⟩ = some (.slice (some ⟨bc, oc, none⟩) lb cb) := hx.re.bx.cell 2
    have HXwx := Lib.hid hx
    clear hx
    go_upto_region 6 with (fail)
    have hK : ∀ W', Below w.heap.size wx W' → W'.cell? ⟨xb, 0, none⟩ = some (.map (some tb)) ∧ W'.cell? ⟨xb, 1, none⟩ = some (.slice (some ⟨ba, oa, none⟩) la ca) ∧ W'.cell? ⟨xb, 2, none⟩ = some (.slice (some ⟨bc, oc, none⟩) lb cb) ∧ W'.cell? ⟨ba, oa + i * 3, none⟩ = some (.int .i32 p.1) ∧ W'.cell? ⟨ba, oa + i * 3 + 1, none⟩ = some (.bool p.2.1) ∧ W'.cell? ⟨ba, oa + i * 3 + 2, none⟩ = some (.int .i32 p.2.2) ∧ W'.cell? ⟨bc, oc + k * 3, none⟩ = some (.int .i32 q.1) ∧ W'.cell? ⟨bc, oc + k * 3 + 1, none⟩ = some (.bool q.2.1) ∧ W'.cell? ⟨bc, oc + k * 3 + 2, none⟩ = some (.int .i32 q.2.2) ∧ W'.cell? ⟨g, (i + 1) * (lb + 1) + (k + 1), none⟩ = some (.int .i64 c11) := fun W' hb' => by
      have h1 := HXwx.out.reB hb'
      exact ⟨h1.bx.cell 0, h1.bx.cell 1, h1.bx.cell 2, (hb'.cell (p := ⟨ba, oa + i * 3, none⟩) PA.out.1).trans ((HXwx.out.below.cell (p := ⟨ba, oa + i * 3, none⟩) PA.out.1).trans PA.out.2.1), (hb'.cell (p := ⟨ba, oa + i * 3 + 1, none⟩) PA.out.1).trans ((HXwx.out.below.cell (p := ⟨ba, oa + i * 3 + 1, none⟩) PA.out.1).trans PA.out.2.2.1), (hb'.cell (p := ⟨ba, oa + i * 3 + 2, none⟩) PA.out.1).trans ((HXwx.out.below.cell (p := ⟨ba, oa + i * 3 + 2, none⟩) PA.out.1).trans PA.out.2.2.2), (hb'.cell (p := ⟨bc, oc + k * 3, none⟩) PC.out.1).trans ((HXwx.out.below.cell (p := ⟨bc, oc + k * 3, none⟩) PC.out.1).trans PC.out.2.1), (hb'.cell (p := ⟨bc, oc + k * 3 + 1, none⟩) PC.out.1).trans ((HXwx.out.below.cell (p := ⟨bc, oc + k * 3 + 1, none⟩) PC.out.1).trans PC.out.2.2.1), (hb'.cell (p := ⟨bc, oc + k * 3 + 2, none⟩) PC.out.1).trans ((HXwx.out.below.cell (p := ⟨bc, oc + k * 3 + 2, none⟩) PC.out.1).trans PC.out.2.2.2), (h1.bg.cell _).trans H11.out⟩
    have HKwx := Lib.hid hK
    clear hK
    go_region_held3 (fun W' => W'.cell? ⟨xb, 0, none⟩ = some (.map (some tb)) ∧ W'.cell? ⟨xb, 1, none⟩ = some (.slice (some ⟨ba, oa, none⟩) la ca) ∧ W'.cell? ⟨xb, 2, none⟩ = some (.slice (some ⟨bc, oc, none⟩) lb cb) ∧ W'.cell? ⟨ba, oa + i * 3, none⟩ = some (.int .i32 p.1) ∧ W'.cell? ⟨ba, oa + i * 3 + 1, none⟩ = some (.bool p.2.1) ∧ W'.cell? ⟨ba, oa + i * 3 + 2, none⟩ = some (.int .i32 p.2.2) ∧ W'.cell? ⟨bc, oc + k * 3, none⟩ = some (.int .i32 q.1) ∧ W'.cell? ⟨bc, oc + k * 3 + 1, none⟩ = some (.bool q.2.1) ∧ W'.cell? ⟨bc, oc + k * 3 + 2, none⟩ = some (.int .i32 q.2.2) ∧ W'.cell? ⟨g, (i + 1) * (lb + 1) + (k + 1), none⟩ = some (.int .i64 c11))
      ((refine HKwx.out _ ?_; first | exact (Below.fullB HT.out HXwx.out.below) | exact (Below.fullB HA.out HXwx.out.below) | exact HEwv1.out.2 | exact ⟨rfl, rfl, rfl, Nat.le_refl _, fun _ _ => rfl⟩))
      (first
        | (go_at_call 115
           refine (apart_any tb p q _ (by first | exact (HXwx.out.reB (Below.full (by exact HT.out) HXwx.out.below)).tab | exact (HXwx.out.reB (Below.full (by exact ⟨rfl, rfl, rfl, Nat.le_refl _, fun _ _ => rfl⟩) HXwx.out.below)).tab) FP.out FQ.out).mono ?_
           rintro e wa ⟨rfl, hb⟩
           have HA : Hid (Below wx.heap.size wx wa) := Lib.hid (by first | exact HT.out.trans (hb.mono HT.out.size) | exact ⟨hb.os, hb.tape, hb.output, hb.size, hb.block⟩)
           clear hb)
        | (go_at_call 130
           refine (at_at tb xb g _ _ la ca lb cb cells (i + 1) (k + 1) _ _ (by first | omega | (rw [wi]; omega)) (by first | omega | (rw [wk]; omega)) _ (by first | exact HXwx.out.reB (Below.full (by exact HA.out) HXwx.out.below) | exact HXwx.out.reB (Below.full (by exact ⟨rfl, rfl, rfl, Nat.le_refl _, fun _ _ => rfl⟩) HXwx.out.below)) (by omega) (by omega) (by omega) (by omega)).mono ?_
           rintro e wt ⟨rfl, hb⟩
           have HT : Hid (Below wx.heap.size wx wt) := Lib.hid (by first | exact HA.out.trans (hb.mono HA.out.size) | exact ⟨hb.os, hb.tape, hb.output, hb.size, hb.block⟩)
           clear hb)
        | (go_at_call 169
           refine (take_any w.heap.size (-1) _ _ (by first | exact HXwx.out.bb.below HT.out HXwx.out.bb.lt | exact HXwx.out.bb.below HA.out HXwx.out.bb.lt)).mono ?_
           rintro e wv1 ⟨rfl, hbb, ho⟩
           (try rw [v1] at hbb)
           (try rw [v2] at hbb)
           (try rw [v3] at hbb)
           have HEwv1 : Hid (LeSt w tb xb g (some ⟨ba, oa, none⟩) (some ⟨bc, oc, none⟩) la ca lb cb cells a b (takeF (-1) (apartF p q + c11)) wv1 ∧ Below w.heap.size wx wv1) := Lib.hid (by
             first
               | exact ⟨(HXwx.out.on HT.out).stay ho (fun _ e => Nat.le_of_eq (Eq.symm e)) hbb, (Below.fullB HT.out HXwx.out.below).trans (ho.below (Nat.le_trans HXwx.out.below.size HT.out.size) (fun _ hk e => Nat.ne_of_lt hk e))⟩
               | exact ⟨(HXwx.out.on HA.out).stay ho (fun _ e => Nat.le_of_eq (Eq.symm e)) hbb, (Below.fullB HA.out HXwx.out.below).trans (ho.below (Nat.le_trans HXwx.out.below.size HA.out.size) (fun _ hk e => Nat.ne_of_lt hk e))⟩)
           clear hbb ho))
    all_goals
      have HXwv1 := Lib.hid HEwv1.out.1
      have y1wv1 : wv1.cell? ⟨xb, 1, none⟩ = some (.slice (some ⟨ba, oa, none⟩) la ca) := HXwv1.out.re.bx.cell 1
      have y2wv1 : wv1.cell? ⟨xb, 2, none⟩ = some (.slice (some ⟨bc, oc, none⟩) lb cb) := HXwv1.out.re.bx.cell 2
    go_upto_region 8 with (fail)
    have hK : ∀ W', Below w.heap.size wv1 W' → W'.cell? ⟨xb, 0, none⟩ = some (.map (some tb)) ∧ W'.cell? ⟨xb, 1, none⟩ = some (.slice (some ⟨ba, oa, none⟩) la ca) ∧ W'.cell? ⟨ba, oa + i * 3, none⟩ = some (.int .i32 p.1) ∧ W'.cell? ⟨ba, oa + i * 3 + 1, none⟩ = some (.bool p.2.1) ∧ W'.cell? ⟨ba, oa + i * 3 + 2, none⟩ = some (.int .i32 p.2.2) ∧ W'.cell? ⟨g, (i + 1) * (lb + 1) + k, none⟩ = some (.int .i64 c10) := fun W' hb' => by
      have h1 := HXwv1.out.reB hb'
      exact ⟨h1.bx.cell 0, h1.bx.cell 1, (hb'.cell (p := ⟨ba, oa + i * 3, none⟩) PA.out.1).trans ((HXwv1.out.below.cell (p := ⟨ba, oa + i * 3, none⟩) PA.out.1).trans PA.out.2.1), (hb'.cell (p := ⟨ba, oa + i * 3 + 1, none⟩) PA.out.1).trans ((HXwv1.out.below.cell (p := ⟨ba, oa + i * 3 + 1, none⟩) PA.out.1).trans PA.out.2.2.1), (hb'.cell (p := ⟨ba, oa + i * 3 + 2, none⟩) PA.out.1).trans ((HXwv1.out.below.cell (p := ⟨ba, oa + i * 3 + 2, none⟩) PA.out.1).trans PA.out.2.2.2), (h1.bg.cell _).trans H10.out⟩
    have HKwv1 := Lib.hid hK
    clear hK
    go_region_held3 (fun W' => W'.cell? ⟨xb, 0, none⟩ = some (.map (some tb)) ∧ W'.cell? ⟨xb, 1, none⟩ = some (.slice (some ⟨ba, oa, none⟩) la ca) ∧ W'.cell? ⟨ba, oa + i * 3, none⟩ = some (.int .i32 p.1) ∧ W'.cell? ⟨ba, oa + i * 3 + 1, none⟩ = some (.bool p.2.1) ∧ W'.cell? ⟨ba, oa + i * 3 + 2, none⟩ = some (.int .i32 p.2.2) ∧ W'.cell? ⟨g, (i + 1) * (lb + 1) + k, none⟩ = some (.int .i64 c10))
      ((refine HKwv1.out _ ?_; first | exact (Below.fullB HT.out HXwv1.out.below) | exact (Below.fullB HA.out HXwv1.out.below) | exact HEwv2.out.2 | exact ⟨rfl, rfl, rfl, Nat.le_refl _, fun _ _ => rfl⟩))
      (first
        | (go_at_call 116
           refine (lone_any tb p _ (by first | exact (HXwv1.out.reB (Below.full (by exact HT.out) HXwv1.out.below)).tab | exact (HXwv1.out.reB (Below.full (by exact ⟨rfl, rfl, rfl, Nat.le_refl _, fun _ _ => rfl⟩) HXwv1.out.below)).tab) FP.out).mono ?_
           rintro e wa ⟨rfl, hb⟩
           have HA : Hid (Below wv1.heap.size wv1 wa) := Lib.hid (by first | exact HT.out.trans (hb.mono HT.out.size) | exact ⟨hb.os, hb.tape, hb.output, hb.size, hb.block⟩)
           clear hb)
        | (go_at_call 130
           refine (at_at tb xb g _ _ la ca lb cb cells (i + 1) k _ _ (by first | omega | (rw [wi]; omega)) (by first | omega | (rw [wk]; omega)) _ (by first | exact HXwv1.out.reB (Below.full (by exact HA.out) HXwv1.out.below) | exact HXwv1.out.reB (Below.full (by exact ⟨rfl, rfl, rfl, Nat.le_refl _, fun _ _ => rfl⟩) HXwv1.out.below)) (by omega) (by omega) (by omega) (by omega)).mono ?_
           rintro e wt ⟨rfl, hb⟩
           have HT : Hid (Below wv1.heap.size wv1 wt) := Lib.hid (by first | exact HA.out.trans (hb.mono HA.out.size) | exact ⟨hb.os, hb.tape, hb.output, hb.size, hb.block⟩)
           clear hb)
        | (go_at_call 169
           refine (take_any w.heap.size (takeF (-1) (apartF p q + c11)) _ _ (by first | exact HXwv1.out.bb.below HT.out HXwv1.out.bb.lt | exact HXwv1.out.bb.below HA.out HXwv1.out.bb.lt)).mono ?_
           rintro e wv2 ⟨rfl, hbb, ho⟩
           (try rw [v1] at hbb)
           (try rw [v2] at hbb)
           (try rw [v3] at hbb)
           have HEwv2 : Hid (LeSt w tb xb g (some ⟨ba, oa, none⟩) (some ⟨bc, oc, none⟩) la ca lb cb cells a b (takeF (takeF (-1) (apartF p q + c11)) (loneF p + c10)) wv2 ∧ Below w.heap.size wv1 wv2) := Lib.hid (by
             first
               | exact ⟨(HXwv1.out.on HT.out).stay ho (fun _ e => Nat.le_of_eq (Eq.symm e)) hbb, (Below.fullB HT.out HXwv1.out.below).trans (ho.below (Nat.le_trans HXwv1.out.below.size HT.out.size) (fun _ hk e => Nat.ne_of_lt hk e))⟩
               | exact ⟨(HXwv1.out.on HA.out).stay ho (fun _ e => Nat.le_of_eq (Eq.symm e)) hbb, (Below.fullB HA.out HXwv1.out.below).trans (ho.below (Nat.le_trans HXwv1.out.below.size HA.out.size) (fun _ hk e => Nat.ne_of_lt hk e))⟩)
           clear hbb ho))
    all_goals
      have HXwv2 := Lib.hid HEwv2.out.1
      have y1wv2 : wv2.cell? ⟨xb, 1, none⟩ = some (.slice (some ⟨ba, oa, none⟩) la ca) := HXwv2.out.re.bx.cell 1
      have y2wv2 : wv2.cell? ⟨xb, 2, none⟩ = some (.slice (some ⟨bc, oc, none⟩) lb cb) := HXwv2.out.re.bx.cell 2
    go_upto_region 10 with (fail)
    have hK : ∀ W', Below w.heap.size wv2 W' → W'.cell? ⟨xb, 0, none⟩ = some (.map (some tb)) ∧ W'.cell? ⟨xb, 2, none⟩ = some (.slice (some ⟨bc, oc, none⟩) lb cb) ∧ W'.cell? ⟨bc, oc + k * 3, none⟩ = some (.int .i32 q.1) ∧ W'.cell? ⟨bc, oc + k * 3 + 1, none⟩ = some (.bool q.2.1) ∧ W'.cell? ⟨bc, oc + k * 3 + 2, none⟩ = some (.int .i32 q.2.2) ∧ W'.cell? ⟨g, i * (lb + 1) + (k + 1), none⟩ = some (.int .i64 c01) := fun W' hb' => by
      have h1 := HXwv2.out.reB hb'
      exact ⟨h1.bx.cell 0, h1.bx.cell 2, (hb'.cell (p := ⟨bc, oc + k * 3, none⟩) PC.out.1).trans ((HXwv2.out.below.cell (p := ⟨bc, oc + k * 3, none⟩) PC.out.1).trans PC.out.2.1), (hb'.cell (p := ⟨bc, oc + k * 3 + 1, none⟩) PC.out.1).trans ((HXwv2.out.below.cell (p := ⟨bc, oc + k * 3 + 1, none⟩) PC.out.1).trans PC.out.2.2.1), (hb'.cell (p := ⟨bc, oc + k * 3 + 2, none⟩) PC.out.1).trans ((HXwv2.out.below.cell (p := ⟨bc, oc + k * 3 + 2, none⟩) PC.out.1).trans PC.out.2.2.2), (h1.bg.cell _).trans H01.out⟩
    have HKwv2 := Lib.hid hK
    clear hK
    go_region_held3 (fun W' => W'.cell? ⟨xb, 0, none⟩ = some (.map (some tb)) ∧ W'.cell? ⟨xb, 2, none⟩ = some (.slice (some ⟨bc, oc, none⟩) lb cb) ∧ W'.cell? ⟨bc, oc + k * 3, none⟩ = some (.int .i32 q.1) ∧ W'.cell? ⟨bc, oc + k * 3 + 1, none⟩ = some (.bool q.2.1) ∧ W'.cell? ⟨bc, oc + k * 3 + 2, none⟩ = some (.int .i32 q.2.2) ∧ W'.cell? ⟨g, i * (lb + 1) + (k + 1), none⟩ = some (.int .i64 c01))
      ((refine HKwv2.out _ ?_; first | exact (Below.fullB HT.out HXwv2.out.below) | exact (Below.fullB HA.out HXwv2.out.below) | exact HEwv3.out.2 | exact ⟨rfl, rfl, rfl, Nat.le_refl _, fun _ _ => rfl⟩))
      (first
        | (go_at_call 116
           refine (lone_any tb q _ (by first | exact (HXwv2.out.reB (Below.full (by exact HT.out) HXwv2.out.below)).tab | exact (HXwv2.out.reB (Below.full (by exact ⟨rfl, rfl, rfl, Nat.le_refl _, fun _ _ => rfl⟩) HXwv2.out.below)).tab) FQ.out).mono ?_
           rintro e wa ⟨rfl, hb⟩
           have HA : Hid (Below wv2.heap.size wv2 wa) := Lib.hid (by first | exact HT.out.trans (hb.mono HT.out.size) | exact ⟨hb.os, hb.tape, hb.output, hb.size, hb.block⟩)
           clear hb)
        | (go_at_call 130
           refine (at_at tb xb g _ _ la ca lb cb cells i (k + 1) _ _ (by first | omega | (rw [wi]; omega)) (by first | omega | (rw [wk]; omega)) _ (by first | exact HXwv2.out.reB (Below.full (by exact HA.out) HXwv2.out.below) | exact HXwv2.out.reB (Below.full (by exact ⟨rfl, rfl, rfl, Nat.le_refl _, fun _ _ => rfl⟩) HXwv2.out.below)) (by omega) (by omega) (by omega) (by omega)).mono ?_
           rintro e wt ⟨rfl, hb⟩
           have HT : Hid (Below wv2.heap.size wv2 wt) := Lib.hid (by first | exact HA.out.trans (hb.mono HA.out.size) | exact ⟨hb.os, hb.tape, hb.output, hb.size, hb.block⟩)
           clear hb)
        | (go_at_call 169
           refine (take_any w.heap.size (takeF (takeF (-1) (apartF p q + c11)) (loneF p + c10)) _ _ (by first | exact HXwv2.out.bb.below HT.out HXwv2.out.bb.lt | exact HXwv2.out.bb.below HA.out HXwv2.out.bb.lt)).mono ?_
           rintro e wv3 ⟨rfl, hbb, ho⟩
           (try rw [v1] at hbb)
           (try rw [v2] at hbb)
           (try rw [v3] at hbb)
           have HEwv3 : Hid (LeSt w tb xb g (some ⟨ba, oa, none⟩) (some ⟨bc, oc, none⟩) la ca lb cb cells a b (takeF (takeF (takeF (-1) (apartF p q + c11)) (loneF p + c10)) (loneF q + c01)) wv3 ∧ Below w.heap.size wv2 wv3) := Lib.hid (by
             first
               | exact ⟨(HXwv2.out.on HT.out).stay ho (fun _ e => Nat.le_of_eq (Eq.symm e)) hbb, (Below.fullB HT.out HXwv2.out.below).trans (ho.below (Nat.le_trans HXwv2.out.below.size HT.out.size) (fun _ hk e => Nat.ne_of_lt hk e))⟩
               | exact ⟨(HXwv2.out.on HA.out).stay ho (fun _ e => Nat.le_of_eq (Eq.symm e)) hbb, (Below.fullB HA.out HXwv2.out.below).trans (ho.below (Nat.le_trans HXwv2.out.below.size HA.out.size) (fun _ hk e => Nat.ne_of_lt hk e))⟩)
           clear hbb ho))
    all_goals
      have HXwv3 := Lib.hid HEwv3.out.1
      have y1wv3 : wv3.cell? ⟨xb, 1, none⟩ = some (.slice (some ⟨ba, oa, none⟩) la ca) := HXwv3.out.re.bx.cell 1
      have y2wv3 : wv3.cell? ⟨xb, 2, none⟩ = some (.slice (some ⟨bc, oc, none⟩) lb cb) := HXwv3.out.re.bx.cell 2
    all_goals
      have bv : wv3.cell? ⟨w.heap.size, 0, none⟩ = some (.int .i64 (takeF (takeF (takeF (-1) (apartF p q + c11)) (loneF p + c10)) (loneF q + c01))) := HXwv3.out.bb.cell 0
      have HZ := Lib.hid HXwv3.out.below
      go_wp2
      go_ret
      exact ⟨ret_int (by (try rw [HCE.out.1]); rw [HCE.out.2]; unfold takeF; (repeat split) <;> omega), HZ.out⟩
end Go.Proofs.Ytogofchpocoebaa
