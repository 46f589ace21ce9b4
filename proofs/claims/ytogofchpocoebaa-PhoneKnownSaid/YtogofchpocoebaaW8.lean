/- The reader's phone. -/
import Derived.Test.YtogofchpocoebaaW7
namespace Go.Proofs.Ytogofchpocoebaa
open Go.RowKit Go.Maps
attribute [local go_sem] Oper.semAt_some

/-- what is wrong with a further phone -/
def rpE (ps : List Ph) (vs nu : Int) (p : Ph) : Int := if ps.length = 128 then 3 else if vowF p then if 0 ≤ nu then 110 else if vs = 64 then 3 else 0 else 0
def rpV (vs : Int) (p : Ph) : Int := if vowF p then vs + 1 else vs
def rpO (ps : List Ph) (op : Sy) (p : Ph) : Sy := if vowF p then (op.fr, (ps.length : Int), op.to_, op.st, op.hv) else op
/-- how a further phone leaves the reader -/
def RpPost (w0 : World) (xb : Nat) (v0 v1 : Value) (ps : List Ph) (out : List Sy) (vs : Int) (op : Sy) (p : Ph) (w w' : World) : Prop :=
  (rpE ps vs op.nu p = 0 → ∃ v0', RrSt w0 xb v0' v1 (ps ++ [p]) out (rpV vs p) (rpO ps op p) w' ∧ ∀ g, v0'.ownBlock = some g → v0.ownBlock = some g ∨ w.heap.size ≤ g) ∧ (rpE ps vs op.nu p ≠ 0 → RrSt w0 xb v0 v1 ps out vs op w') ∧ Only (fun b => b = xb ∨ v0.ownBlock = some b) w w'

set_option maxHeartbeats 8000000 in
set_option maxRecDepth 100000 in
theorem rphone_any (w0 : World) (xb : Nat) (v0 v1 : Value) (ps : List Ph) (out : List Sy) (vs : Int) (op : Sy) (p : Ph) (w : World) (h : RrSt w0 xb v0 v1 ps out vs op w) (hp : isF p = true) (hn : ps.length ≤ 128) (hv0 : 0 ≤ vs) (hv1 : vs ≤ 64) :
    Calls Try.prog 146 #[.pointer (some ⟨xb, 0, none⟩), .agg #[.int .i32 p.1, .bool p.2.1, .int .i32 p.2.2]] w fun e w' => e = .returned (.int .i64 (rpE ps vs op.nu p)) ∧ RpPost w0 xb v0 v1 ps out vs op p w w' := by
  obtain ⟨k0, hk0, kz0, kz1, kz2⟩ := info_parts info43a
  have HK := Lib.hid (And.intro hk0 (And.intro kz0 (And.intro kz1 kz2)))
  have HE := Lib.hid (show rpE ps vs op.nu p = if ps.length = 128 then 3 else if vowF p then if 0 ≤ op.nu then 110 else if vs = 64 then 3 else 0 else 0 from rfl)
  have HP := Lib.hid hp
  obtain ⟨n, hpn⟩ : ∃ n, ps.length = n := ⟨_, rfl⟩
  have HPN := Lib.hid hpn
  obtain ⟨A, c, eA⟩ := own_slice h.ownP
  subst eA
  have hlo := h.below.size
  have hxl := h.blk.lt
  have hstart : RrSt w0 xb (.slice A n c) v1 ps out vs op (w.alloc (.cells #[.int .i32 p.1, .bool p.2.1, .int .i32 p.2.2] 43)) ∧ Blk (w.alloc (.cells #[.int .i32 p.1, .bool p.2.1, .int .i32 p.2.2] 43)) w.heap.size 43 #[.int .i32 p.1, .bool p.2.1, .int .i32 p.2.2] ∧ Only (fun b => b = xb ∨ (Value.slice A n c).ownBlock = some b) w (w.alloc (.cells #[.int .i32 p.1, .bool p.2.1, .int .i32 p.2.2] 43)) := ⟨by have := h.on ((Below.refl _ w).alloc (Nat.le_refl _) (.cells #[.int .i32 p.1, .bool p.2.1, .int .i32 p.2.2] 43)); rw [hpn] at this; exact this, Blk.new _ _ _, (Only.refl _ _).alloc _⟩
  have HST := Lib.hid hstart
  clear h hk0 kz0 kz1 kz2 hp hstart
  rw [hpn] at hn
  clear hpn
  go_enter Try.func146, Try.ntmps146
  go_upto_region 1 with (fail)
  refine wp_abs (fun wx => RrSt w0 xb (.slice A n c) v1 ps out vs op wx ∧ Blk wx w.heap.size 43 #[.int .i32 p.1, .bool p.2.1, .int .i32 p.2.2] ∧ Only (fun b => b = xb ∨ (Value.slice A n c).ownBlock = some b) w wx) HST.out ?_
  obtain ⟨pb, hpb⟩ : ∃ pb, pb = w.heap.size := ⟨_, rfl⟩
  have hpx : pb ≠ xb := by omega
  rw [← hpb]
  clear HST hpb
  rintro w1 h1
  have H1 := Lib.hid h1
  clear h1
  have x0 : w1.cell? ⟨xb, 0, none⟩ = some (.slice A n c) := H1.out.1.blk.cell 0
  by_cases q1 : n = 128
  · have d1 : ((n : Int) == 128) = true := by rw [q1]; rfl
    have HR := Lib.hid (show rpE ps vs op.nu p = 3 by rw [HE.out, if_pos (by rw [HPN.out]; exact q1)])
    clear q1
    go_wp2
    go_ret
    exact ⟨ret_int HR.out.symm, fun e => absurd (HR.out.symm.trans e) (by decide), fun _ => HPN.out ▸ H1.out.1, HPN.out ▸ H1.out.2.2⟩
  have d1 : ((n : Int) == 128) = false := beq_eq_false_iff_ne.2 (by omega)
  have HE2 := Lib.hid (show rpE ps vs op.nu p = if vowF p then if 0 ≤ op.nu then 110 else if vs = 64 then 3 else 0 else 0 by rw [HE.out, if_neg (by rw [HPN.out]; exact q1)])
  have y0 : w1.cell? ⟨pb, 0, none⟩ = some (.int .i32 p.1) := H1.out.2.1.cell 0
  have y1 : w1.cell? ⟨pb, 1, none⟩ = some (.bool p.2.1) := H1.out.2.1.cell 1
  have y2 : w1.cell? ⟨pb, 2, none⟩ = some (.int .i32 p.2.2) := H1.out.2.1.cell 2
  clear q1 HE
  go_wp2_with fail
  refine (sylVowel_any p _ HP.out).mono ?_
  rintro e w2 ⟨rfl, hb⟩
  have H2 := Lib.hid (And.intro (H1.out.1.on hb) (And.intro (H1.out.2.1.below hb H1.out.2.1.lt) (H1.out.2.2.trans (Only.of_below hb _))))
  clear hb x0 y0 y1 y2 H1
  cases hv : vowF p with
  | false =>
    have HR := Lib.hid (show rpE ps vs op.nu p = 0 by rw [HE2.out, hv]; rfl)
    have HVO := Lib.hid (show rpV vs p = vs ∧ rpO ps op p = op from ⟨by unfold rpV; rw [hv]; rfl, by unfold rpO; rw [hv]; rfl⟩)
    clear hv HE2
    obtain ⟨wq, hwq⟩ : ∃ wq, wq = w2 := ⟨_, rfl⟩
    have HX := H2
    rw [← hwq] at HX ⊢
    clear hwq H2
    have ho2 := HX.out.1.ownP
    rw [HPN.out] at ho2
    have HO2 := Lib.hid ho2
    have hsz := HX.out.1.below.size
    clear ho2
    have x0 : wq.cell? ⟨xb, 0, none⟩ = some (.slice A n c) := HX.out.1.blk.cell 0
    have y0 : wq.cell? ⟨pb, 0, none⟩ = some (.int .i32 p.1) := HX.out.2.1.cell 0
    have y1 : wq.cell? ⟨pb, 1, none⟩ = some (.bool p.2.1) := HX.out.2.1.cell 1
    have y2 : wq.cell? ⟨pb, 2, none⟩ = some (.int .i32 p.2.2) := HX.out.2.1.cell 2
    have x0a : (wq.alloc (.cells #[.int .i32 p.1, .bool p.2.1, .int .i32 p.2.2] 43)).cell? ⟨xb, 0, none⟩ = some (.slice A n c) := (HX.out.1.blk.alloc _).cell 0
    go_wp2
    go_region_law
      ((refine step_append_lies _ (by rfl) _ _ 22 (by rfl) w0.heap.size 43 k0 (.agg #[.int .i32 0, .bool false, .int .i32 0]) 3 12 Try.underlying22 HK.out.1 HK.out.2.1 HK.out.2.2.1 HK.out.2.2.2 rfl (by omega) (.slice A n c) n (phs ps) (by rfl) ?_ _ 1 1 [.int .i32 p.1, .bool p.2.1, .int .i32 p.2.2] (by rfl) (by rfl) ?_ (by simp [Value.oneCell']) (by omega) ?_ (by omega) ?_ _ rfl ?_; (refine own_stay HO2.out ?_; (repeat (first | (with_reducible exact Only.refl _ _) | (with_reducible refine Only.drew ?_) | (with_reducible refine Only.alloc ?_ _)))); (refine World.news_of_block (cs := #[.int .i32 p.1, .bool p.2.1, .int .i32 p.2.2]) (t := 43) (fr := (0, 0)) ?_; refine (show Blk _ _ 43 _ from ?_); repeat (first | ((with_reducible refine blk_new_eq ?_); (first | (with_reducible rfl) | exact (by simp) | exact (by simp; omega))) | (with_reducible refine Blk.drew ?_) | (with_reducible refine Blk.alloc ?_ _))); (unfold maxLen; omega); (first | omega | (simp; omega)); intro gA capA wA hownA hgrowA hatA hltA; have ho : Only (fun q => (Value.slice A n c).ownBlock = some q) wq wA := (by (repeat (first | (with_reducible exact Only.refl _ _) | (with_reducible refine Only.drew ?_) | (with_reducible refine Only.alloc ?_ _) | (with_reducible refine Only.grown ?_ hgrowA (fun g hg => .inl hg))))); have hgx : gA ≠ xb := (fun e => by rcases hatA with h | h; exact HX.out.1.farP (by rw [h, e]); have := HX.out.1.blk.lt; simp at h; omega); have hx1 : Blk wA xb 214 _ := HX.out.1.blk.only ho (fun hs => HX.out.1.farP hs); have x1' : wA.cell? ⟨xb, 0, none⟩ = some (.slice A n c) := hx1.cell 0; have f1' : wA.frozen? ⟨xb, 0, none⟩ = false := hx1.frozen 0; have hgn : (Value.slice A n c).ownBlock = some gA ∨ w.heap.size ≤ gA := (by rcases hatA with h | h; exact .inl h; right; have := HX.out.2.2.size; simp at h; omega); have HN := Lib.hid (And.intro (And.intro (HX.out.1.appP HPN.out p hownA ho (by simp [Value.ownBlock]; exact hgx)) hgn) (HX.out.2.2.trans ((ho.weak (fun k _ hk => .inr hk)).setCell (p := ⟨xb, 0, none⟩) (.inl (.inl rfl)) (.slice (some ⟨gA, 0, none⟩) (n + 1) capA)))); clear ho hownA hgrowA hatA hltA hgx hx1 hgn))
    all_goals
      go_wp2
      go_ret
      exact ⟨ret_int HR.out.symm, fun _ => ⟨_, by rw [HVO.out.1, HVO.out.2]; exact HN.out.1.1, fun g hg => by simp only [Value.ownBlock, Option.some.injEq] at hg; subst hg; rw [HPN.out]; exact HN.out.1.2⟩, fun e => absurd HR.out e, HPN.out ▸ HN.out.2⟩
  | true =>
  have HE3 := Lib.hid (show rpE ps vs op.nu p = if 0 ≤ op.nu then 110 else if vs = 64 then 3 else 0 by rw [HE2.out, hv]; rfl)
  have HVW := Lib.hid hv
  clear HE2 hv
  have x4 : w2.cell? ⟨xb, 4, none⟩ = some (.int .i64 op.nu) := H2.out.1.blk.cell 4
  have x2 : w2.cell? ⟨xb, 2, none⟩ = some (.int .i64 vs) := H2.out.1.blk.cell 2
  by_cases q2 : 0 ≤ op.nu
  · have d2 : decide (0 ≤ op.nu) = true := decide_eq_true q2
    have HR := Lib.hid (show rpE ps vs op.nu p = 110 by rw [HE3.out, if_pos q2])
    clear q2
    go_wp2
    go_ret
    exact ⟨ret_int HR.out.symm, fun e => absurd (HR.out.symm.trans e) (by decide), fun _ => HPN.out ▸ H2.out.1, HPN.out ▸ H2.out.2.2⟩
  have d2 : decide (0 ≤ op.nu) = false := decide_eq_false q2
  have q2' : op.nu < 0 := by omega
  by_cases q3 : vs = 64
  · have d3 : (vs == 64) = true := by rw [q3]; rfl
    have HR := Lib.hid (show rpE ps vs op.nu p = 3 by rw [HE3.out, if_neg q2, if_pos q3])
    clear q3
    go_wp2
    go_ret
    exact ⟨ret_int HR.out.symm, fun e => absurd (HR.out.symm.trans e) (by decide), fun _ => HPN.out ▸ H2.out.1, HPN.out ▸ H2.out.2.2⟩
  have d3 : (vs == 64) = false := beq_eq_false_iff_ne.2 q3
  have HR := Lib.hid (show rpE ps vs op.nu p = 0 by rw [HE3.out, if_neg q2, if_neg q3])
  have HVO := Lib.hid (show rpV vs p = vs + 1 ∧ rpO ps op p = (op.fr, (n : Int), op.to_, op.st, op.hv) from ⟨by unfold rpV; rw [HVW.out]; rfl, by unfold rpO; rw [HVW.out, HPN.out]; rfl⟩)
  have wv : IntKind.i64.wrap (vs + 1) = vs + 1 := IntWalk.i64_in _ (by omega)
  have x0 : w2.cell? ⟨xb, 0, none⟩ = some (.slice A n c) := H2.out.1.blk.cell 0
  have f4 : w2.frozen? ⟨xb, 4, none⟩ = false := H2.out.1.blk.frozen 4
  have f2 : w2.frozen? ⟨xb, 2, none⟩ = false := H2.out.1.blk.frozen 2
  clear q3 HE3
  go_upto_region 10 with (fail)
  refine wp_abs (fun wx => RrSt w0 xb (.slice A n c) v1 ps out (vs + 1) (op.fr, (n : Int), op.to_, op.st, op.hv) wx ∧ Blk wx pb 43 #[.int .i32 p.1, .bool p.2.1, .int .i32 p.2.2] ∧ Only (fun b => b = xb ∨ (Value.slice A n c).ownBlock = some b) w wx) ⟨(H2.out.1.set 4 (.int .i64 (n : Int)) vs (op.fr, (n : Int), op.to_, op.st, op.hv) rfl).set 2 _ (vs + 1) _ rfl, (H2.out.2.1.far hpx _).far hpx _, (H2.out.2.2.setCell (.inl (.inl rfl)) _).setCell (.inl (.inl rfl)) _⟩ ?_
  clear x0 x2 x4 f2 f4 H2
  rintro wq hq
  have HX := Lib.hid hq
  clear hq
  have ho2 := HX.out.1.ownP
  rw [HPN.out] at ho2
  have HO2 := Lib.hid ho2
  have hsz := HX.out.1.below.size
  clear ho2
  have x0 : wq.cell? ⟨xb, 0, none⟩ = some (.slice A n c) := HX.out.1.blk.cell 0
  have y0 : wq.cell? ⟨pb, 0, none⟩ = some (.int .i32 p.1) := HX.out.2.1.cell 0
  have y1 : wq.cell? ⟨pb, 1, none⟩ = some (.bool p.2.1) := HX.out.2.1.cell 1
  have y2 : wq.cell? ⟨pb, 2, none⟩ = some (.int .i32 p.2.2) := HX.out.2.1.cell 2
  have x0a : (wq.alloc (.cells #[.int .i32 p.1, .bool p.2.1, .int .i32 p.2.2] 43)).cell? ⟨xb, 0, none⟩ = some (.slice A n c) := (HX.out.1.blk.alloc _).cell 0
  go_wp2
  go_region_law
    ((refine step_append_lies _ (by rfl) _ _ 22 (by rfl) w0.heap.size 43 k0 (.agg #[.int .i32 0, .bool false, .int .i32 0]) 3 12 Try.underlying22 HK.out.1 HK.out.2.1 HK.out.2.2.1 HK.out.2.2.2 rfl (by omega) (.slice A n c) n (phs ps) (by rfl) ?_ _ 1 1 [.int .i32 p.1, .bool p.2.1, .int .i32 p.2.2] (by rfl) (by rfl) ?_ (by simp [Value.oneCell']) (by omega) ?_ (by omega) ?_ _ rfl ?_; (refine own_stay HO2.out ?_; (repeat (first | (with_reducible exact Only.refl _ _) | (with_reducible refine Only.drew ?_) | (with_reducible refine Only.alloc ?_ _)))); (refine World.news_of_block (cs := #[.int .i32 p.1, .bool p.2.1, .int .i32 p.2.2]) (t := 43) (fr := (0, 0)) ?_; refine (show Blk _ _ 43 _ from ?_); repeat (first | ((with_reducible refine blk_new_eq ?_); (first | (with_reducible rfl) | exact (by simp) | exact (by simp; omega))) | (with_reducible refine Blk.drew ?_) | (with_reducible refine Blk.alloc ?_ _))); (unfold maxLen; omega); (first | omega | (simp; omega)); intro gA capA wA hownA hgrowA hatA hltA; have ho : Only (fun q => (Value.slice A n c).ownBlock = some q) wq wA := (by (repeat (first | (with_reducible exact Only.refl _ _) | (with_reducible refine Only.drew ?_) | (with_reducible refine Only.alloc ?_ _) | (with_reducible refine Only.grown ?_ hgrowA (fun g hg => .inl hg))))); have hgx : gA ≠ xb := (fun e => by rcases hatA with h | h; exact HX.out.1.farP (by rw [h, e]); have := HX.out.1.blk.lt; simp at h; omega); have hx1 : Blk wA xb 214 _ := HX.out.1.blk.only ho (fun hs => HX.out.1.farP hs); have x1' : wA.cell? ⟨xb, 0, none⟩ = some (.slice A n c) := hx1.cell 0; have f1' : wA.frozen? ⟨xb, 0, none⟩ = false := hx1.frozen 0; have hgn : (Value.slice A n c).ownBlock = some gA ∨ w.heap.size ≤ gA := (by rcases hatA with h | h; exact .inl h; right; have := HX.out.2.2.size; simp at h; omega); have HN := Lib.hid (And.intro (And.intro (HX.out.1.appP HPN.out p hownA ho (by simp [Value.ownBlock]; exact hgx)) hgn) (HX.out.2.2.trans ((ho.weak (fun k _ hk => .inr hk)).setCell (p := ⟨xb, 0, none⟩) (.inl (.inl rfl)) (.slice (some ⟨gA, 0, none⟩) (n + 1) capA)))); clear ho hownA hgrowA hatA hltA hgx hx1 hgn))
  all_goals
    go_wp2
    go_ret
    exact ⟨ret_int HR.out.symm, fun _ => ⟨_, by rw [HVO.out.1, HVO.out.2]; exact HN.out.1.1, fun g hg => by simp only [Value.ownBlock, Option.some.injEq] at hg; subst hg; rw [HPN.out]; exact HN.out.1.2⟩, fun e => absurd HR.out e, HPN.out ▸ HN.out.2⟩
end Go.Proofs.Ytogofchpocoebaa
