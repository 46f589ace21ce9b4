/- syllable.sign; the reader's closed and phone. -/
import Derived.Test.YtogofchpocoebaaW4
import Derived.Test.YtogofchpocoebaaU1
import Derived.Deep.AppendLies
namespace Go.Proofs.Ytogofchpocoebaa
open Go.RowKit Go.Maps
attribute [local go_sem] Oper.semAt_some

set_option maxHeartbeats 4000000 in
set_option maxRecDepth 100000 in
theorem sign_any (s : ByteArray) (w : World) : Calls Try.prog 144 #[.string s] w fun e w' => e = .returned (.tuple #[.int .i64 (signL s.data.toList).1, .int .i64 ((signL s.data.toList).2 : Nat)]) ∧ Below w.heap.size w w' := by
  have HS := Lib.hid (fun h : s.data.toList ≠ [] => sign_rune s.data.toList h)
  go_enter Try.func144, Try.ntmps144
  go_wp2
  refine wp_loop_rounds 1 ?_
  rw [rounds_succ]
  refine wp_abs (fun wx => Below w.heap.size w wx ∧ wx.heap[w.heap.size]? = some (.stringIter s 0)) ⟨iter_below _ _ _, World.iter_heap _ _ _⟩ ?_
  rintro wx ⟨hb, hi⟩
  have HB := Lib.hid hb
  by_cases h0 : 0 < s.size
  · have hnx : ∀ ty, (Instr.next (.pointer (some ⟨w.heap.size, 0, none⟩)) true ty).run Try.prog wx = _ := fun ty => Lib.run_next_any_at wx w.heap.size s 0 ty hi h0
    simp only [Nat.zero_add] at hnx
    have hsr := HS.out (by
      intro e
      have h2 : s.data.toList.length = 0 := by rw [e]; rfl
      have h3 : s.size = s.data.toList.length := rfl
      omega)
    rw [bts_list] at hsr
    have HI := Lib.hid (fun x => show Below w.heap.size w (wx.iterAt w.heap.size s x) from hb.trans ((Only.iterAt (S := fun b => b = w.heap.size) (Only.refl _ wx) (.inl rfl) s x).below hb.size (fun b hlt e => by omega)))
    generalize (Utf8.decode s 0).1 = r at *
    generalize (Utf8.decode s 0).2 = dw at *
    clear hb hi
    rcases hsr with ⟨h1, h2⟩ | ⟨h1, h2⟩ | ⟨h1, h2⟩ | ⟨h1, h2, h3, h4⟩
    · have HE := Lib.hid h2
      subst h1
      clear h2
      go_wp2
      go_ret2
      exact ⟨by rw [HE.out]; rfl, HI.out dw⟩
    · have HE := Lib.hid h2
      subst h1
      clear h2
      go_wp2
      go_ret2
      exact ⟨by rw [HE.out]; rfl, HI.out dw⟩
    · have HE := Lib.hid h2
      subst h1
      clear h2
      go_wp2
      go_ret2
      exact ⟨by rw [HE.out]; rfl, HI.out dw⟩
    · have HE := Lib.hid h4
      have b1 : ((r : Int) == 46) = false := beq_eq_false_iff_ne.2 (by omega)
      have b2 : ((r : Int) == 712) = false := beq_eq_false_iff_ne.2 (by omega)
      have b3 : ((r : Int) == 716) = false := beq_eq_false_iff_ne.2 (by omega)
      clear h4 h1 h2 h3
      go_wp2
      go_ret2
      exact ⟨by rw [HE.out]; rfl, HI.out dw⟩
  · have hnx : ∀ ty, (Instr.next (.pointer (some ⟨w.heap.size, 0, none⟩)) true ty).run Try.prog wx = _ := fun ty => Lib.run_next_end_at wx w.heap.size s 0 ty hi (by omega)
    have HE := Lib.hid (show signL s.data.toList = (0, 0) by
      have e : s.data.toList = [] := List.eq_nil_of_length_eq_zero (by have h3 : s.size = s.data.toList.length := rfl; omega)
      rw [e]; rfl)
    clear hb hi
    go_wp2
    go_ret2
    exact ⟨by rw [HE.out]; rfl, HB.out⟩

/-- the reader: its phones, its syllables, how many vowels, the open syllable -/
structure RrSt (w0 : World) (xb : Nat) (v0 v1 : Value) (ps : List Ph) (out : List Sy) (vs : Int) (op : Sy) (W : World) : Prop where
  blk : Blk W xb 214 #[v0, v1, .int .i64 vs, .int .i64 op.fr, .int .i64 op.nu, .int .i64 op.to_, .int .i64 op.st, .bool op.hv]
  ownP : W.ownsRow w0.heap.size 43 3 v0 ps.length (phs ps)
  ownS : W.ownsRow w0.heap.size 37 5 v1 out.length (sys out)
  below : Below w0.heap.size w0 W
  lo : w0.heap.size ≤ xb
section
variable {w0 : World} {xb : Nat} {v0 v1 v0' v1' : Value} {ps : List Ph} {out : List Sy} {vs : Int} {op : Sy} {W W' : World}
theorem RrSt.on (h : RrSt w0 xb v0 v1 ps out vs op W) (hb : Below W.heap.size W W') : RrSt w0 xb v0 v1 ps out vs op W' :=
  ⟨h.blk.below hb h.blk.lt, own_stay h.ownP (Only.of_below hb _), own_stay h.ownS (Only.of_below hb _), h.below.trans (hb.mono h.below.size), h.lo⟩
theorem RrSt.farP (h : RrSt w0 xb v0 v1 ps out vs op W) : v0.ownBlock ≠ some xb := fun e => by
  obtain ⟨c2, h2⟩ := blk_of_own h.ownP e
  have := blk_type h.blk h2
  cases this
theorem RrSt.farS (h : RrSt w0 xb v0 v1 ps out vs op W) : v1.ownBlock ≠ some xb := fun e => by
  obtain ⟨c2, h2⟩ := blk_of_own h.ownS e
  have := blk_type h.blk h2
  cases this
theorem RrSt.apart (h : RrSt w0 xb v0 v1 ps out vs op W) {k : Nat} (e : v0.ownBlock = some k) : v1.ownBlock ≠ some k := fun e2 => by
  obtain ⟨c1, h1⟩ := blk_of_own h.ownP e
  obtain ⟨c2, h2⟩ := blk_of_own h.ownS e2
  have := blk_type h1 h2
  cases this
/-- a field of the reader but the rows -/
theorem RrSt.set (h : RrSt w0 xb v0 v1 ps out vs op W) (i : Nat) (u : Value) (vs' : Int) (op' : Sy) (he : #[v0, v1, .int .i64 vs, .int .i64 op.fr, .int .i64 op.nu, .int .i64 op.to_, .int .i64 op.st, .bool op.hv].setIfInBounds i u = #[v0, v1, .int .i64 vs', .int .i64 op'.fr, .int .i64 op'.nu, .int .i64 op'.to_, .int .i64 op'.st, .bool op'.hv]) : RrSt w0 xb v0 v1 ps out vs' op' (W.setCell ⟨xb, i, none⟩ u) := by
  refine ⟨he ▸ h.blk.set_ i u, own_far h.ownP h.farP u, own_far h.ownS h.farS u, h.below.setCell h.lo _, h.lo⟩
theorem RrSt.appS {m : Nat} (h : RrSt w0 xb v0 v1 ps out vs op W) (hm : out.length = m) (x : Sy) (ho : W'.ownsRow w0.heap.size 37 5 v1' (m + 1) (sys out ++ syC x)) (hg : Only (fun k => v1.ownBlock = some k) W W') (hv : v1'.ownBlock ≠ some xb) : RrSt w0 xb v0 v1' ps (out ++ [x]) vs op (W'.setCell ⟨xb, 1, none⟩ v1') := by
  subst hm
  have hP := own_only h.ownP hg (fun k _ _ hk hs => h.apart hk hs)
  have hP2 := own_far hP h.farP v1' (p := ⟨xb, 1, none⟩)
  have hS2 := own_far ho hv v1' (p := ⟨xb, 1, none⟩)
  refine ⟨?_, hP2, ?_, (h.below.trans (hg.below h.below.size fun k hk hs => by have := (h.ownS.lt _ hs).1; omega)).setCell h.lo _, h.lo⟩
  · have := (h.blk.only hg (fun hs => h.farS hs)).set_ 1 v1'
    simpa using this
  · rw [sys_append, List.length_append]
    simpa [sys] using hS2
theorem RrSt.appP {m : Nat} (h : RrSt w0 xb v0 v1 ps out vs op W) (hm : ps.length = m) (x : Ph) (ho : W'.ownsRow w0.heap.size 43 3 v0' (m + 1) (phs ps ++ phC x)) (hg : Only (fun k => v0.ownBlock = some k) W W') (hv : v0'.ownBlock ≠ some xb) : RrSt w0 xb v0' v1 (ps ++ [x]) out vs op (W'.setCell ⟨xb, 0, none⟩ v0') := by
  subst hm
  have hS := own_only h.ownS hg (fun k _ _ hk hs => h.apart hs hk)
  have hS2 := own_far hS h.farS v0' (p := ⟨xb, 0, none⟩)
  have hP2 := own_far ho hv v0' (p := ⟨xb, 0, none⟩)
  refine ⟨?_, ?_, hS2, (h.below.trans (hg.below h.below.size fun k hk hs => by have := (h.ownP.lt _ hs).1; omega)).setCell h.lo _, h.lo⟩
  · have := (h.blk.only hg (fun hs => h.farP hs)).set_ 0 v0'
    simpa using this
  · rw [phs_append, List.length_append]
    simpa [phs] using hP2
end
theorem exitAbs {Q : Exit → Act → World → Prop} {e : Exit} {a : Act} {W : World} (F : World → Prop) (hF : F W) (h : ∀ w, F w → Q e a w) : Q e a W := h W hF
theorem info43a : (Try.prog.info? 43).map (fun i => (i.zero, i.size, i.bytes)) = some (some (.agg #[.int .i32 0, .bool false, .int .i32 0]), 3, 12) := by kernel_rfl

set_option maxHeartbeats 8000000 in
set_option maxRecDepth 100000 in
theorem closed_any (w0 : World) (xb : Nat) (v0 v1 : Value) (ps : List Ph) (out : List Sy) (vs : Int) (op : Sy) (w : World) (h : RrSt w0 xb v0 v1 ps out vs op w) (hn : ps.length ≤ 128) (hm : out.length ≤ 64) (h0 : 0 ≤ op.nu) (h1 : op.nu < ps.length) :
    Calls Try.prog 145 #[.pointer (some ⟨xb, 0, none⟩)] w fun e w' => e = .returned (.tuple #[]) ∧ (∃ v1', RrSt w0 xb v0 v1' ps (out ++ [shutS ps op.fr op.nu op.st]) vs (shutS ps op.fr op.nu op.st) w') ∧ Only (fun b => b = xb ∨ v1.ownBlock = some b) w w' := by
  obtain ⟨k0, hk0, kz0, kz1, kz2⟩ := info_parts info37
  have HK := Lib.hid (And.intro hk0 (And.intro kz0 (And.intro kz1 kz2)))
  have HH := Lib.hid (And.intro h0 h1)
  have H := Lib.hid h
  obtain ⟨A, c, eA⟩ := own_slice h.ownP
  subst eA
  have x0 : w.cell? ⟨xb, 0, none⟩ = some (.slice A ps.length c) := h.blk.cell 0
  have x5 : w.cell? ⟨xb, 5, none⟩ = some (.int .i64 op.to_) := h.blk.cell 5
  have f5 : w.frozen? ⟨xb, 5, none⟩ = false := h.blk.frozen 5
  clear h hk0 kz0 kz1 kz2 h0 h1
  go_enter Try.func145, Try.ntmps145
  go_upto_region 1 with (fail)
  refine wp_abs (fun wx => RrSt w0 xb (.slice A ps.length c) v1 ps out vs (op.fr, op.nu, (ps.length : Int), op.st, op.hv) wx ∧ Only (fun b => b = xb ∨ v1.ownBlock = some b) w wx) ⟨H.out.set 5 _ vs _ rfl, (Only.refl _ _).setCell (.inl (.inl rfl)) _⟩ ?_
  clear x0 x5 f5
  rintro w1 h1
  have H1 := Lib.hid h1
  clear h1
  have HV := Lib.hid (heavy_hv ps op.fr op.nu (ps.length : Int) op.st op.hv false)
  have HSH := Lib.hid (show shutS ps op.fr op.nu op.st = (op.fr, op.nu, (ps.length : Int), op.st, heavyF ps (op.fr, op.nu, (ps.length : Int), op.st, false)) from rfl)
  generalize hfr : op.fr = fr at *
  generalize hnu : op.nu = nu at *
  generalize hst : op.st = st at *
  generalize op.hv = hv at *
  have HOP := Lib.hid (And.intro hfr (And.intro hnu hst))
  clear hfr hnu hst
  have HC := Lib.hid (fun (W : World) (hb : Below w1.heap.size w1 W) => (H1.out.1.on hb))
  have x0 : w1.cell? ⟨xb, 0, none⟩ = some (.slice A ps.length c) := H1.out.1.blk.cell 0
  have x3 : w1.cell? ⟨xb, 3, none⟩ = some (.int .i64 fr) := H1.out.1.blk.cell 3
  have x4 : w1.cell? ⟨xb, 4, none⟩ = some (.int .i64 nu) := H1.out.1.blk.cell 4
  have x5 : w1.cell? ⟨xb, 5, none⟩ = some (.int .i64 (ps.length : Int)) := H1.out.1.blk.cell 5
  have x6 : w1.cell? ⟨xb, 6, none⟩ = some (.int .i64 st) := H1.out.1.blk.cell 6
  have x7 : w1.cell? ⟨xb, 7, none⟩ = some (.bool hv) := H1.out.1.blk.cell 7
  have f7 : w1.frozen? ⟨xb, 7, none⟩ = false := H1.out.1.blk.frozen 7
  generalize hpn : ps.length = n at *
  have HPN := Lib.hid hpn
  go_region_law (first
    | (go_simp
       go_at_call 142
       refine (heavy_any A n c w0.heap.size w1.heap.size ps (fr, nu, (n : Int), st, hv) _ ((own_rd (hpn ▸ H1.out.1.ownP)).below (bdrew (Below.refl _ _)) (Nat.le_refl _)) (Nat.le_refl _) hn HH.out.1 HH.out.2).mono ?_
       rintro e wt ⟨rfl, hb⟩
       have HT : Hid (RrSt w0 xb (.slice A n c) v1 ps out vs (fr, nu, (n : Int), st, hv) wt ∧ Below w1.heap.size w1 wt) := Lib.hid ⟨H1.out.1.on ((bdrew (Below.refl _ w1)).trans hb), (bdrew (Below.refl _ w1)).trans hb⟩
       have x0 : wt.cell? ⟨xb, 0, none⟩ = some (.slice A n c) := HT.out.1.blk.cell 0
       have x3 : wt.cell? ⟨xb, 3, none⟩ = some (.int .i64 fr) := HT.out.1.blk.cell 3
       have x4 : wt.cell? ⟨xb, 4, none⟩ = some (.int .i64 nu) := HT.out.1.blk.cell 4
       have x5 : wt.cell? ⟨xb, 5, none⟩ = some (.int .i64 (n : Int)) := HT.out.1.blk.cell 5
       have x6 : wt.cell? ⟨xb, 6, none⟩ = some (.int .i64 st) := HT.out.1.blk.cell 6
       have x7 : wt.cell? ⟨xb, 7, none⟩ = some (.bool hv) := HT.out.1.blk.cell 7
       have f7 : wt.frozen? ⟨xb, 7, none⟩ = false := HT.out.1.blk.frozen 7
       clear hb))
  all_goals
    refine exitAbs (fun wx => RrSt w0 xb (.slice A n c) v1 ps out vs (fr, nu, (n : Int), st, heavyF ps (fr, nu, (n : Int), st, hv)) wx ∧ Only (fun b => b = xb ∨ v1.ownBlock = some b) w wx) ⟨HT.out.1.set 7 _ vs _ rfl, (H1.out.2.trans (Only.of_below HT.out.2 _)).setCell (.inl (.inl rfl)) _⟩ ?_
    clear x0 x3 x4 x5 x6 x7 f7 HT
    rintro w2 h2
    have H2 := Lib.hid h2
    clear h2
    rw [HV.out] at H2
    have HSH2 := HSH
    generalize heavyF ps (fr, nu, (n : Int), st, false) = hy at *
    obtain ⟨A2, c2, e2⟩ := own_slice H2.out.1.ownS
    subst e2
    have hom : ∃ m, out.length = m := ⟨_, rfl⟩
    obtain ⟨m, hom⟩ := hom
    have HOM := Lib.hid hom
    rw [hom] at H2 hm
    clear hom
    have x1 : w2.cell? ⟨xb, 1, none⟩ = some (.slice A2 m c2) := H2.out.1.blk.cell 1
    have x3 : w2.cell? ⟨xb, 3, none⟩ = some (.int .i64 fr) := H2.out.1.blk.cell 3
    have x4 : w2.cell? ⟨xb, 4, none⟩ = some (.int .i64 nu) := H2.out.1.blk.cell 4
    have x5 : w2.cell? ⟨xb, 5, none⟩ = some (.int .i64 (n : Int)) := H2.out.1.blk.cell 5
    have x6 : w2.cell? ⟨xb, 6, none⟩ = some (.int .i64 st) := H2.out.1.blk.cell 6
    have x7 : w2.cell? ⟨xb, 7, none⟩ = some (.bool hy) := H2.out.1.blk.cell 7
    have f1 : w2.frozen? ⟨xb, 1, none⟩ = false := H2.out.1.blk.frozen 1
    have x1a : (w2.alloc (.cells #[.int .i64 fr, .int .i64 nu, .int .i64 (n : Int), .int .i64 st, .bool hy] 37)).cell? ⟨xb, 1, none⟩ = some (.slice A2 m c2) := (H2.out.1.blk.alloc _).cell 1
    have ho2 := H2.out.1.ownS
    rw [HOM.out] at ho2
    have HO2 := Lib.hid ho2
    have hsz := H2.out.1.below.size
    clear ho2
    go_wp2
    go_region_law
      ((refine step_append_lies _ (by rfl) _ _ 23 (by rfl) w0.heap.size 37 k0 (.agg #[.int .i64 0, .int .i64 0, .int .i64 0, .int .i64 0, .bool false]) 5 40 Try.underlying23 HK.out.1 HK.out.2.1 HK.out.2.2.1 HK.out.2.2.2 rfl (by omega) (.slice A2 m c2) m (sys out) (by rfl) ?_ _ 1 1 [.int .i64 fr, .int .i64 nu, .int .i64 (n : Int), .int .i64 st, .bool hy] (by rfl) (by rfl) ?_ (by simp [Value.oneCell']) (by omega) ?_ (by omega) ?_ _ rfl ?_; (refine own_stay HO2.out ?_; (repeat (first | (with_reducible exact Only.refl _ _) | (with_reducible refine Only.drew ?_) | (with_reducible refine Only.alloc ?_ _)))); (refine World.news_of_block (cs := #[.int .i64 fr, .int .i64 nu, .int .i64 (n : Int), .int .i64 st, .bool hy]) (t := 37) (fr := (0, 0)) ?_; refine (show Blk _ _ 37 _ from ?_); repeat (first | ((with_reducible refine blk_new_eq ?_); (first | (with_reducible rfl) | exact (by simp) | exact (by simp; omega))) | (with_reducible refine Blk.drew ?_) | (with_reducible refine Blk.alloc ?_ _))); (unfold maxLen; omega); (first | omega | (simp; omega)); intro gA capA wA hownA hgrowA hatA hltA; have ho : Only (fun q => (Value.slice A2 m c2).ownBlock = some q) w2 wA := (by (repeat (first | (with_reducible exact Only.refl _ _) | (with_reducible refine Only.drew ?_) | (with_reducible refine Only.alloc ?_ _) | (with_reducible refine Only.grown ?_ hgrowA (fun g hg => .inl hg))))); have hgx : gA ≠ xb := (fun e => by rcases hatA with h | h; exact H2.out.1.farS (by rw [h, e]); have := H2.out.1.blk.lt; simp at h; omega); have hx1 : Blk wA xb 214 _ := H2.out.1.blk.only ho (fun hs => H2.out.1.farS hs); have x1' : wA.cell? ⟨xb, 1, none⟩ = some (.slice A2 m c2) := hx1.cell 1; have f1' : wA.frozen? ⟨xb, 1, none⟩ = false := hx1.frozen 1; have HN := Lib.hid (And.intro (H2.out.1.appS HOM.out (fr, nu, (n : Int), st, hy) hownA ho (by simp [Value.ownBlock]; exact hgx)) (H2.out.2.trans ((ho.weak (fun k _ hk => .inr hk)).setCell (p := ⟨xb, 1, none⟩) (.inl (.inl rfl)) (.slice (some ⟨gA, 0, none⟩) (m + 1) capA)))); clear ho hownA hgrowA hatA hltA hgx hx1))
    all_goals
      go_wp2
      go_end0
      exact ⟨rfl, ⟨_, by rw [HOP.out.1, HOP.out.2.1, HOP.out.2.2, HPN.out, HSH.out]; exact HN.out.1⟩, by rw [HOM.out]; exact HN.out.2⟩
end Go.Proofs.Ytogofchpocoebaa
