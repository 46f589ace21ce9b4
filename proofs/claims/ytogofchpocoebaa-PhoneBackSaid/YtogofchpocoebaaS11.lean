/- The law PhoneReads, walked. -/
import Derived.Test.YtogofchpocoebaaS8
import Derived.Test.YtogofchpocoebaaS10
import Derived.Test.YtogofchpocoebaaR4
import Derived.Sort.CutIn
import Derived.Test.YtogofchpocoebaaRound
namespace Go.Proofs.Ytogofchpocoebaa
open Go.RowKit Go.Maps
attribute [local go_sem] Oper.semAt_some

/-- memory while the law runs: the boxes of early, of the result, of all phones, of their places, of the end; the marks -/
structure EvSt (w0 : World) (early : Int) (A5 A6 : Option Addr) (c5 c6 q : Nat) (ev : List (Ph × Nat)) (en : Nat) (ds : List Deferred) (W : World) : Prop where
  be : Blk W w0.heap.size 3 #[.int .i64 early]
  br : Blk W (w0.heap.size + 1) 4 #[.bool false]
  b9 : Blk W q 22 #[.slice A5 ev.length c5]
  b10 : Blk W (q + 1) 71 #[.slice A6 ev.length c6]
  b11 : Blk W (q + 2) 3 #[.int .i64 (en : Nat)]
  r5 : Rd W (w0.heap.size + 2) q 3 A5 ev.length (phs (fsts ev))
  r6 : Rd W (w0.heap.size + 2) q 1 A6 ev.length (snds ev)
  mar : Marks (q + 3) ds W
  below : Below w0.heap.size w0 W
  lq : w0.heap.size + 2 ≤ q
theorem EvSt.on {w0 : World} {early : Int} {A5 A6 : Option Addr} {c5 c6 q : Nat} {ev : List (Ph × Nat)} {en : Nat} {ds : List Deferred} {W W' : World} (h : EvSt w0 early A5 A6 c5 c6 q ev en ds W) (hb : Below W.heap.size W W') : EvSt w0 early A5 A6 c5 c6 q ev en ds W' :=
  ⟨h.be.below hb h.be.lt, h.br.below hb h.br.lt, h.b9.below hb h.b9.lt, h.b10.below hb h.b10.lt, h.b11.below hb h.b11.lt, h.r5.below hb (Nat.le_of_lt h.b9.lt), h.r6.below hb (Nat.le_of_lt h.b9.lt), h.mar.below hb, h.below.trans (hb.mono h.below.size), h.lq⟩

theorem EvSt.stay {S : Nat → Prop} {w0 : World} {early : Int} {A5 A6 : Option Addr} {c5 c6 q B : Nat} {ev : List (Ph × Nat)} {en : Nat} {ds : List Deferred} {W W' : World} (h : EvSt w0 early A5 A6 c5 c6 q ev en ds W) (ho : Only S W W') (hS : ∀ b, S b → B ≤ b) (hB : q + 3 ≤ B)
    (lm : ∀ d ∈ ds, ∃ r, d.target = .collected r ∧ r < B) : EvSt w0 early A5 A6 c5 c6 q ev en ds W' := by
  have l0 := h.lq
  have l1 := h.b9.lt
  refine ⟨h.be.only ho (fun hs => ?_), h.br.only ho (fun hs => ?_), h.b9.only ho (fun hs => ?_), h.b10.only ho (fun hs => ?_), h.b11.only ho (fun hs => ?_), h.r5.keep (fun b o _ hb => ho.cell (by omega) (fun hs => ?_)), h.r6.keep (fun b o _ hb => ho.cell (by omega) (fun hs => ?_)), ?_, h.below.trans (ho.below h.below.size (fun b hb hs => ?_)), h.lq⟩
  rotate_right 1
  · have := hS _ hs; omega
  rotate_right 1
  · refine h.mar.keep fun r _ hr hd => (ho.block r (Array.getElem?_eq_some_iff.1 hr).1 (fun hs => ?_)).trans hr
    obtain ⟨d, hd, hdr⟩ := hd
    obtain ⟨r', h1, h2⟩ := lm d hd
    rw [hdr] at h1
    injection h1 with h1
    have := hS _ hs
    omega
  all_goals have := hS _ hs; omega

/-- memory between two rounds of the inner range: the pass, the count, what Each has captured -/
structure EvIn (w0 : World) (s : ByteArray) (early : Int) (A5 A6 : Option Addr) (c5 c6 q : Nat) (ev : List (Ph × Nat)) (en : Nat) (ds : List Deferred) (jb ib sb B : Nat) (j : Nat) (k : Nat) (W : World) : Prop where
  st : EvSt w0 early A5 A6 c5 c6 q ev en ds W
  bj : Blk W jb 3 #[.int .i64 j]
  bi : Blk W ib 3 #[.int .i64 k]
  bs : Blk W sb 9 #[.string s]
  lj : q + 3 ≤ jb ∧ jb < B
  li : q + 3 ≤ ib ∧ ib < B
  ls : q + 3 ≤ sb ∧ sb < B
  ne : jb ≠ ib ∧ ib ≠ sb
  lm : ∀ d ∈ ds, ∃ r, d.target = .collected r ∧ r < B
section
variable {w0 : World} {s : ByteArray} {early : Int} {A5 A6 : Option Addr} {c5 c6 q : Nat} {ev : List (Ph × Nat)} {en : Nat} {ds : List Deferred} {jb ib sb B j k : Nat} {W W' : World}
theorem EvIn.stay {S : Nat → Prop} (h : EvIn w0 s early A5 A6 c5 c6 q ev en ds jb ib sb B j k W) (ho : Only S W W') (hS : ∀ b, S b → B ≤ b) : EvIn w0 s early A5 A6 c5 c6 q ev en ds jb ib sb B j k W' := by
  have l1 := h.lj
  have l2 := h.li
  have l3 := h.ls
  refine ⟨h.st.stay ho hS (by omega) h.lm, h.bj.only ho (fun hs => ?_), h.bi.only ho (fun hs => ?_), h.bs.only ho (fun hs => ?_), h.lj, h.li, h.ls, h.ne, h.lm⟩
  all_goals have := hS _ hs; omega
theorem EvIn.on (h : EvIn w0 s early A5 A6 c5 c6 q ev en ds jb ib sb B j k W) (hb : Below B W W') : EvIn w0 s early A5 A6 c5 c6 q ev en ds jb ib sb B j k W' :=
  h.stay (S := fun b => B ≤ b) ⟨hb.os, hb.tape, hb.output, hb.size, fun j _ hs => hb.block j (by omega)⟩ (fun _ hs => hs)
theorem EvIn.set (h : EvIn w0 s early A5 A6 c5 c6 q ev en ds jb ib sb B j k W) (k' : Nat) : EvIn w0 s early A5 A6 c5 c6 q ev en ds jb ib sb B j k' (W.setCell ⟨ib, 0, none⟩ (.int .i64 k')) := by
  have l0 := h.st.lq
  have l1 := h.lj
  have l2 := h.li
  have l3 := h.ls
  obtain ⟨n1, n2⟩ := h.ne
  have hst : EvSt w0 early A5 A6 c5 c6 q ev en ds (W.setCell ⟨ib, 0, none⟩ (.int .i64 k')) := by
    have hs := h.st
    refine ⟨hs.be.far (by simp; omega) _, hs.br.far (by simp; omega) _, hs.b9.far (by simp; omega) _, hs.b10.far (by simp; omega) _, hs.b11.far (by simp; omega) _, hs.r5.keep (fun b o _ hb => ?_), hs.r6.keep (fun b o _ hb => ?_), hs.mar.setCell h.bi 0 _, hs.below.setCell (by simp; omega) _, hs.lq⟩
    · exact World.cell?_of_block (w := W) (Below.heap_setCell _ _ _ _ (by simp; omega))
    · exact World.cell?_of_block (w := W) (Below.heap_setCell _ _ _ _ (by simp; omega))
  exact ⟨hst, h.bj.far (by simpa using n1) _, by simpa using h.bi.set_ 0 (.int .i64 k'), h.bs.far (by simpa using Ne.symm n2) _, h.lj, h.li, h.ls, h.ne, h.lm⟩
theorem EvIn.leave (h : EvIn w0 s early A5 A6 c5 c6 q ev en ds jb ib sb B j k W) (hk : W.heap[B]? = some (.deferred (some []))) : EvSt w0 early A5 A6 c5 c6 q ev en ({ target := .collected B, args := #[] } :: ds) W := by
  have l1 := h.lj
  have hs := h.st
  refine ⟨hs.be, hs.br, hs.b9, hs.b10, hs.b11, hs.r5, hs.r6, ⟨B, rfl, by omega, hk, fun d hd e => ?_, hs.mar⟩, hs.below, hs.lq⟩
  obtain ⟨r, h1, h2⟩ := h.lm d hd
  rw [h1] at e
  injection e with e
  omega
end
theorem EvSt.enter {w0 : World} (s : ByteArray) {early : Int} {A5 A6 : Option Addr} {c5 c6 q : Nat} {ev : List (Ph × Nat)} {en : Nat} {ds : List Deferred} (j : Nat) {W : World} (h : EvSt w0 early A5 A6 c5 c6 q ev en ds W) :
    EvIn w0 s early A5 A6 c5 c6 q ev en ds W.heap.size (W.heap.size + 1) (W.heap.size + 2) (W.heap.size + 3) j 0 (((W.alloc (.cells #[.int .i64 j] 3)).alloc (.cells #[.int .i64 0] 3)).alloc (.cells #[.string s] 9)) := by
  have hb : Below W.heap.size W (((W.alloc (.cells #[.int .i64 j] 3)).alloc (.cells #[.int .i64 0] 3)).alloc (.cells #[.string s] 9)) := (((Below.refl _ W).alloc (Nat.le_refl _) _).alloc (by simp) _).alloc (by simp; omega) _
  have l := h.b11.lt
  refine ⟨h.on hb, ((Blk.new _ _ _).alloc _).alloc _, (blk_new_eq (by simp)).alloc _, blk_new_eq (by simp), by omega, by omega, by omega, by omega, fun d hd => ?_⟩
  obtain ⟨r, h1, h2⟩ := h.mar.lt d hd
  exact ⟨r, h1, by omega⟩

/-- memory in a round: what was handed over, in boxes -/
structure EvRd (w0 : World) (s : ByteArray) (early : Int) (A5 A6 : Option Addr) (c5 c6 q : Nat) (ev : List (Ph × Nat)) (en : Nat) (ds : List Deferred) (jb ib sb B j k : Nat) (p : Ph) (x y pb hb : Nat) (W : World) : Prop where
  st : EvIn w0 s early A5 A6 c5 c6 q ev en ds jb ib sb B j k W
  bp : Blk W pb 78 #[.int .i64 x, .int .i64 y]
  bh : Blk W hb 43 #[.int .i32 p.1, .bool p.2.1, .int .i32 p.2.2]
  lp : B + 2 ≤ pb
  lh : B + 2 ≤ hb
theorem EvRd.stay {w0 : World} {s : ByteArray} {early : Int} {A5 A6 : Option Addr} {c5 c6 q : Nat} {ev : List (Ph × Nat)} {en : Nat} {ds : List Deferred} {jb ib sb B j k : Nat} {p : Ph} {x y pb hb : Nat} {W W' : World} (h : EvRd w0 s early A5 A6 c5 c6 q ev en ds jb ib sb B j k p x y pb hb W) (ho : Only (fun b => b = B + 1) W W') : EvRd w0 s early A5 A6 c5 c6 q ev en ds jb ib sb B j k p x y pb hb W' := by
  have l1 := h.lp
  have l2 := h.lh
  exact ⟨h.st.stay ho (fun b e => by omega), h.bp.only ho (by omega), h.bh.only ho (by omega), h.lp, h.lh⟩
def evP (ev : List (Ph × Nat)) (k : Nat) : Ph := (ev.getD k ((0, false, 0), 0)).1
def evF (ev : List (Ph × Nat)) (k : Nat) : Nat := (ev.getD k ((0, false, 0), 0)).2
theorem evP_lt {ev : List (Ph × Nat)} {k : Nat} (h : k < ev.length) : evP ev k = ev[k].1 ∧ evF ev k = ev[k].2 := by
  unfold evP evF
  rw [List.getD_eq_getElem?_getD, List.getElem?_eq_getElem h]
  exact ⟨rfl, rfl⟩
theorem evx_at {l : List UInt8} {ev : List (Ph × Nat)} {en B k : Nat} {args : Array Value} {W : World} (hev : evL l = (ev, en)) (h : EvX l B k args W) : k < ev.length ∧ args = #[.agg #[.int .i64 ((evF ev k : Nat) : Int), .int .i64 ((posE ev en (k + 1) : Nat) : Int)], .agg #[.int .i32 (evP ev k).1, .bool (evP ev k).2.1, .int .i32 (evP ev k).2.2]] := by
  obtain ⟨hk, e⟩ := h
  have h3 := (ev_at l hk).2.2
  rw [h3] at e
  simp only [hev] at hk e
  rw [(evP_lt hk).1, (evP_lt hk).2]
  exact ⟨hk, e⟩

theorem Chain.many {l : List UInt8} : ∀ {r : List (Ph × Nat)} {a e : Nat}, Chain l r a e → a + r.length ≤ e := by
  intro r
  induction r with
  | nil => intro a e h; exact Nat.le_of_eq h
  | cons x r ih => intro a e h; have := ih h.2.2.2; have := h.2.2.1; simp only [List.length_cons]; omega
theorem ev_many {l : List UInt8} {ev : List (Ph × Nat)} {en : Nat} (h : evL l = (ev, en)) : ev.length ≤ l.length := by
  have h1 := (ev_chain l (l.length + 1) 0).many
  have h2 := ev_end_le l
  have h3 : evGo l (l.length + 1) 0 = (ev, en) := h
  rw [h3] at h1
  rw [h] at h2
  simp only at h1 h2
  omega
theorem rd_ev5 {W : World} {L B : Nat} {A : Option Addr} {ev : List (Ph × Nat)} (h : Rd W L B 3 A ev.length (phs (fsts ev))) {k : Nat} (hk : k < ev.length) :
    ∃ b o, L ≤ b ∧ A = some ⟨b, o, none⟩ ∧ W.cell? ⟨b, o + k * 3, none⟩ = some (.int .i32 (evP ev k).1) ∧ W.cell? ⟨b, o + k * 3 + 1, none⟩ = some (.bool (evP ev k).2.1) ∧ W.cell? ⟨b, o + k * 3 + 2, none⟩ = some (.int .i32 (evP ev k).2.2) := by
  obtain ⟨b, o, hl, e, h1, h2, x0, x1, x2⟩ := h.ph hk
  have e1 : (fsts ev)[k] = evP ev k := by rw [(evP_lt hk).1]; simp [fsts]
  rw [e1] at x0 x1 x2
  exact ⟨b, o, h1, e, x0, x1, x2⟩
theorem rd_ev6 {W : World} {L B : Nat} {A : Option Addr} {ev : List (Ph × Nat)} (h : Rd W L B 1 A ev.length (snds ev)) {k : Nat} (hk : k < ev.length) :
    ∃ b o, A = some ⟨b, o, none⟩ ∧ ∀ i, i < ev.length → W.cell? ⟨b, o + i, none⟩ = some (.int .i64 ((evF ev i : Nat) : Int)) := by
  obtain ⟨b, o, e, h1, h2, hc⟩ := h.2 (by omega)
  refine ⟨b, o, e, fun i hi => hc i _ ?_⟩
  unfold snds
  rw [List.getElem?_map, List.getElem?_eq_getElem hi, (evP_lt hi).2]
  rfl
theorem ev_fin {w0 : World} {early : Int} {A5 A6 : Option Addr} {c5 c6 q : Nat} {ev : List (Ph × Nat)} {en : Nat} {ds : List Deferred} {w : World} (h : EvSt w0 early A5 A6 c5 c6 q ev en ds w) (tmps : Array Value) (ht : tmps[4]? = some (.pointer (some ⟨w0.heap.size + 1, 0, none⟩))) : ∀ w', Below (q + 3) (w.setCell ⟨w0.heap.size + 1, 0, none⟩ (.bool true)) w' →
    ∃ v, (results Try.f7 tmps).run Try.prog w' = .ok v w' ∧ (fun e w' => e = Ending.returned (.bool true) ∧ Below w0.heap.size w0 w') (.returned v) w' := by
  intro w' hb
  have l := h.lq
  have g : w'.cell? ⟨w0.heap.size + 1, 0, none⟩ = some (.bool true) := by
    have := ((h.br.set_ 0 (.bool true)).below hb (by omega)).cell 0
    simpa using this
  refine ⟨.bool true, ?_, rfl, (h.below.setCell (by simp) _).trans (hb.mono (by omega))⟩
  simp [results, Try.results7, go_sem, g, ht]
theorem readL_len (l : List UInt8) : (readL l).1.length ≤ 128 := by
  rw [read_ev]
  unfold rdAll
  split
  · simp
  · rename_i h
    split
    · simp
    · simp at h ⊢; omega

set_option maxHeartbeats 8000000 in
set_option maxRecDepth 100000 in
theorem phoneReads_any (s : ByteArray) (early : Int) (w : World) (hz : s.size ≤ 1000000000) : Calls Try.prog 7 #[.string s, .int .i64 early] w fun e w' => e = .returned (.bool true) ∧ Below w.heap.size w w' := by
  have HM := Lib.hid (show s.size ≤ maxLen by unfold maxLen; omega)
  refine calls_of_wp_marks Try.func7 rfl ?_
  simp only [Try.ntmps7, List.size_toArray, List.length_cons, List.length_nil, Nat.reduceAdd, Nat.reduceSub, Array.replicate_succ, Array.replicate_zero, List.push_toArray, List.append_toArray, List.nil_append, List.cons_append]
  go_upto_region 1 with (fail)
  refine wp_abs (fun wx => Blk wx w.heap.size 3 #[.int .i64 early] ∧ Blk wx (w.heap.size + 1) 4 #[.bool false] ∧ Below w.heap.size w wx) ⟨(Blk.new _ _ _).alloc _, blk_new_eq (by simp), ((Below.refl _ _).alloc (Nat.le_refl _) _).alloc (by simp) _⟩ ?_
  rintro w1 ⟨b0, b1, hb⟩
  have H1 := Lib.hid (And.intro b0 (And.intro b1 hb))
  clear b0 b1 hb
  go_wp2_with fail
  refine (works_any w1).mono ?_
  rintro e w2 ⟨rfl, hb⟩
  have H2 := Lib.hid (And.intro (H1.out.1.below hb H1.out.1.lt) (And.intro (H1.out.2.1.below hb H1.out.2.1.lt) (H1.out.2.2.trans (hb.mono H1.out.2.2.size))))
  clear hb H1
  go_wp2_with fail
  refine (read_any s w2 HM.out).mono ?_
  rintro e w3 ⟨v1, rfl, ho1, hb⟩
  have hl2 := H2.out.2.1.lt
  obtain ⟨A1, C1, rfl⟩ := own_slice ho1
  have H3 := Lib.hid (And.intro (own_rd ho1) (And.intro (H2.out.1.below hb H2.out.1.lt) (And.intro (H2.out.2.1.below hb hl2) (H2.out.2.2.trans (hb.mono H2.out.2.2.size)))))
  clear hb H2 ho1 hl2
  generalize hrd : readL s.data.toList = rd at *
  have HRD := Lib.hid hrd
  clear hrd
  go_upto_region 4 with (fail)
  refine wp_abs (fun wx => Rd wx 0 wx.heap.size 3 A1 rd.1.length (phs rd.1) ∧ Blk wx w.heap.size 3 #[.int .i64 early] ∧ Blk wx (w.heap.size + 1) 4 #[.bool false] ∧ Below w.heap.size w wx ∧ Blk wx w3.heap.size 68 #[.int .i64 rd.2.1, .int .i64 rd.2.2]) ⟨(H3.out.1.below ((Below.refl _ _).alloc (Nat.le_refl _) _) (Nat.le_refl _)).more (Nat.zero_le _) (by simp), H3.out.2.1.alloc _, H3.out.2.2.1.alloc _, H3.out.2.2.2.trans (((Below.refl _ _).alloc (Nat.le_refl _) _).mono H3.out.2.2.2.size), Blk.new _ _ _⟩ ?_
  generalize w3.heap.size = x1
  clear H3
  rintro w4 ⟨r1, b0, b1, hb4, bx1⟩
  have H4 := Lib.hid (And.intro r1 (And.intro b0 (And.intro b1 (And.intro hb4 bx1))))
  clear r1 b0 b1 hb4 bx1
  go_wp2_with fail
  refine (refRead_any s w4 hz).mono ?_
  rintro e w5 ⟨v2, rfl, ho2, hb⟩
  rw [HRD.out] at ho2 ⊢
  obtain ⟨A2, C2, rfl⟩ := own_slice ho2
  have H5 := Lib.hid (And.intro (H4.out.1.up hb (Nat.le_trans (Nat.le_refl _) hb.size)) (And.intro (H4.out.2.1.below hb H4.out.2.1.lt) (And.intro (H4.out.2.2.1.below hb H4.out.2.2.1.lt) (And.intro (H4.out.2.2.2.1.trans (hb.mono H4.out.2.2.2.1.size)) (And.intro (H4.out.2.2.2.2.below hb H4.out.2.2.2.2.lt) ((own_rd ho2).more (Nat.zero_le _) (Nat.le_refl _)))))))
  clear hb H4 ho2
  go_upto_region 5 with (fail)
  refine wp_abs (fun wx => Rd wx 0 wx.heap.size 3 A1 rd.1.length (phs rd.1) ∧ Blk wx w.heap.size 3 #[.int .i64 early] ∧ Blk wx (w.heap.size + 1) 4 #[.bool false] ∧ Below w.heap.size w wx ∧ Blk wx x1 68 #[.int .i64 rd.2.1, .int .i64 rd.2.2] ∧ Rd wx 0 wx.heap.size 3 A2 rd.1.length (phs rd.1) ∧ Blk wx w5.heap.size 68 #[.int .i64 rd.2.1, .int .i64 rd.2.2]) ⟨(H5.out.1.below ((Below.refl _ _).alloc (Nat.le_refl _) _) (Nat.le_refl _)).more (Nat.zero_le _) (by simp), H5.out.2.1.alloc _, H5.out.2.2.1.alloc _, H5.out.2.2.2.1.trans (((Below.refl _ _).alloc (Nat.le_refl _) _).mono H5.out.2.2.2.1.size), H5.out.2.2.2.2.1.alloc _, (H5.out.2.2.2.2.2.below ((Below.refl _ _).alloc (Nat.le_refl _) _) (Nat.le_refl _)).more (Nat.zero_le _) (by simp), Blk.new _ _ _⟩ ?_
  generalize w5.heap.size = x2
  clear H5
  rintro w6 ⟨r1, b0, b1, hb6, bx1, r2, bx2⟩
  have H6 := Lib.hid (And.intro r1 (And.intro b0 (And.intro b1 (And.intro hb6 (And.intro bx1 (And.intro r2 bx2))))))
  clear r1 b0 b1 hb6 bx1 r2 bx2
  go_wp2_with fail
  refine (refEach_any s w6 hz).mono ?_
  rintro e w7 ⟨v5, v6, rfl, hE⟩
  obtain ⟨A5, c5, rfl⟩ := own_slice hE.o5
  obtain ⟨A6, c6, rfl⟩ := own_slice hE.o6
  have hb := hE.below
  have H7 := Lib.hid (And.intro (And.intro (H6.out.1.up hb hb.size) (H6.out.2.2.2.2.2.1.up hb hb.size)) (And.intro (H6.out.2.1.below hb H6.out.2.1.lt) (And.intro (H6.out.2.2.1.below hb H6.out.2.2.1.lt) (And.intro (H6.out.2.2.2.1.trans (hb.mono H6.out.2.2.2.1.size)) (And.intro (And.intro (H6.out.2.2.2.2.1.below hb H6.out.2.2.2.2.1.lt) (H6.out.2.2.2.2.2.2.below hb H6.out.2.2.2.2.2.2.lt)) (And.intro (own_rd hE.o5) (And.intro (own_rd hE.o6) H6.out.2.2.1.lt)))))))
  clear hb H6 hE
  generalize hev : evL s.data.toList = ev at *
  have HEV := Lib.hid hev
  clear hev
  obtain ⟨ev, en⟩ := ev
  dsimp only
  dsimp only at H7
  go_upto_region 6 with (fail)
  refine wp_abs (fun wx => EvSt w early A5 A6 c5 c6 w7.heap.size ev en [] wx ∧ Rd wx 0 wx.heap.size 3 A1 rd.1.length (phs rd.1) ∧ Rd wx 0 wx.heap.size 3 A2 rd.1.length (phs rd.1) ∧ Blk wx x1 68 #[.int .i64 rd.2.1, .int .i64 rd.2.2] ∧ Blk wx x2 68 #[.int .i64 rd.2.1, .int .i64 rd.2.2]) ?f7 ?_
  case f7 =>
    have l := H7.out.2.2.2.2.2.2.2
    have hb : Below w7.heap.size w7 (((w7.alloc (.cells #[.slice A5 ev.length c5] 22)).alloc (.cells #[.slice A6 ev.length c6] 71)).alloc (.cells #[.int .i64 (en : Nat)] 3)) := (((Below.refl _ _).alloc (Nat.le_refl _) _).alloc (by simp) _).alloc (by simp; omega) _
    have l6 := H7.out.2.2.1.lt
    refine ⟨⟨H7.out.2.1.below hb H7.out.2.1.lt, H7.out.2.2.1.below hb l6, ((Blk.new _ _ _).alloc _).alloc _, (blk_new_eq (by simp)).alloc _, blk_new_eq (by simp), ?_, ?_, trivial, H7.out.2.2.2.1.trans (hb.mono H7.out.2.2.2.1.size), by omega⟩, (H7.out.1.1.up hb hb.size).more (Nat.zero_le _) (Nat.le_refl _), (H7.out.1.2.up hb hb.size).more (Nat.zero_le _) (Nat.le_refl _), H7.out.2.2.2.2.1.1.below hb H7.out.2.2.2.2.1.1.lt, H7.out.2.2.2.2.1.2.below hb H7.out.2.2.2.2.1.2.lt⟩
    · exact (H7.out.2.2.2.2.2.1.below hb (Nat.le_refl _)).more (by omega) (Nat.le_refl _)
    · exact (H7.out.2.2.2.2.2.2.1.below hb (Nat.le_refl _)).more (by omega) (Nat.le_refl _)
  generalize w7.heap.size = q
  clear H7
  rintro w8 ⟨hS, r1, r2, bx1, bx2⟩
  have y0 : w8.cell? ⟨x1, 0, none⟩ = some (.int .i64 rd.2.1) := bx1.cell 0
  have y1 : w8.cell? ⟨x1, 1, none⟩ = some (.int .i64 rd.2.2) := bx1.cell 1
  have z0 : w8.cell? ⟨x2, 0, none⟩ = some (.int .i64 rd.2.1) := bx2.cell 0
  have z1 : w8.cell? ⟨x2, 1, none⟩ = some (.int .i64 rd.2.2) := bx2.cell 1
  have H8 := Lib.hid (And.intro hS (And.intro r1 r2))
  clear hS r1 r2 bx1 bx2
  have hlen : rd.1.length ≤ maxLen := by
    have := readL_len s.data.toList
    rw [HRD.out] at this
    unfold maxLen; omega
  have HQ := Lib.hid hlen
  clear hlen
  have g1 : (rd.2.1 == rd.2.1) = true := by simp
  have g2 : (rd.2.2 == rd.2.2) = true := by simp
  go_wp2_with fail
  refine (equalH_any A1 A2 rd.1.length C1 rd.1.length C2 _ _ _ _ rd.1 rd.1 w8 H8.out.2.1 H8.out.2.2 HQ.out HQ.out (Nat.le_refl _) (Nat.le_refl _)).mono ?_
  rw [decide_eq_true (rfl : rd.1 = rd.1)]
  rintro e w9 ⟨rfl, hb⟩
  have H9 := Lib.hid (H8.out.1.on hb)
  clear hb H8 y0 y1 z0 z1 g1 g2
  go_wp2
  --LOOP
  refine wp_loop (fun a' w' => ∃ (ds : List Deferred) (j : Nat) (u12 u13 u45 u46 u47 u48 u93 u94 u95 u96 u97 u98 u99 u100 u101 u102 u103 u104 u105 u106 : Value), (j ≤ 2 ∧ Hid (EvSt w early A5 A6 c5 c6 q ev en ds w')) ∧ a' = { tmps := #[.string s, .int .i64 early, undef, .pointer (some ⟨w.heap.size, 0, none⟩), .pointer (some ⟨w.heap.size + 1, 0, none⟩), .slice A1 rd.1.length C1, .pointer (some ⟨x1, 0, none⟩), .slice A2 rd.1.length C2, .pointer (some ⟨x2, 0, none⟩), .pointer (some ⟨q, 0, none⟩), .pointer (some ⟨q + 1, 0, none⟩), .pointer (some ⟨q + 1 + 1, 0, none⟩), u12, u13, undef, undef, undef, .bool true, .bool false, .tuple #[.slice A1 rd.1.length C1, .agg #[.int .i64 rd.2.1, .int .i64 rd.2.2]], .string s, .tuple #[.slice A1 rd.1.length C1, .agg #[.int .i64 rd.2.1, .int .i64 rd.2.2]], .slice A1 rd.1.length C1, .agg #[.int .i64 rd.2.1, .int .i64 rd.2.2], .tuple #[.slice A2 rd.1.length C2, .agg #[.int .i64 rd.2.1, .int .i64 rd.2.2]], .string s, .tuple #[.slice A2 rd.1.length C2, .agg #[.int .i64 rd.2.1, .int .i64 rd.2.2]], .slice A2 rd.1.length C2, .agg #[.int .i64 rd.2.1, .int .i64 rd.2.2], .tuple #[.slice A5 ev.length c5, .slice A6 ev.length c6, .int .i64 (en : Nat)], .string s, .tuple #[.slice A5 ev.length c5, .slice A6 ev.length c6, .int .i64 (en : Nat)], .slice A5 ev.length c5, .slice A6 ev.length c6, .int .i64 (en : Nat), .agg #[.int .i64 rd.2.1, .int .i64 rd.2.2], .agg #[.int .i64 rd.2.1, .int .i64 rd.2.2], .bool false, .bool false, .slice A1 rd.1.length C1, .slice A2 rd.1.length C2, .bool true, .bool false, .bool false, .int .i64 (j : Nat), u45, u46, u47, u48, undef, undef, undef, undef, undef, undef, undef, undef, undef, undef, undef, undef, undef, undef, undef, undef, undef, undef, undef, undef, undef, undef, undef, undef, undef, undef, undef, undef, undef, undef, undef, undef, undef, undef, undef, undef, undef, undef, undef, undef, undef, undef, undef, undef, u93, u94, u95, u96, u97, u98, u99, u100, u101, u102, u103, u104, u105, u106, undef], defers := ds }) (fun a' _ => 2 - (intOf (a'.tmps.getD 44 undef)).toNat) ?start ?round
  case start =>
    refine ⟨[], 0, ?_⟩
    (repeat apply Exists.intro)
    exact ⟨⟨by omega, H9⟩, rfl⟩
  case round =>
    clear H9
    intro _ wr hinv
    obtain ⟨ds, hinv⟩ := hinv
    obtain ⟨j, hinv⟩ := hinv
    obtain ⟨u12, hinv⟩ := hinv
    obtain ⟨u13, hinv⟩ := hinv
    obtain ⟨u45, hinv⟩ := hinv
    obtain ⟨u46, hinv⟩ := hinv
    obtain ⟨u47, hinv⟩ := hinv
    obtain ⟨u48, hinv⟩ := hinv
    obtain ⟨u93, hinv⟩ := hinv
    obtain ⟨u94, hinv⟩ := hinv
    obtain ⟨u95, hinv⟩ := hinv
    obtain ⟨u96, hinv⟩ := hinv
    obtain ⟨u97, hinv⟩ := hinv
    obtain ⟨u98, hinv⟩ := hinv
    obtain ⟨u99, hinv⟩ := hinv
    obtain ⟨u100, hinv⟩ := hinv
    obtain ⟨u101, hinv⟩ := hinv
    obtain ⟨u102, hinv⟩ := hinv
    obtain ⟨u103, hinv⟩ := hinv
    obtain ⟨u104, hinv⟩ := hinv
    obtain ⟨u105, hinv⟩ := hinv
    obtain ⟨u106, hinv⟩ := hinv
    obtain ⟨⟨hj, HR⟩, ha⟩ := hinv
    subst ha
    try dsimp only
    by_cases hlt : j < 2
    · go_upto_region 12 with (fail)
      refine wp_abs (fun wx => wx = (wr.alloc (.cells #[.int .i64 (j : Nat)] 3)).alloc (.cells #[.int .i64 0] 3)) rfl ?_
      intro wA hA
      have HA := Lib.hid hA
      have hAs : wA.heap.size = wr.heap.size + 2 := by rw [hA]; simp
      clear hA
      go_wp2_with fail
      refine (each_call s wA).mono ?_
      rintro e wB ⟨rfl, hB⟩
      rw [hAs]
      have hI := HR.out.enter s j
      rw [← HA.out, ← hB] at hI
      have hBs : wB.heap.size = wr.heap.size + 3 := by rw [hB]; simp [hAs]
      have HI := Lib.hid hI
      have HBS := Lib.hid hBs
      clear hI HA HR hAs hB hBs
      generalize hkb : wr.heap.size = kb at *
      go_wp2
      refine wp_range (gf := 128) (lb := #[.pointer (some ⟨kb + 2, 0, none⟩)]) (N := ev.length) (X := EvX s.data.toList) (T := fun _ _ => False) (C := fun b => b = kb + 2) rfl (enters_of Try.func128 (by kernel_rfl) rfl)
        (fun W hb _ => by have := each_gives s (kb + 2) W (HI.out.bs.below hb HI.out.bs.lt) HM.out; rw [HEV.out] at this; exact this) (fun b e => by rw [e]; exact HI.out.bs.lt) ?hX
        (fun k W => (j = 0 → early < 0 ∨ (k : Int) ≤ early) ∧ EvIn w s early A5 A6 c5 c6 q ev en ds kb (kb + 1) (kb + 2) (kb + 3) j k W) (fun c k W => c = .exit 2 ∧ j = 0 ∧ ((k : Int) - 1 = early) ∧ EvIn w s early A5 A6 c5 c6 q ev en ds kb (kb + 1) (kb + 2) (kb + 3) j (k - 1) W)
        (fun k A A' h hb => ⟨h.1, h.2.on (by rw [HBS.out] at hb; exact hb)⟩) (fun c k A A' h hb => ⟨h.1, h.2.1, h.2.2.1, h.2.2.2.on (by rw [HBS.out] at hb; exact hb)⟩) ⟨fun _ => by omega, HI.out⟩
        (fun k args a' W => ∃ pb hb : Nat, args = #[.agg #[.int .i64 ((evF ev k : Nat) : Int), .int .i64 ((posE ev en (k + 1) : Nat) : Int)], .agg #[.int .i32 (evP ev k).1, .bool (evP ev k).2.1, .int .i32 (evP ev k).2.2]] ∧ (j = 0 → early < 0 ∨ (k : Int) ≤ early) ∧ EvRd w s early A5 A6 c5 c6 q ev en ds kb (kb + 1) (kb + 2) (kb + 3) j k (evP ev k) (evF ev k) (posE ev en (k + 1)) pb hb W ∧ a' = { tmps := #[.string s, .int .i64 early, undef, .pointer (some ⟨w.heap.size, 0, none⟩), .pointer (some ⟨w.heap.size + 1, 0, none⟩), .slice A1 rd.1.length C1, .pointer (some ⟨x1, 0, none⟩), .slice A2 rd.1.length C2, .pointer (some ⟨x2, 0, none⟩), .pointer (some ⟨q, 0, none⟩), .pointer (some ⟨q + 1, 0, none⟩), .pointer (some ⟨q + 1 + 1, 0, none⟩), .pointer (some ⟨kb, 0, none⟩), .pointer (some ⟨kb + 1, 0, none⟩), .pointer (some ⟨pb, 0, none⟩), .pointer (some ⟨hb, 0, none⟩), undef, .bool true, .bool false, .tuple #[.slice A1 rd.1.length C1, .agg #[.int .i64 rd.2.1, .int .i64 rd.2.2]], .string s, .tuple #[.slice A1 rd.1.length C1, .agg #[.int .i64 rd.2.1, .int .i64 rd.2.2]], .slice A1 rd.1.length C1, .agg #[.int .i64 rd.2.1, .int .i64 rd.2.2], .tuple #[.slice A2 rd.1.length C2, .agg #[.int .i64 rd.2.1, .int .i64 rd.2.2]], .string s, .tuple #[.slice A2 rd.1.length C2, .agg #[.int .i64 rd.2.1, .int .i64 rd.2.2]], .slice A2 rd.1.length C2, .agg #[.int .i64 rd.2.1, .int .i64 rd.2.2], .tuple #[.slice A5 ev.length c5, .slice A6 ev.length c6, .int .i64 (en : Nat)], .string s, .tuple #[.slice A5 ev.length c5, .slice A6 ev.length c6, .int .i64 (en : Nat)], .slice A5 ev.length c5, .slice A6 ev.length c6, .int .i64 (en : Nat), .agg #[.int .i64 rd.2.1, .int .i64 rd.2.2], .agg #[.int .i64 rd.2.1, .int .i64 rd.2.2], .bool false, .bool false, .slice A1 rd.1.length C1, .slice A2 rd.1.length C2, .bool true, .bool false, .bool false, .int .i64 (j : Nat), .bool true, .int .i64 (j : Nat), .string s, .func (.func 128) #[] #[.pointer (some ⟨kb + 2, 0, none⟩)], .agg #[.int .i64 ((evF ev k : Nat) : Int), .int .i64 ((posE ev en (k + 1) : Nat) : Int)], .agg #[.int .i32 (evP ev k).1, .bool (evP ev k).2.1, .int .i32 (evP ev k).2.2], undef, undef, undef, undef, undef, undef, undef, undef, undef, undef, undef, undef, undef, undef, undef, undef, undef, undef, undef, undef, undef, undef, undef, undef, undef, undef, undef, undef, undef, undef, undef, undef, undef, undef, undef, undef, undef, undef, undef, undef, undef, undef, u93, u94, u95, u96, u97, u98, u99, u100, u101, u102, u103, u104, u105, u106, undef], defers := [] })
        ?hAx ?assign ?body ?done ?stop
      case hX =>
        rintro k args W h
        obtain ⟨hk, rfl⟩ := evx_at HEV.out h
        exact ⟨rfl, fun b h => h.elim⟩
      case hAx =>
        rintro k args a' A A' ⟨pb, hb, h1, h2, h4, h5⟩ ho _ _
        exact ⟨pb, hb, h1, h2, h4.stay (by rw [HBS.out] at ho; exact ho), h5⟩
      case assign =>
        rintro l k args W hk ⟨hbr, hI⟩ hx hsz
        obtain ⟨hkl, rfl⟩ := evx_at HEV.out hx
        have HJ := Lib.hid (And.intro hbr hI)
        clear hbr hI hx
        rw [HBS.out] at hsz
        simp only [List.zip_toArray, List.zip_cons_cons, List.zip_nil_right, List.foldl_toArray', List.foldl_cons, List.foldl_nil]
        gi_wp2
        refine ⟨((Only.refl _ _).alloc _).alloc _, W.heap.size, W.heap.size + 1, trivial, HJ.out.1, ⟨HJ.out.2.on (((Below.refl _ _).alloc (by omega) _).alloc (by simp; omega) _), (Blk.new _ _ _).alloc _, blk_new_eq (by simp), by omega, by omega⟩, rfl⟩
      case body =>
        rintro l k args a₁ W hk ⟨pb, hb, rfl, hbr, hR, rfl⟩ hsz
        have c3 : W.cell? ⟨w.heap.size, 0, none⟩ = some (.int .i64 early) := hR.st.st.be.cell 0
        have cj : W.cell? ⟨kb, 0, none⟩ = some (.int .i64 j) := hR.st.bj.cell 0
        have ci : W.cell? ⟨kb + 1, 0, none⟩ = some (.int .i64 k) := hR.st.bi.cell 0
        have fi : W.frozen? ⟨kb + 1, 0, none⟩ = false := hR.st.bi.frozen 0
        have c9 : W.cell? ⟨q, 0, none⟩ = some (.slice A5 ev.length c5) := hR.st.st.b9.cell 0
        have c10 : W.cell? ⟨q + 1, 0, none⟩ = some (.slice A6 ev.length c6) := hR.st.st.b10.cell 0
        have c11 : W.cell? ⟨q + 1 + 1, 0, none⟩ = some (.int .i64 (en : Nat)) := hR.st.st.b11.cell 0
        have s0 : W.cell? ⟨pb, 0, none⟩ = some (.int .i64 ((evF ev k : Nat) : Int)) := hR.bp.cell 0
        have s1 : W.cell? ⟨pb, 1, none⟩ = some (.int .i64 ((posE ev en (k + 1) : Nat) : Int)) := hR.bp.cell 1
        have p0 : W.cell? ⟨hb, 0, none⟩ = some (.int .i32 (evP ev k).1) := hR.bh.cell 0
        have p1 : W.cell? ⟨hb, 1, none⟩ = some (.bool (evP ev k).2.1) := hR.bh.cell 1
        have p2 : W.cell? ⟨hb, 2, none⟩ = some (.int .i32 (evP ev k).2.2) := hR.bh.cell 2
        obtain ⟨b5, o5, h5, e5, x0, x1, x2⟩ := rd_ev5 hR.st.st.r5 hk
        obtain ⟨b6, o6, e6, z6⟩ := rd_ev6 hR.st.st.r6 hk
        have y0 := z6 k hk
        subst e5 e6
        have HR := Lib.hid hR
        have HK3 := Lib.hid hbr
        clear hR hbr
        have wf : ∀ k, Fence.wide.fn k := fun _ => trivial
        have wd : Fence.wide.depth = none := rfl
        have hN : ev.length ≤ 1000000000 := by have := ev_many HEV.out; have h3 : s.size = s.data.toList.length := rfl; omega
        have hn : ((k : Int) + 1).toNat = k + 1 := by omega
        have i1 : (0 : Int) ≤ (k : Int) := by omega
        have i2 : (k : Int) < (ev.length : Int) := by omega
        have d1 : decide ((ev.length : Int) ≤ (k : Int)) = false := by simp; omega
        have d2 : decide (ev.length ≤ k) = false := by simp; omega
        have hjj : j = 0 ∨ j = 1 := by omega
        by_cases hst : j = 0 ∧ (k : Int) = early
        · have j0 : ((j : Int) == 0) = true := by rw [hst.1]; rfl
          have k0 : ((k : Int) == early) = true := by rw [hst.2]; simp
          have HS := Lib.hid hst
          clear hst
          gi_wp2
          exact ⟨Only.refl _ _, rfl, HS.out.1, by have := HS.out.2; omega, HR.out.st⟩
        · have g1 : (((j : Int) == 0) = true ∧ ((k : Int) == early) = false) ∨ ((j : Int) == 0) = false := by
            rcases hjj with h | h
            · left
              refine ⟨by rw [h]; rfl, ?_⟩
              have : (k : Int) ≠ early := fun e => hst ⟨h, e⟩
              simpa using this
            · right
              rw [h]; rfl
          have HS := Lib.hid hst
          have n1 : ∀ x : Int, (x != x) = false := fun x => by simp
          have n2 : ∀ x : Bool, (x != x) = false := fun x => by simp
          by_cases hk1 : k + 1 < ev.length
          · have m1 : decide ((k : Int) + 1 < (ev.length : Int)) = true := by simp; omega
            have m2 : (k : Int) + 1 < (ev.length : Int) := by omega
            have y1 := z6 (k + 1) hk1
            have i3 : (0 : Int) ≤ (k : Int) + 1 := by omega
            have hpos : posE ev en (k + 1) = evF ev (k + 1) := by rw [posE_lt hk1, (evP_lt hk1).2]
            rw [hpos] at s1
            clear hst z6
            rcases g1 with ⟨j0, k0⟩ | j0
            all_goals
              gi_wp2
              refine wpIn_quiet_round (by kernel_rfl) (by kernel_rfl) (by kernel_rfl) ?_
              repeat (gi_big_quiet_step (fail))
              refine wpQuietIn_nil ?_
              intro _ hw'
              obtain ⟨nq, hw''⟩ := hw'
              subst hw''
              gi_wp2
              have l2 := HR.out.st.li
              refine ⟨((Only.refl _ _).drewN _).setCell (.inl (.inl ⟨by rw [HBS.out]; exact l2.2, by simp⟩)) _, fun hj => ?_, (HR.out.st.on (Below.drewNB (Below.refl _ _) _)).set (k + 1)⟩
              have h1 := HK3.out hj
              have h2 : (k : Int) ≠ early := fun e => HS.out ⟨hj, e⟩
              omega
          · have m1 : decide ((k : Int) + 1 < (ev.length : Int)) = false := by simp; omega
            have m2 : ¬ ((k : Int) + 1 < (ev.length : Int)) := by omega
            have hpos : posE ev en (k + 1) = en := posE_ge (by omega)
            rw [hpos] at s1
            clear hst z6
            rcases g1 with ⟨j0, k0⟩ | j0
            all_goals
              gi_wp2
              refine wpIn_quiet_round (by kernel_rfl) (by kernel_rfl) (by kernel_rfl) ?_
              repeat (gi_big_quiet_step (fail))
              refine wpQuietIn_nil ?_
              intro _ hw'
              obtain ⟨nq, hw''⟩ := hw'
              subst hw''
              gi_wp2
              have l2 := HR.out.st.li
              refine ⟨((Only.refl _ _).drewN _).setCell (.inl (.inl ⟨by rw [HBS.out]; exact l2.2, by simp⟩)) _, fun hj => ?_, (HR.out.st.on (Below.drewNB (Below.refl _ _) _)).set (k + 1)⟩
              have h1 := HK3.out hj
              have h2 : (k : Int) ≠ early := fun e => HS.out ⟨hj, e⟩
              omega
      case done =>
        rintro W ⟨_, hI⟩ hmk
        have hL := hI.leave (by rw [HBS.out] at hmk; exact hmk)
        have ci : W.cell? ⟨kb + 1, 0, none⟩ = some (.int .i64 ev.length) := hI.bi.cell 0
        have c9 : W.cell? ⟨q, 0, none⟩ = some (.slice A5 ev.length c5) := hI.st.b9.cell 0
        have HW := Lib.hid hL
        have HBB := Lib.hid HBS.out
        clear hI hmk hL
        have n1 : ((ev.length : Int) != (ev.length : Int)) = false := by simp
        rw [HBB.out]
        go_wp2
        refine ⟨⟨{ target := .collected (kb + 3), args := #[] } :: ds, j + 1, ?_⟩, ?_⟩
        · (repeat apply Exists.intro)
          exact ⟨⟨by omega, HW⟩, rfl⟩
        · simp [intOf]; omega
      case stop =>
        rintro c k W hk0 hkN ⟨rfl, hj0, hke, hI⟩ hmk
        have hL := hI.leave (by rw [HBS.out] at hmk; exact hmk)
        have ci : W.cell? ⟨kb + 1, 0, none⟩ = some (.int .i64 ((k - 1 : Nat) : Int)) := hI.bi.cell 0
        have cj : W.cell? ⟨kb, 0, none⟩ = some (.int .i64 j) := hI.bj.cell 0
        have ce : W.cell? ⟨w.heap.size, 0, none⟩ = some (.int .i64 early) := hI.st.be.cell 0
        have c9 : W.cell? ⟨q, 0, none⟩ = some (.slice A5 ev.length c5) := hI.st.b9.cell 0
        have HW := Lib.hid hL
        have HBB := Lib.hid HBS.out
        clear hI hmk hL
        have n1 : (((k - 1 : Nat) : Int) != (ev.length : Int)) = true := by simp; omega
        have n2 : ((j : Int) == 1) = false := by rw [hj0]; rfl
        have n3 : (((k - 1 : Nat) : Int) != early) = false := by
          have : ((k - 1 : Nat) : Int) = early := by omega
          rw [this]; simp
        generalize k - 1 = k' at *
        clear hke hk0 hkN hj0
        rw [HBB.out]
        go_wp2
        refine ⟨⟨{ target := .collected (kb + 3), args := #[] } :: ds, j + 1, ?_⟩, ?_⟩
        · (repeat apply Exists.intro)
          exact ⟨⟨by omega, HW⟩, rfl⟩
        · simp [intOf]; omega
    · obtain rfl : j = 2 := by omega
      clear hlt hj
      go_wp2_with fail
      refine (works_any wr).mono ?_
      rintro e vz ⟨rfl, hb⟩
      have HZ := Lib.hid (HR.out.on hb)
      clear hb HR
      have r0 : vz.cell? ⟨w.heap.size + 1, 0, none⟩ = some (.bool false) := HZ.out.br.cell 0
      have r1 : vz.frozen? ⟨w.heap.size + 1, 0, none⟩ = false := HZ.out.br.frozen 0
      go_wp2
      refine bodyPostM_ret (HZ.out.mar.setCell HZ.out.br 0 (.bool true)) ?_
      exact ev_fin HZ.out _ rfl
end Go.Proofs.Ytogofchpocoebaa
