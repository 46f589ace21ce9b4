/- The law PhoneBack, walked. -/
import Derived.Test.YtogofchpocoebaaS11
import Derived.Test.YtogofchpocoebaaRound2
import Derived.Deep.DeepCutAuto
namespace Go.Proofs.Ytogofchpocoebaa
open Go.RowKit Go.Maps
attribute [local go_sem] Oper.semAt_some

theorem back_cases {l : List UInt8} {ev : List (Ph × Nat)} {en : Nat} (hev : evL l = (ev, en)) : ((readL l).1 = [] ∧ (readL l).2.1 ≠ 0) ∨ ((readL l) = (fsts ev, 0, 0) ∧ en = l.length ∧ (fsts ev).all isF = true ∧ ev.length ≤ 128 ∧ texts (fsts ev) = l) := by
  by_cases h : (readL l).2.1 = 0
  · right
    have h2 : readL l = ((readL l).1, 0, (readL l).2.2) := by rw [← h]
    obtain ⟨b1, b2, b3, b4, b5⟩ := read_back h2
    rw [hev] at b4 b5
    have hf : fsts ev = (readL l).1 := b4.symm
    rw [← hf] at b1 b2 b3
    refine ⟨?_, b5, b1, by rwa [fsts_len] at b2, b3⟩
    have h3 := read_ev l
    rw [hev] at h3
    unfold rdAll at h3
    rw [fsts_len] at b2
    rw [if_neg (by simpa using b2), if_neg (by simp only at b5 ⊢; omega), List.nil_append] at h3
    exact h3
  · left
    refine ⟨?_, h⟩
    rw [read_ev] at h ⊢
    unfold rdAll at h ⊢
    split
    · rfl
    · rename_i h1
      rw [if_neg h1] at h
      split
      · rfl
      · rename_i h4
        rw [if_neg h4] at h
        exact absurd rfl h

theorem fitP_isF {p : Ph} (h : isF p = true) : fitP p := by
  obtain ⟨h1, h2⟩ := isF_tab h
  have := tab_small h1
  unfold fitP fit32
  omega
/-- memory while the law runs ahead of the range -/
structure BkSt (w0 : World) (s : ByteArray) (q : Nat) (t : ByteArray) (x : Int) (W : World) : Prop where
  bs : Blk W w0.heap.size 9 #[.string s]
  br : Blk W (w0.heap.size + 1) 4 #[.bool false]
  b5 : Blk W q 9 #[.string t]
  b6 : Blk W (q + 1) 27 #[.int .i64 x]
  below : Below w0.heap.size w0 W
  lq : w0.heap.size + 2 ≤ q
theorem BkSt.on {w0 : World} {s : ByteArray} {q : Nat} {t : ByteArray} {x : Int} {W W' : World} (h : BkSt w0 s q t x W) (hb : Below W.heap.size W W') : BkSt w0 s q t x W' :=
  ⟨h.bs.below hb h.bs.lt, h.br.below hb h.br.lt, h.b5.below hb h.b5.lt, h.b6.below hb h.b6.lt, h.below.trans (hb.mono h.below.size), h.lq⟩
theorem BkSt.set {w0 : World} {s : ByteArray} {q : Nat} {t : ByteArray} {x : Int} {W : World} (h : BkSt w0 s q t x W) (t' : ByteArray) (x' : Int) : BkSt w0 s q t' x' ((W.setCell ⟨q, 0, none⟩ (.string t')).setCell ⟨q + 1, 0, none⟩ (.int .i64 x')) := by
  have l := h.lq
  exact ⟨(h.bs.far (by simp; omega) _).far (by simp; omega) _, (h.br.far (by simp; omega) _).far (by simp; omega) _, by simpa using (h.b5.set_ 0 (.string t')).far (p := ⟨q + 1, 0, none⟩) (by simp) _, by simpa using (h.b6.far (p := ⟨q, 0, none⟩) (by simp) _).set_ 0 (.int .i64 x'), (h.below.setCell (by simp; omega) _).setCell (by simp; omega) _, l⟩

/-- memory ahead of the range and behind it: what was read, and its errno -/
structure BkRd (w0 : World) (s : ByteArray) (q r : Nat) (A9 : Option Addr) (c9 : Nat) (R : List Ph) (x1 x2 : Int) (t : ByteArray) (x : Int) (W : World) : Prop where
  st : BkSt w0 s q t x W
  b9 : Blk W r 22 #[.slice A9 R.length c9]
  b10 : Blk W (r + 1) 68 #[.int .i64 x1, .int .i64 x2]
  r9 : Rd W (q + 2) r 3 A9 R.length (phs R)
  lr : q + 2 ≤ r
theorem BkRd.on {w0 : World} {s : ByteArray} {q r : Nat} {A9 : Option Addr} {c9 : Nat} {R : List Ph} {x1 x2 : Int} {t : ByteArray} {x : Int} {W W' : World} (h : BkRd w0 s q r A9 c9 R x1 x2 t x W) (hb : Below W.heap.size W W') : BkRd w0 s q r A9 c9 R x1 x2 t x W' :=
  ⟨h.st.on hb, h.b9.below hb h.b9.lt, h.b10.below hb h.b10.lt, h.r9.below hb (Nat.le_of_lt h.b9.lt), h.lr⟩
theorem BkRd.set {w0 : World} {s : ByteArray} {q r : Nat} {A9 : Option Addr} {c9 : Nat} {R : List Ph} {x1 x2 : Int} {t : ByteArray} {x : Int} {W : World} (h : BkRd w0 s q r A9 c9 R x1 x2 t x W) (t' : ByteArray) (x' : Int) : BkRd w0 s q r A9 c9 R x1 x2 t' x' ((W.setCell ⟨q, 0, none⟩ (.string t')).setCell ⟨q + 1, 0, none⟩ (.int .i64 x')) := by
  have l := h.lr
  refine ⟨h.st.set t' x', (h.b9.far (by simp; omega) _).far (by simp; omega) _, (h.b10.far (by simp; omega) _).far (by simp; omega) _, h.r9.keep (fun b o hL _ => ?_), l⟩
  rw [World.cell?_of_block (w := W.setCell ⟨q, 0, none⟩ (.string t')) (Below.heap_setCell _ _ _ _ (by simp; omega)), World.cell?_of_block (w := W) (Below.heap_setCell _ _ _ _ (by simp; omega))]


/-- memory between two rounds: the place, the count, what Each has captured -/
structure BkIn (w0 : World) (s : ByteArray) (q r : Nat) (A9 : Option Addr) (c9 : Nat) (R : List Ph) (x1 x2 : Int) (kb : Nat) (t : ByteArray) (x : Int) (at_ k : Nat) (W : World) : Prop where
  st : BkRd w0 s q r A9 c9 R x1 x2 t x W
  ba : Blk W kb 3 #[.int .i64 at_]
  bk : Blk W (kb + 1) 3 #[.int .i64 k]
  sb : Blk W (kb + 2) 9 #[.string s]
  lk : r + 2 ≤ kb
theorem BkRd.stay {S : Nat → Prop} {w0 : World} {s : ByteArray} {q r B : Nat} {A9 : Option Addr} {c9 : Nat} {R : List Ph} {x1 x2 : Int} {t : ByteArray} {x : Int} {W W' : World} (h : BkRd w0 s q r A9 c9 R x1 x2 t x W) (ho : Only S W W') (hS : ∀ b, S b → B ≤ b) (hB : r + 2 ≤ B) : BkRd w0 s q r A9 c9 R x1 x2 t x W' := by
  have l0 := h.st.lq
  have l1 := h.lr
  have l2 := h.b9.lt
  refine ⟨⟨h.st.bs.only ho (fun hs => ?_), h.st.br.only ho (fun hs => ?_), h.st.b5.only ho (fun hs => ?_), h.st.b6.only ho (fun hs => ?_), h.st.below.trans (ho.below h.st.below.size (fun b hb hs => ?_)), l0⟩, h.b9.only ho (fun hs => ?_), h.b10.only ho (fun hs => ?_), h.r9.keep (fun b o _ hb => ho.cell (by omega) (fun hs => ?_)), l1⟩
  all_goals have := hS _ hs; omega
section
variable {w0 : World} {s : ByteArray} {q r kb at_ k : Nat} {A9 : Option Addr} {c9 : Nat} {R : List Ph} {x1 x2 : Int} {t : ByteArray} {x : Int} {W W' : World}
theorem BkIn.stay {S : Nat → Prop} (h : BkIn w0 s q r A9 c9 R x1 x2 kb t x at_ k W) (ho : Only S W W') (hS : ∀ b, S b → kb + 3 ≤ b) : BkIn w0 s q r A9 c9 R x1 x2 kb t x at_ k W' := by
  have l := h.lk
  refine ⟨h.st.stay ho hS (by omega), h.ba.only ho (fun hs => ?_), h.bk.only ho (fun hs => ?_), h.sb.only ho (fun hs => ?_), l⟩
  all_goals have := hS _ hs; omega
theorem BkIn.on (h : BkIn w0 s q r A9 c9 R x1 x2 kb t x at_ k W) (hb : Below (kb + 3) W W') : BkIn w0 s q r A9 c9 R x1 x2 kb t x at_ k W' :=
  h.stay (S := fun b => kb + 3 ≤ b) ⟨hb.os, hb.tape, hb.output, hb.size, fun j _ hs => hb.block j (by omega)⟩ (fun _ hs => hs)
theorem BkIn.text (h : BkIn w0 s q r A9 c9 R x1 x2 kb t x at_ k W) (t' : ByteArray) (x' : Int) : BkIn w0 s q r A9 c9 R x1 x2 kb t' x' at_ k ((W.setCell ⟨q, 0, none⟩ (.string t')).setCell ⟨q + 1, 0, none⟩ (.int .i64 x')) := by
  have l := h.lk
  have l1 := h.st.lr
  exact ⟨h.st.set t' x', (h.ba.far (by simp; omega) _).far (by simp; omega) _, (h.bk.far (by simp; omega) _).far (by simp; omega) _, (h.sb.far (by simp; omega) _).far (by simp; omega) _, l⟩
theorem BkIn.step (h : BkIn w0 s q r A9 c9 R x1 x2 kb t x at_ k W) (a' k' : Nat) : BkIn w0 s q r A9 c9 R x1 x2 kb t x a' k' ((W.setCell ⟨kb, 0, none⟩ (.int .i64 a')).setCell ⟨kb + 1, 0, none⟩ (.int .i64 k')) := by
  have l := h.lk
  have l1 := h.st.lr
  have l0 := h.st.st.lq
  have hs := h.st
  refine ⟨⟨⟨(hs.st.bs.far (by simp; omega) _).far (by simp; omega) _, (hs.st.br.far (by simp; omega) _).far (by simp; omega) _, (hs.st.b5.far (by simp; omega) _).far (by simp; omega) _, (hs.st.b6.far (by simp; omega) _).far (by simp; omega) _, (hs.st.below.setCell (by simp; omega) _).setCell (by simp; omega) _, l0⟩, (hs.b9.far (by simp; omega) _).far (by simp; omega) _, (hs.b10.far (by simp; omega) _).far (by simp; omega) _, hs.r9.keep (fun b o _ hb => ?_), l1⟩,
    by simpa using (h.ba.set_ 0 (.int .i64 a')).far (p := ⟨kb + 1, 0, none⟩) (by simp) _, by simpa using (h.bk.far (p := ⟨kb, 0, none⟩) (by simp) _).set_ 0 (.int .i64 k'), (h.sb.far (by simp) _).far (by simp) _, l⟩
  rw [World.cell?_of_block (w := W.setCell ⟨kb, 0, none⟩ (.int .i64 a')) (Below.heap_setCell _ _ _ _ (by simp; omega)), World.cell?_of_block (w := W) (Below.heap_setCell _ _ _ _ (by simp; omega))]
end
theorem BkRd.enter {w0 : World} {s : ByteArray} {q r : Nat} {A9 : Option Addr} {c9 : Nat} {R : List Ph} {x1 x2 : Int} {t : ByteArray} {x : Int} {W : World} (h : BkRd w0 s q r A9 c9 R x1 x2 t x W) :
    BkIn w0 s q r A9 c9 R x1 x2 W.heap.size t x 0 0 (((W.alloc (.cells #[.int .i64 0] 3)).alloc (.cells #[.int .i64 0] 3)).alloc (.cells #[.string s] 9)) := by
  have hb : Below W.heap.size W (((W.alloc (.cells #[.int .i64 0] 3)).alloc (.cells #[.int .i64 0] 3)).alloc (.cells #[.string s] 9)) := (((Below.refl _ W).alloc (Nat.le_refl _) _).alloc (by simp) _).alloc (by simp; omega) _
  have l := h.b10.lt
  exact ⟨h.on hb, ((Blk.new _ _ _).alloc _).alloc _, (blk_new_eq (by simp)).alloc _, blk_new_eq (by simp), by omega⟩
/-- memory in a round -/
structure BkRo (w0 : World) (s : ByteArray) (q r : Nat) (A9 : Option Addr) (c9 : Nat) (R : List Ph) (x1 x2 : Int) (kb : Nat) (t : ByteArray) (x : Int) (at_ k : Nat) (p : Ph) (u v pb hb : Nat) (W : World) : Prop where
  st : BkIn w0 s q r A9 c9 R x1 x2 kb t x at_ k W
  bp : Blk W pb 78 #[.int .i64 u, .int .i64 v]
  bh : Blk W hb 43 #[.int .i32 p.1, .bool p.2.1, .int .i32 p.2.2]
  lp : kb + 5 ≤ pb
  lh : kb + 5 ≤ hb
theorem ev_chainE {l : List UInt8} {ev : List (Ph × Nat)} {en : Nat} (h : evL l = (ev, en)) : Chain l ev 0 en := by
  have := ev_chain l (l.length + 1) 0
  have h3 : evGo l (l.length + 1) 0 = (ev, en) := h
  rw [h3] at this
  exact this

theorem back_text {s : ByteArray} {ev : List (Ph × Nat)} {en k : Nat} (hev : evL s.data.toList = (ev, en)) (hk : k < ev.length) :
    isF (evP ev k) = true ∧ s.extract (evF ev k) (posE ev en (k + 1)) = bts (textP (evP ev k)) ∧ evF ev k < posE ev en (k + 1) ∧ posE ev en (k + 1) ≤ s.data.toList.length := by
  have h1 := ev_text s.data.toList (k := k) (by rw [hev]; exact hk)
  have h2 := ev_pos_le s.data.toList (k + 1)
  simp only [hev] at h1 h2
  rw [← (evP_lt hk).1, ← (evP_lt hk).2] at h1
  refine ⟨h1.1, ?_, h1.2.2, h2⟩
  rw [← h1.2.1]
  apply ByteArray.ext
  rw [ByteArray.data_extract]
  apply Array.ext'
  simp [bts]

theorem rd_one (W : World) (p : Ph) : Rd (W.alloc (.cells #[.int .i32 p.1, .bool p.2.1, .int .i32 p.2.2] 43)) W.heap.size (W.alloc (.cells #[.int .i32 p.1, .bool p.2.1, .int .i32 p.2.2] 43)).heap.size 3 (some ⟨W.heap.size, 0, none⟩) 1 (phs [p]) := by
  have h := (rd_new W 43 #[.int .i32 p.1, .bool p.2.1, .int .i32 p.2.2] 3 rfl).more (Nat.le_refl _) (show W.heap.size + 1 ≤ (W.alloc (.cells #[.int .i32 p.1, .bool p.2.1, .int .i32 p.2.2] 43)).heap.size by simp)
  exact h
theorem pr_one {p : Ph} (h : isF p = true) : prS [p] = bts (textP p) ∧ prE [p] = 0 := by
  have he : prE [p] = 0 := by unfold prE; rw [if_neg (by simp)]; simp [h]
  exact ⟨by unfold prS; rw [if_pos he]; simp [texts], he⟩

theorem bk_end {w0 : World} {w : World} (h : Blk w (w0.heap.size + 1) 4 #[.bool false]) (hbl : Below w0.heap.size w0 w) (tmps : Array Value) (ht : tmps[4]? = some (.pointer (some ⟨w0.heap.size + 1, 0, none⟩))) : ∀ w', Below (w0.heap.size + 2) (w.setCell ⟨w0.heap.size + 1, 0, none⟩ (.bool true)) w' →
    ∃ v, (results Try.f8 tmps).run Try.prog w' = .ok v w' ∧ (fun e w' => e = Ending.returned (.bool true) ∧ Below w0.heap.size w0 w') (.returned v) w' := by
  intro w' hb
  have g : w'.cell? ⟨w0.heap.size + 1, 0, none⟩ = some (.bool true) := by
    have := ((h.set_ 0 (.bool true)).below hb (by omega)).cell 0
    simpa using this
  refine ⟨.bool true, ?_, rfl, (hbl.setCell (by simp) _).trans (hb.mono (by omega))⟩
  simp [results, Try.results8, go_sem, g, ht]

set_option maxHeartbeats 8000000 in
set_option maxRecDepth 100000 in
theorem phoneBack_err (s : ByteArray) (A : Option Addr) (n c : Nat) (l : List Ph) (w : World) (hs : s.size ≤ maxLen) (h : Rd w 0 w.heap.size 3 A n (phs l)) (hf : ∀ p ∈ l, fitP p) (hn : n * 12 ≤ 140737488351232) {ev : List (Ph × Nat)} {en : Nat} (hev : evL s.data.toList = (ev, en)) {R : List Ph} {x1 x2 : Int} (hrd : readL s.data.toList = (R, x1, x2)) (hR : R = []) (hx : x1 ≠ 0) : Calls Try.prog 8 #[.string s, .slice A n c] w fun e w' => e = .returned (.bool true) ∧ Below w.heap.size w w' := by
  have HRR := Lib.hid (And.intro hR hx)
  clear hR
  have HA := Lib.hid (And.intro h (And.intro hf (And.intro h.len_ph (show n ≤ maxLen by unfold maxLen; omega))))
  clear h hf
  refine calls_of_wp_marks Try.func8 rfl ?_
  simp only [Try.ntmps8, List.size_toArray, List.length_cons, List.length_nil, Nat.reduceAdd, Nat.reduceSub, Array.replicate_succ, Array.replicate_zero, List.push_toArray, List.append_toArray, List.nil_append, List.cons_append]
  go_upto_region 1 with (fail)
  refine wp_abs (fun wx => Blk wx w.heap.size 9 #[.string s] ∧ Blk wx (w.heap.size + 1) 4 #[.bool false] ∧ Below w.heap.size w wx) ⟨(Blk.new _ _ _).alloc _, blk_new_eq (by simp), ((Below.refl _ _).alloc (Nat.le_refl _) _).alloc (by simp) _⟩ ?_
  rintro w1 ⟨b0, b1, hb⟩
  have H1 := Lib.hid (And.intro b0 (And.intro b1 hb))
  clear b0 b1 hb
  go_wp2_with fail
  refine (works_any w1).mono ?_
  rintro e w2 ⟨rfl, hb⟩
  have H2 := Lib.hid (And.intro (H1.out.1.below hb H1.out.1.lt) (And.intro (H1.out.2.1.below hb H1.out.2.1.lt) (H1.out.2.2.trans (hb.mono H1.out.2.2.size))))
  clear hb H1
  go_wp2_with fail
  refine (print_any A n c 0 l w2 (HA.out.1.up H2.out.2.2 H2.out.2.2.size) HA.out.2.1 HA.out.2.2.2).mono ?_
  rintro e w3 ⟨rfl, hb⟩
  have H3 := Lib.hid (And.intro (H2.out.1.below hb H2.out.1.lt) (And.intro (H2.out.2.1.below hb H2.out.2.1.lt) (And.intro (H2.out.2.2.trans (hb.mono H2.out.2.2.size)) H2.out.2.1.lt)))
  have hl3 := hb.size
  have HL3 := Lib.hid hl3
  clear hb H2 hl3
  go_upto_region 4 with (fail)
  generalize hTS : prS l = tS at *
  generalize hTE : prE l = tE at *
  have HT := Lib.hid (And.intro hTS hTE)
  clear hTS hTE
  refine wp_abs (BkSt w s w3.heap.size tS tE) ?f4 ?_
  case f4 =>
    have hb : Below w3.heap.size w3 ((w3.alloc (.cells #[.string tS] 9)).alloc (.cells #[.int .i64 tE] 27)) := ((Below.refl _ _).alloc (Nat.le_refl _) _).alloc (by simp) _
    exact ⟨H3.out.1.below hb H3.out.1.lt, H3.out.2.1.below hb H3.out.2.1.lt, (Blk.new _ _ _).alloc _, blk_new_eq (by simp), H3.out.2.2.1.trans (hb.mono H3.out.2.2.1.size), by have := H3.out.2.2.2; have := HL3.out; omega⟩
  generalize w3.heap.size = q
  clear H3 HL3
  intro w4 hS
  have H4 := Lib.hid hS
  have c6 : w4.cell? ⟨q + 1, 0, none⟩ = some (.int .i64 tE) := hS.b6.cell 0
  clear hS
  go_upto_if 23 with (fail)
  go_cut [7, 8] from 23 to 37 (fun _ _ wx => Hid (BkSt w s q tS tE wx))
  case first =>
    cases hE : (tE == 0) with
    | true =>
      have he : tE = 0 := by simpa using hE
      have c5 : w4.cell? ⟨q, 0, none⟩ = some (.string tS) := H4.out.b5.cell 0
      have hl : l.length ≤ 128 ∧ l.all isF = true := by
        have h2 := HT.out.2
        rw [he] at h2
        unfold prE at h2
        split at h2
        · cases h2
        · split at h2
          · exact ⟨by omega, by assumption⟩
          · cases h2
      have hts : tS = bts (texts l) := by rw [← HT.out.1]; unfold prS; rw [if_pos (HT.out.2.trans he)]
      have hrd : readL tS.data.toList = (l, 0, 0) := by rw [hts]; exact read_texts hl.2 hl.1
      have HB := Lib.hid (And.intro hl (And.intro hts hrd))
      clear hl hts hrd he hE
      go_wp2_with fail
      refine (read_any tS _ ?_).mono ?_
      · rw [HB.out.2.1, bts_size]
        have := texts_len l HB.out.1.2
        have := HB.out.1.1
        unfold maxLen; omega
      rintro e w5 ⟨v5, rfl, ho, hb⟩
      rw [HB.out.2.2] at ho ⊢
      obtain ⟨A5, C5, rfl⟩ := own_slice ho
      have H5 := Lib.hid (And.intro (H4.out.on hb) (And.intro (own_rd ho) (HA.out.1.up (H4.out.below.trans (hb.mono H4.out.below.size)) (Nat.le_trans H4.out.below.size hb.size))))
      clear ho hb c5 c6
      go_upto_region 6 with (fail)
      refine wp_abs (fun wx => BkSt w s q tS tE wx ∧ Rd wx 0 wx.heap.size 3 A5 l.length (phs l) ∧ Rd wx 0 wx.heap.size 3 A n (phs l) ∧ Blk wx w5.heap.size 68 #[.int .i64 0, .int .i64 0]) ?f6 ?_
      case f6 =>
        have hb : Below w5.heap.size w5 (w5.alloc (.cells #[.int .i64 0, .int .i64 0] 68)) := (Below.refl _ _).alloc (Nat.le_refl _) _
        exact ⟨H5.out.1.on hb, (H5.out.2.1.up hb hb.size).more (Nat.zero_le _) (Nat.le_refl _), (H5.out.2.2.up hb hb.size).more (Nat.zero_le _) (Nat.le_refl _), Blk.new _ _ _⟩
      generalize w5.heap.size = xb
      clear H5
      rintro w6 ⟨hS, r1, r2, bx⟩
      have x0 : w6.cell? ⟨xb, 0, none⟩ = some (.int .i64 0) := bx.cell 0
      have x1 : w6.cell? ⟨xb, 1, none⟩ = some (.int .i64 0) := bx.cell 1
      have H6 := Lib.hid (And.intro hS (And.intro r1 r2))
      have HLL := Lib.hid (show l.length ≤ maxLen by have := HB.out.1.1; unfold maxLen; omega)
      clear hS r1 r2 bx
      go_wp2_with fail
      refine (equalH_any A5 A l.length C5 n c _ _ _ _ l l w6 H6.out.2.1 H6.out.2.2 HLL.out HA.out.2.2.2 (Nat.le_refl _) (Nat.le_refl _)).mono ?_
      rw [decide_eq_true (rfl : l = l)]
      rintro e w7 ⟨rfl, hb⟩
      have H7 := Lib.hid (H6.out.1.on hb)
      clear hb H6 x0 x1
      go_wp2_with fail
      go_meet
      exact H7
    | false =>
      clear hE
      go_wp2_with fail
      go_meet
      exact H4
  case rest =>
    clear H4 c6
    have H5 := Lib.hid hcut.out
    clear hcut
    generalize wc = w5 at *
    have c2 : w5.cell? ⟨w.heap.size, 0, none⟩ = some (.string s) := H5.out.bs.cell 0
    go_wp2_with fail
    refine (read_any s _ hs).mono ?_
    rintro e w6 ⟨v9, rfl, ho, hb⟩
    obtain ⟨A9, c9, rfl⟩ := own_slice ho
    have H6 := Lib.hid (And.intro (H5.out.on hb) (And.intro (own_rd ho) (And.intro hb.size H5.out.b6.lt)))
    clear ho hb c2 H5
    rw [hrd] at H6 ⊢
    dsimp only at H6 ⊢
    clear hrd
    go_upto_region 9 with (fail)
    refine wp_abs (BkRd w s q w6.heap.size A9 c9 R x1 x2 tS tE) ?f9 ?_
    case f9 =>
      have hb : Below w6.heap.size w6 ((w6.alloc (.cells #[.slice A9 R.length c9] 22)).alloc (.cells #[.int .i64 x1, .int .i64 x2] 68)) := ((Below.refl _ _).alloc (Nat.le_refl _) _).alloc (by simp) _
      exact ⟨H6.out.1.on hb, (Blk.new _ _ _).alloc _, blk_new_eq (by simp), (H6.out.2.1.below hb (Nat.le_refl _)).more (by have := H6.out.2.2.2; omega) (Nat.le_refl _), by have := H6.out.2.2.2; have := H6.out.2.2.1; omega⟩
    generalize w6.heap.size = r
    clear H6
    intro w7 hS
    have H7 := Lib.hid hS
    have z0 : w7.cell? ⟨r + 1, 0, none⟩ = some (.int .i64 x1) := hS.b10.cell 0
    have z1 : w7.cell? ⟨r + 1, 1, none⟩ = some (.int .i64 x2) := hS.b10.cell 1
    clear hS
    have e1 : (x1 == 0) = false := by simpa using hx
    go_upto_region 13 with (fail)
    have H8 := Lib.hid (show ∃ t x, BkRd w s q r A9 c9 R x1 x2 t x w7 from ⟨_, _, H7.out⟩)
    generalize w7 = w8 at *
    obtain ⟨tx, ty, h8⟩ := H8.out
    have H9 := Lib.hid h8
    clear h8 H8
    go_upto_region 15 with (fail)
    refine wp_abs (fun wx => wx = (w8.alloc (.cells #[.int .i64 0] 3)).alloc (.cells #[.int .i64 0] 3)) rfl ?_
    intro wA hA
    have HA1 := Lib.hid hA
    have hAs : wA.heap.size = w8.heap.size + 2 := by rw [hA]; simp
    have hAb : Below w8.heap.size w8 wA := by rw [hA]; exact ((Below.refl _ _).alloc (Nat.le_refl _) _).alloc (by simp) _
    have d2 : wA.cell? ⟨w.heap.size, 0, none⟩ = some (.string s) := (H9.out.on hAb).st.bs.cell 0
    clear hA hAb
    go_wp2_with fail
    refine (each_call s wA).mono ?_
    rintro e wB ⟨rfl, hB⟩
    rw [hAs]
    have hI := H9.out.enter
    rw [← HA1.out, ← hB] at hI
    have hBs : wB.heap.size = w8.heap.size + 3 := by rw [hB]; simp [hAs]
    have HI := Lib.hid hI
    have HBS := Lib.hid hBs
    clear hI HA1 H9 hAs hB hBs d2
    generalize hkb : w8.heap.size = kb at *
    go_wp2
    refine wp_range (gf := 128) (lb := #[.pointer (some ⟨kb + 2, 0, none⟩)]) (N := ev.length) (X := EvX s.data.toList) (T := fun _ _ => False) (C := fun b => b = kb + 2) rfl (enters_of Try.func128 (by kernel_rfl) rfl)
      (fun W hb _ => by have := each_gives s (kb + 2) W (HI.out.sb.below hb HI.out.sb.lt) hs; rw [hev] at this; exact this) (fun b e => by rw [e]; exact HI.out.sb.lt) ?hX
      (fun k W => ∃ tx ty, BkIn w s q r A9 c9 R x1 x2 kb tx ty (posE ev en k) k W) (fun _ _ _ => False)
      (fun k A A' h hb => by obtain ⟨tx, ty, h⟩ := h; exact ⟨tx, ty, h.on (by rw [HBS.out] at hb; exact hb)⟩) (fun _ _ _ _ h _ => h) ⟨tx, ty, by rw [(ev_chainE hev).first]; exact HI.out⟩
      (fun k args a' W => ∃ (tx : ByteArray) (ty : Int) (pb hb : Nat), args = #[.agg #[.int .i64 ((evF ev k : Nat) : Int), .int .i64 ((posE ev en (k + 1) : Nat) : Int)], .agg #[.int .i32 (evP ev k).1, .bool (evP ev k).2.1, .int .i32 (evP ev k).2.2]] ∧ k < ev.length ∧ BkRo w s q r A9 c9 R x1 x2 kb tx ty (posE ev en k) k (evP ev k) (evF ev k) (posE ev en (k + 1)) pb hb W ∧ a' = { tmps := #[.string s, .slice A n c, .pointer (some ⟨w.heap.size, 0, none⟩), undef, .pointer (some ⟨w.heap.size + 1, 0, none⟩), .pointer (some ⟨q, 0, none⟩), .pointer (some ⟨q + 1, 0, none⟩), u7, u8, .pointer (some ⟨r, 0, none⟩), .pointer (some ⟨r + 1, 0, none⟩), .pointer (some ⟨kb, 0, none⟩), .pointer (some ⟨kb + 1, 0, none⟩), .pointer (some ⟨pb, 0, none⟩), .pointer (some ⟨hb, 0, none⟩), .bool true, .bool false, .tuple #[.string tS, .int .i64 tE], .slice A n c, .tuple #[.string tS, .int .i64 tE], .string tS, .int .i64 tE, .int .i64 tE, u23, u24, u25, u26, u27, u28, u29, u30, u31, u32, u33, u34, u35, u36, u37, .tuple #[.slice A9 R.length c9, .agg #[.int .i64 x1, .int .i64 x2]], .string s, .tuple #[.slice A9 R.length c9, .agg #[.int .i64 x1, .int .i64 x2]], .slice A9 R.length c9, .agg #[.int .i64 x1, .int .i64 x2], .agg #[.int .i64 x1, .int .i64 x2], .agg #[.int .i64 0, .int .i64 0], .bool false, undef, undef, undef, undef, undef, undef, undef, undef, undef, undef, undef, undef, .string s, .func (.func 128) #[] #[.pointer (some ⟨kb + 2, 0, none⟩)], .agg #[.int .i64 ((evF ev k : Nat) : Int), .int .i64 ((posE ev en (k + 1) : Nat) : Int)], .agg #[.int .i32 (evP ev k).1, .bool (evP ev k).2.1, .int .i32 (evP ev k).2.2], undef, undef, undef, undef, undef, undef, undef, undef, undef, undef, undef, undef, undef, undef, undef, undef, undef, undef, undef, undef, undef, undef, undef, undef, undef, undef, undef, undef, undef, undef, undef, undef, undef, undef, undef, undef, undef, undef, undef, undef, undef, undef, undef, undef, undef, undef, undef, undef, undef, undef, undef, undef, undef, undef, undef, undef, undef, undef, undef, undef, undef, undef, undef, undef, undef, undef, undef, undef, undef, undef, undef, undef, undef, undef, undef, undef], defers := [] })
      ?hX2 ?assign ?body ?done ?stop
    case hX =>
      rintro k args W h
      obtain ⟨hk, rfl⟩ := evx_at hev h
      exact ⟨rfl, fun b h => h.elim⟩
    case hX2 =>
      rintro k args a' A A' ⟨tx, ty, pb, hb, h1, h2, h4, h5⟩ ho _ _
      have h6 := h4.lp
      have h7 := h4.lh
      have hB := HBS.out
      exact ⟨tx, ty, pb, hb, h1, h2, ⟨h4.st.stay ho (fun b e => by omega), h4.bp.only ho (by omega), h4.bh.only ho (by omega), h6, h7⟩, h5⟩
    case assign =>
      rintro l0 k args W hk ⟨tx, ty, hI⟩ hx hsz
      obtain ⟨hkl, rfl⟩ := evx_at hev hx
      have HJ := Lib.hid hI
      clear hI hx
      rw [HBS.out] at hsz
      simp only [List.zip_toArray, List.zip_cons_cons, List.zip_nil_right, List.foldl_toArray', List.foldl_cons, List.foldl_nil]
      gi_wp2
      refine ⟨((Only.refl _ _).alloc _).alloc _, tx, ty, W.heap.size, W.heap.size + 1, trivial, hkl, ⟨HJ.out.on (((Below.refl _ _).alloc (by omega) _).alloc (by simp; omega) _), (Blk.new _ _ _).alloc _, blk_new_eq (by simp), by omega, by omega⟩, rfl⟩
    case body =>
      rintro l0 k args a₁ W hk ⟨tx, ty, pb, hb, rfl, hkl, hR, rfl⟩ hsz
      have hpk : posE ev en k = evF ev k := by rw [posE_lt hkl, (evP_lt hkl).2]
      rw [hpk] at hR
      have c2 : W.cell? ⟨w.heap.size, 0, none⟩ = some (.string s) := hR.st.st.st.bs.cell 0
      have ca : W.cell? ⟨kb, 0, none⟩ = some (.int .i64 ((evF ev k : Nat) : Int)) := hR.st.ba.cell 0
      have ck : W.cell? ⟨kb + 1, 0, none⟩ = some (.int .i64 k) := hR.st.bk.cell 0
      have c9' : W.cell? ⟨r, 0, none⟩ = some (.slice A9 R.length c9) := hR.st.st.b9.cell 0
      have s0 : W.cell? ⟨pb, 0, none⟩ = some (.int .i64 ((evF ev k : Nat) : Int)) := hR.bp.cell 0
      have s1 : W.cell? ⟨pb, 1, none⟩ = some (.int .i64 ((posE ev en (k + 1) : Nat) : Int)) := hR.bp.cell 1
      have p0 : W.cell? ⟨hb, 0, none⟩ = some (.int .i32 (evP ev k).1) := hR.bh.cell 0
      have p1 : W.cell? ⟨hb, 1, none⟩ = some (.bool (evP ev k).2.1) := hR.bh.cell 1
      have p2 : W.cell? ⟨hb, 2, none⟩ = some (.int .i32 (evP ev k).2.2) := hR.bh.cell 2
      have X2 := Bel.cell c2
      have Xa := Bel.cell ca
      have Xk := Bel.cell ck
      have X9 := Bel.cell c9'
      have Xs0 := Bel.cell s0
      have Xs1 := Bel.cell s1
      have Xp0 := Bel.cell p0
      have Xp1 := Bel.cell p1
      have Xp2 := Bel.cell p2
      have hT := back_text hev hkl
      have hsz2 : s.data.toList.length = s.size := rfl
      have HT2 := Lib.hid hT
      obtain ⟨t1, t2, t3, t4⟩ := hT
      have d1 : decide (((posE ev en (k + 1) : Nat) : Int) ≤ ((evF ev k : Nat) : Int)) = false := by simp; omega
      have d2 : decide ((s.size : Int) < ((posE ev en (k + 1) : Nat) : Int)) = false := by simp; omega
      have d1' : decide (posE ev en (k + 1) ≤ evF ev k) = false := by simp; omega
      have d2' : decide (s.size < posE ev en (k + 1)) = false := by simp; omega
      have HRo := Lib.hid hR
      have wf : ∀ k, Fence.wide.fn k := fun _ => trivial
      have wd : Fence.wide.depth = none := rfl
      clear hR t2 c2 ca ck c9' s0 s1 p0 p1 p2
      have HRK := Lib.hid (show ∀ h : k < R.length, R[k] = evP ev k from by
        intro h
        have := HRR.out.1
        subst this
        simp at h)
      generalize hto : posE ev en (k + 1) = to_ at *
      have HTO := Lib.hid hto
      clear hto
      generalize evF ev k = fr at *
      generalize evP ev k = p at *
      have HP := Lib.hid (And.intro (fitP_isF t1).1 t1)
      clear t1
      have n1 : ∀ x : Int, (x != x) = false := fun x => by simp
      have n2 : ∀ x : Bool, (x != x) = false := fun x => by simp
      have hkm : k < 9223372036854775807 := by
        have h1 := ev_many hev
        have h2 := hs
        unfold maxLen at h2
        omega
      have i1 : (0 : Int) ≤ (k : Int) := by omega
      by_cases hkR : k < R.length
      · have j1 : decide ((k : Int) < (R.length : Int)) = true := by simp; omega
        have j2 : (k : Int) < (R.length : Int) := by omega
        obtain ⟨b9, o9, hl9, e9, _, hL9, y0, y1, y2⟩ := HRo.out.st.st.r9.ph hkR
        rw [HRK.out hkR] at y0 y1 y2
        subst e9
        have Y0 := Bel.cell y0
        have Y1 := Bel.cell y1
        have Y2 := Bel.cell y2
        clear y0 y1 y2
        gi_wp2
        refine wpIn_bel_round (by kernel_rfl) (by kernel_rfl) (by kernel_rfl) ?_
        repeat (gi_big_quiet_step (fail))
        gi_big_quiet_want
        gi_big_quiet_op
        refine ⟨.bool true, fun x => ?_, ?_⟩
        · exact callsIn_wide.2 ((Is_any p x.1 HP.out.1).mono (fun e w' h => ⟨by rw [h.1, HP.out.2], x.next h.2⟩))
        go_big_quiet_on
        repeat (gi_big_quiet_step (fail))
        refine wpQuietIn_nil ?_
        intro _ hw'
        obtain ⟨xW, hw''⟩ := hw'
        subst hw''
        obtain ⟨W1, hb1⟩ := xW
        dsimp only
        have hi1 : BkIn w s q r _ c9 R x1 x2 kb tx ty fr k W1 := HRo.out.st.on (hb1.mono (by have := HBS.out; omega))
        have hbp := HRo.out.bp.below hb1 HRo.out.bp.lt
        have hbh := HRo.out.bh.below hb1 HRo.out.bh.lt
        have p0 : W1.cell? ⟨hb, 0, none⟩ = some (.int .i32 p.1) := hbh.cell 0
        have p1 : W1.cell? ⟨hb, 1, none⟩ = some (.bool p.2.1) := hbh.cell 1
        have p2 : W1.cell? ⟨hb, 2, none⟩ = some (.int .i32 p.2.2) := hbh.cell 2
        have HI1 := Lib.hid (And.intro hi1 (And.intro hbp (And.intro hbh (And.intro hb1 (Nat.le_trans hsz hb1.size)))))
        clear hi1 hbp hbh hb1 X2 Xa Xk X9 Xs0 Xs1 Xp0 Xp1 Xp2 Y0 Y1 Y2
        gi_wp2_with fail
        refine (CallsIn.inRound l0 (callsIn_wide.2 (print_any _ 1 1 _ [p] _ (rd_one W1 p) (by intro x hx; rw [List.mem_singleton] at hx; rw [hx]; exact fitP_isF HP.out.2) (by unfold maxLen; omega)))).mono ?_
        rw [(pr_one HP.out.2).1, (pr_one HP.out.2).2]
        rintro e W2 ⟨rfl, hb2⟩
        have hb12 : Below W1.heap.size W1 W2 := ((Below.refl _ _).alloc (Nat.le_refl _) _).trans (hb2.mono (by simp))
        have hi2 : BkIn w s q r _ c9 R x1 x2 kb tx ty fr k W2 := HI1.out.1.on (hb12.mono (by have := HI1.out.2.2.2.2; have := HBS.out; omega))
        have d5 : W2.cell? ⟨q, 0, none⟩ = some (.string tx) := hi2.st.st.b5.cell 0
        have d6 : W2.cell? ⟨q + 1, 0, none⟩ = some (.int .i64 ty) := hi2.st.st.b6.cell 0
        have f5 : W2.frozen? ⟨q, 0, none⟩ = false := hi2.st.st.b5.frozen 0
        have f6 : W2.frozen? ⟨q + 1, 0, none⟩ = false := hi2.st.st.b6.frozen 0
        have hq := hi2.st.st.lq
        have hlr := hi2.st.lr
        have hlk := hi2.lk
        have hlp := HRo.out.lp
        have hlh := HRo.out.lh
        have hst : BkIn w s q r _ c9 R x1 x2 kb (bts (textP p)) 0 fr k ((W2.setCell ⟨q, 0, none⟩ (.string (bts (textP p)))).setCell ⟨q + 1, 0, none⟩ (.int .i64 0)) := hi2.text _ _
        have hbp2 : Blk ((W2.setCell ⟨q, 0, none⟩ (.string (bts (textP p)))).setCell ⟨q + 1, 0, none⟩ (.int .i64 0)) pb 78 #[.int .i64 fr, .int .i64 to_] := ((HI1.out.2.1.below hb12 HI1.out.2.1.lt).far (by simp; omega) _).far (by simp; omega) _
        have ho2 : Only (fun b => (b < wB.heap.size ∧ ¬ b = kb + 2) ∨ False) W ((W2.setCell ⟨q, 0, none⟩ (.string (bts (textP p)))).setCell ⟨q + 1, 0, none⟩ (.int .i64 0)) :=
          (((Only.of_below HI1.out.2.2.2.1 _).trans (Only.of_below hb12 _)).setCell (.inl (.inl ⟨by have := HBS.out; simp; omega, by simp; omega⟩)) _).setCell (.inl (.inl ⟨by have := HBS.out; simp; omega, by simp; omega⟩)) _
        have H3 := Lib.hid (And.intro hst (And.intro hbp2 ho2))
        clear hi2 hst hbp2 ho2 hb2 hb12 HI1 p0 p1 p2
        gi_wp2
        refine wpIn_abs (fun wx => BkIn w s q r _ c9 R x1 x2 kb (bts (textP p)) 0 fr k wx ∧ Blk wx pb 78 #[.int .i64 fr, .int .i64 to_] ∧ Only (fun b => (b < wB.heap.size ∧ ¬ b = kb + 2) ∨ False) W wx) H3.out ?_
        rintro W3 ⟨hi3, hbp3, ho3⟩
        have c2 : W3.cell? ⟨w.heap.size, 0, none⟩ = some (.string s) := hi3.st.st.bs.cell 0
        have c5 : W3.cell? ⟨q, 0, none⟩ = some (.string (bts (textP p))) := hi3.st.st.b5.cell 0
        have c6 : W3.cell? ⟨q + 1, 0, none⟩ = some (.int .i64 0) := hi3.st.st.b6.cell 0
        have s0 : W3.cell? ⟨pb, 0, none⟩ = some (.int .i64 fr) := hbp3.cell 0
        have s1 : W3.cell? ⟨pb, 1, none⟩ = some (.int .i64 to_) := hbp3.cell 1
        have ca : W3.cell? ⟨kb, 0, none⟩ = some (.int .i64 fr) := hi3.ba.cell 0
        have fa : W3.frozen? ⟨kb, 0, none⟩ = false := hi3.ba.frozen 0
        have ck : W3.cell? ⟨kb + 1, 0, none⟩ = some (.int .i64 k) := hi3.bk.cell 0
        have fk : W3.frozen? ⟨kb + 1, 0, none⟩ = false := hi3.bk.frozen 0
        have H4 := Lib.hid (And.intro hi3 ho3)
        clear H3 hi3 hbp3 ho3 d5 d6 f5 f6 hq hlr hlk hlp hlh
        have hex : s.extract fr to_ = bts (textP p) := HT2.out.2.1
        have i2 : (0 : Int) ≤ (fr : Int) := by omega
        have i3 : (fr : Int) ≤ (to_ : Int) := by omega
        have i4 : (to_ : Int) ≤ (s.size : Int) := by omega
        have nl : ∀ x : List UInt8, (x != x) = false := fun x => by simp
        gi_wp2
        refine wpIn_quiet_round (by kernel_rfl) (by kernel_rfl) (by kernel_rfl) ?_
        repeat (gi_big_quiet_step (fail))
        refine wpQuietIn_nil ?_
        intro _ hw'
        obtain ⟨nq, hw''⟩ := hw'
        subst hw''
        gi_wp2
        have hkb := HBS.out
        refine ⟨((H4.out.2.drewN _).setCell (.inl (.inl ⟨by simp; omega, by simp⟩)) _).setCell (.inl (.inl ⟨by simp; omega, by simp⟩)) _, bts (textP p), 0, ?_⟩
        rw [HTO.out]
        exact (H4.out.1.on (Below.drewNB (Below.refl _ _) nq)).step to_ (k + 1)
      · have j1 : decide ((k : Int) < (R.length : Int)) = false := by simp; omega
        gi_wp2
        refine wpIn_bel_round (by kernel_rfl) (by kernel_rfl) (by kernel_rfl) ?_
        repeat (gi_big_quiet_step (fail))
        gi_big_quiet_want
        gi_big_quiet_op
        refine ⟨.bool true, fun x => ?_, ?_⟩
        · exact callsIn_wide.2 ((Is_any p x.1 HP.out.1).mono (fun e w' h => ⟨by rw [h.1, HP.out.2], x.next h.2⟩))
        go_big_quiet_on
        repeat (gi_big_quiet_step (fail))
        refine wpQuietIn_nil ?_
        intro _ hw'
        obtain ⟨xW, hw''⟩ := hw'
        subst hw''
        obtain ⟨W1, hb1⟩ := xW
        dsimp only
        have hi1 : BkIn w s q r _ c9 R x1 x2 kb tx ty fr k W1 := HRo.out.st.on (hb1.mono (by have := HBS.out; omega))
        have hbp := HRo.out.bp.below hb1 HRo.out.bp.lt
        have hbh := HRo.out.bh.below hb1 HRo.out.bh.lt
        have p0 : W1.cell? ⟨hb, 0, none⟩ = some (.int .i32 p.1) := hbh.cell 0
        have p1 : W1.cell? ⟨hb, 1, none⟩ = some (.bool p.2.1) := hbh.cell 1
        have p2 : W1.cell? ⟨hb, 2, none⟩ = some (.int .i32 p.2.2) := hbh.cell 2
        have HI1 := Lib.hid (And.intro hi1 (And.intro hbp (And.intro hbh (And.intro hb1 (Nat.le_trans hsz hb1.size)))))
        clear hi1 hbp hbh hb1 X2 Xa Xk X9 Xs0 Xs1 Xp0 Xp1 Xp2
        gi_wp2_with fail
        refine (CallsIn.inRound l0 (callsIn_wide.2 (print_any _ 1 1 _ [p] _ (rd_one W1 p) (by intro x hx; rw [List.mem_singleton] at hx; rw [hx]; exact fitP_isF HP.out.2) (by unfold maxLen; omega)))).mono ?_
        rw [(pr_one HP.out.2).1, (pr_one HP.out.2).2]
        rintro e W2 ⟨rfl, hb2⟩
        have hb12 : Below W1.heap.size W1 W2 := ((Below.refl _ _).alloc (Nat.le_refl _) _).trans (hb2.mono (by simp))
        have hi2 : BkIn w s q r _ c9 R x1 x2 kb tx ty fr k W2 := HI1.out.1.on (hb12.mono (by have := HI1.out.2.2.2.2; have := HBS.out; omega))
        have d5 : W2.cell? ⟨q, 0, none⟩ = some (.string tx) := hi2.st.st.b5.cell 0
        have d6 : W2.cell? ⟨q + 1, 0, none⟩ = some (.int .i64 ty) := hi2.st.st.b6.cell 0
        have f5 : W2.frozen? ⟨q, 0, none⟩ = false := hi2.st.st.b5.frozen 0
        have f6 : W2.frozen? ⟨q + 1, 0, none⟩ = false := hi2.st.st.b6.frozen 0
        have hq := hi2.st.st.lq
        have hlr := hi2.st.lr
        have hlk := hi2.lk
        have hlp := HRo.out.lp
        have hlh := HRo.out.lh
        have hst : BkIn w s q r _ c9 R x1 x2 kb (bts (textP p)) 0 fr k ((W2.setCell ⟨q, 0, none⟩ (.string (bts (textP p)))).setCell ⟨q + 1, 0, none⟩ (.int .i64 0)) := hi2.text _ _
        have hbp2 : Blk ((W2.setCell ⟨q, 0, none⟩ (.string (bts (textP p)))).setCell ⟨q + 1, 0, none⟩ (.int .i64 0)) pb 78 #[.int .i64 fr, .int .i64 to_] := ((HI1.out.2.1.below hb12 HI1.out.2.1.lt).far (by simp; omega) _).far (by simp; omega) _
        have ho2 : Only (fun b => (b < wB.heap.size ∧ ¬ b = kb + 2) ∨ False) W ((W2.setCell ⟨q, 0, none⟩ (.string (bts (textP p)))).setCell ⟨q + 1, 0, none⟩ (.int .i64 0)) :=
          (((Only.of_below HI1.out.2.2.2.1 _).trans (Only.of_below hb12 _)).setCell (.inl (.inl ⟨by have := HBS.out; simp; omega, by simp; omega⟩)) _).setCell (.inl (.inl ⟨by have := HBS.out; simp; omega, by simp; omega⟩)) _
        have H3 := Lib.hid (And.intro hst (And.intro hbp2 ho2))
        clear hi2 hst hbp2 ho2 hb2 hb12 HI1 p0 p1 p2
        gi_wp2
        refine wpIn_abs (fun wx => BkIn w s q r _ c9 R x1 x2 kb (bts (textP p)) 0 fr k wx ∧ Blk wx pb 78 #[.int .i64 fr, .int .i64 to_] ∧ Only (fun b => (b < wB.heap.size ∧ ¬ b = kb + 2) ∨ False) W wx) H3.out ?_
        rintro W3 ⟨hi3, hbp3, ho3⟩
        have c2 : W3.cell? ⟨w.heap.size, 0, none⟩ = some (.string s) := hi3.st.st.bs.cell 0
        have c5 : W3.cell? ⟨q, 0, none⟩ = some (.string (bts (textP p))) := hi3.st.st.b5.cell 0
        have c6 : W3.cell? ⟨q + 1, 0, none⟩ = some (.int .i64 0) := hi3.st.st.b6.cell 0
        have s0 : W3.cell? ⟨pb, 0, none⟩ = some (.int .i64 fr) := hbp3.cell 0
        have s1 : W3.cell? ⟨pb, 1, none⟩ = some (.int .i64 to_) := hbp3.cell 1
        have ca : W3.cell? ⟨kb, 0, none⟩ = some (.int .i64 fr) := hi3.ba.cell 0
        have fa : W3.frozen? ⟨kb, 0, none⟩ = false := hi3.ba.frozen 0
        have ck : W3.cell? ⟨kb + 1, 0, none⟩ = some (.int .i64 k) := hi3.bk.cell 0
        have fk : W3.frozen? ⟨kb + 1, 0, none⟩ = false := hi3.bk.frozen 0
        have H4 := Lib.hid (And.intro hi3 ho3)
        clear H3 hi3 hbp3 ho3 d5 d6 f5 f6 hq hlr hlk hlp hlh
        have hex : s.extract fr to_ = bts (textP p) := HT2.out.2.1
        have i2 : (0 : Int) ≤ (fr : Int) := by omega
        have i3 : (fr : Int) ≤ (to_ : Int) := by omega
        have i4 : (to_ : Int) ≤ (s.size : Int) := by omega
        have nl : ∀ x : List UInt8, (x != x) = false := fun x => by simp
        gi_wp2
        refine wpIn_quiet_round (by kernel_rfl) (by kernel_rfl) (by kernel_rfl) ?_
        repeat (gi_big_quiet_step (fail))
        refine wpQuietIn_nil ?_
        intro _ hw'
        obtain ⟨nq, hw''⟩ := hw'
        subst hw''
        gi_wp2
        have hkb := HBS.out
        refine ⟨((H4.out.2.drewN _).setCell (.inl (.inl ⟨by simp; omega, by simp⟩)) _).setCell (.inl (.inl ⟨by simp; omega, by simp⟩)) _, bts (textP p), 0, ?_⟩
        rw [HTO.out]
        exact (H4.out.1.on (Below.drewNB (Below.refl _ _) nq)).step to_ (k + 1)
    case done =>
      rintro W ⟨tx, ty, hI⟩ hmk
      rw [posE_ge (Nat.le_refl _)] at hI
      have z0 : W.cell? ⟨r + 1, 0, none⟩ = some (.int .i64 x1) := hI.st.b10.cell 0
      have z1 : W.cell? ⟨r + 1, 1, none⟩ = some (.int .i64 x2) := hI.st.b10.cell 1
      have ca : W.cell? ⟨kb, 0, none⟩ = some (.int .i64 en) := hI.ba.cell 0
      have ck : W.cell? ⟨kb + 1, 0, none⟩ = some (.int .i64 ev.length) := hI.bk.cell 0
      have c2 : W.cell? ⟨w.heap.size, 0, none⟩ = some (.string s) := hI.st.st.bs.cell 0
      have c9' : W.cell? ⟨r, 0, none⟩ = some (.slice A9 R.length c9) := hI.st.b9.cell 0
      have hB := HBS.out
      have hlk := hI.lk
      have hlr := hI.st.lr
      have hlq := hI.st.st.lq
      have HJ := Lib.hid (And.intro (And.intro hI.st.st.br hI.st.st.below) (show Marks (w.heap.size + 2) [{ target := .collected wB.heap.size, args := #[] }] W from ⟨wB.heap.size, rfl, by omega, hmk, fun d hd => (by simp at hd), trivial⟩))
      clear hI hmk hB hlk hlr hlq
      have e1 : (x1 != 0) = true := by simpa using hx
      go_wp2_with fail
      refine (works_any W).mono ?_
      rintro e wz ⟨rfl, hb⟩
      have hbr := HJ.out.1.1.below hb HJ.out.1.1.lt
      have r0 : wz.cell? ⟨w.heap.size + 1, 0, none⟩ = some (.bool false) := hbr.cell 0
      have r1 : wz.frozen? ⟨w.heap.size + 1, 0, none⟩ = false := hbr.frozen 0
      have HZ := Lib.hid (And.intro hbr (And.intro (HJ.out.2.below hb) (HJ.out.1.2.trans (hb.mono HJ.out.1.2.size))))
      clear hb HJ hbr z0 z1 ca ck c2 c9'
      go_wp2
      refine bodyPostM_ret (HZ.out.2.1.setCell HZ.out.1 0 (.bool true)) ?_
      exact bk_end HZ.out.1 HZ.out.2.2 _ rfl
    case stop =>
      rintro c k W _ _ h _
      exact h.elim

set_option maxHeartbeats 8000000 in
set_option maxRecDepth 100000 in
theorem phoneBack_ok (s : ByteArray) (A : Option Addr) (n c : Nat) (l : List Ph) (w : World) (hs : s.size ≤ maxLen) (h : Rd w 0 w.heap.size 3 A n (phs l)) (hf : ∀ p ∈ l, fitP p) (hn : n * 12 ≤ 140737488351232) {ev : List (Ph × Nat)} {en : Nat} (hev : evL s.data.toList = (ev, en)) {R : List Ph} (hrd : readL s.data.toList = (R, 0, 0)) (hR : R = fsts ev) (hen : en = s.data.toList.length) (hall : (fsts ev).all isF = true) (h128 : ev.length ≤ 128) (htx : texts (fsts ev) = s.data.toList) : Calls Try.prog 8 #[.string s, .slice A n c] w fun e w' => e = .returned (.bool true) ∧ Below w.heap.size w w' := by
  have HRR := Lib.hid (And.intro hR (And.intro hen (And.intro hall (And.intro h128 htx))))
  clear hR hen hall h128 htx
  have HA := Lib.hid (And.intro h (And.intro hf (And.intro h.len_ph (show n ≤ maxLen by unfold maxLen; omega))))
  clear h hf
  refine calls_of_wp_marks Try.func8 rfl ?_
  simp only [Try.ntmps8, List.size_toArray, List.length_cons, List.length_nil, Nat.reduceAdd, Nat.reduceSub, Array.replicate_succ, Array.replicate_zero, List.push_toArray, List.append_toArray, List.nil_append, List.cons_append]
  go_upto_region 1 with (fail)
  refine wp_abs (fun wx => Blk wx w.heap.size 9 #[.string s] ∧ Blk wx (w.heap.size + 1) 4 #[.bool false] ∧ Below w.heap.size w wx) ⟨(Blk.new _ _ _).alloc _, blk_new_eq (by simp), ((Below.refl _ _).alloc (Nat.le_refl _) _).alloc (by simp) _⟩ ?_
  rintro w1 ⟨b0, b1, hb⟩
  have H1 := Lib.hid (And.intro b0 (And.intro b1 hb))
  clear b0 b1 hb
  go_wp2_with fail
  refine (works_any w1).mono ?_
  rintro e w2 ⟨rfl, hb⟩
  have H2 := Lib.hid (And.intro (H1.out.1.below hb H1.out.1.lt) (And.intro (H1.out.2.1.below hb H1.out.2.1.lt) (H1.out.2.2.trans (hb.mono H1.out.2.2.size))))
  clear hb H1
  go_wp2_with fail
  refine (print_any A n c 0 l w2 (HA.out.1.up H2.out.2.2 H2.out.2.2.size) HA.out.2.1 HA.out.2.2.2).mono ?_
  rintro e w3 ⟨rfl, hb⟩
  have H3 := Lib.hid (And.intro (H2.out.1.below hb H2.out.1.lt) (And.intro (H2.out.2.1.below hb H2.out.2.1.lt) (And.intro (H2.out.2.2.trans (hb.mono H2.out.2.2.size)) H2.out.2.1.lt)))
  have hl3 := hb.size
  have HL3 := Lib.hid hl3
  clear hb H2 hl3
  go_upto_region 4 with (fail)
  generalize hTS : prS l = tS at *
  generalize hTE : prE l = tE at *
  have HT := Lib.hid (And.intro hTS hTE)
  clear hTS hTE
  refine wp_abs (BkSt w s w3.heap.size tS tE) ?f4 ?_
  case f4 =>
    have hb : Below w3.heap.size w3 ((w3.alloc (.cells #[.string tS] 9)).alloc (.cells #[.int .i64 tE] 27)) := ((Below.refl _ _).alloc (Nat.le_refl _) _).alloc (by simp) _
    exact ⟨H3.out.1.below hb H3.out.1.lt, H3.out.2.1.below hb H3.out.2.1.lt, (Blk.new _ _ _).alloc _, blk_new_eq (by simp), H3.out.2.2.1.trans (hb.mono H3.out.2.2.1.size), by have := H3.out.2.2.2; have := HL3.out; omega⟩
  generalize w3.heap.size = q
  clear H3 HL3
  intro w4 hS
  have H4 := Lib.hid hS
  have c6 : w4.cell? ⟨q + 1, 0, none⟩ = some (.int .i64 tE) := hS.b6.cell 0
  clear hS
  go_upto_if 23 with (fail)
  go_cut [7, 8] from 23 to 37 (fun _ _ wx => Hid (BkSt w s q tS tE wx))
  case first =>
    cases hE : (tE == 0) with
    | true =>
      have he : tE = 0 := by simpa using hE
      have c5 : w4.cell? ⟨q, 0, none⟩ = some (.string tS) := H4.out.b5.cell 0
      have hl : l.length ≤ 128 ∧ l.all isF = true := by
        have h2 := HT.out.2
        rw [he] at h2
        unfold prE at h2
        split at h2
        · cases h2
        · split at h2
          · exact ⟨by omega, by assumption⟩
          · cases h2
      have hts : tS = bts (texts l) := by rw [← HT.out.1]; unfold prS; rw [if_pos (HT.out.2.trans he)]
      have hrd : readL tS.data.toList = (l, 0, 0) := by rw [hts]; exact read_texts hl.2 hl.1
      have HB := Lib.hid (And.intro hl (And.intro hts hrd))
      clear hl hts hrd he hE
      go_wp2_with fail
      refine (read_any tS _ ?_).mono ?_
      · rw [HB.out.2.1, bts_size]
        have := texts_len l HB.out.1.2
        have := HB.out.1.1
        unfold maxLen; omega
      rintro e w5 ⟨v5, rfl, ho, hb⟩
      rw [HB.out.2.2] at ho ⊢
      obtain ⟨A5, C5, rfl⟩ := own_slice ho
      have H5 := Lib.hid (And.intro (H4.out.on hb) (And.intro (own_rd ho) (HA.out.1.up (H4.out.below.trans (hb.mono H4.out.below.size)) (Nat.le_trans H4.out.below.size hb.size))))
      clear ho hb c5 c6
      go_upto_region 6 with (fail)
      refine wp_abs (fun wx => BkSt w s q tS tE wx ∧ Rd wx 0 wx.heap.size 3 A5 l.length (phs l) ∧ Rd wx 0 wx.heap.size 3 A n (phs l) ∧ Blk wx w5.heap.size 68 #[.int .i64 0, .int .i64 0]) ?f6 ?_
      case f6 =>
        have hb : Below w5.heap.size w5 (w5.alloc (.cells #[.int .i64 0, .int .i64 0] 68)) := (Below.refl _ _).alloc (Nat.le_refl _) _
        exact ⟨H5.out.1.on hb, (H5.out.2.1.up hb hb.size).more (Nat.zero_le _) (Nat.le_refl _), (H5.out.2.2.up hb hb.size).more (Nat.zero_le _) (Nat.le_refl _), Blk.new _ _ _⟩
      generalize w5.heap.size = xb
      clear H5
      rintro w6 ⟨hS, r1, r2, bx⟩
      have x0 : w6.cell? ⟨xb, 0, none⟩ = some (.int .i64 0) := bx.cell 0
      have x1 : w6.cell? ⟨xb, 1, none⟩ = some (.int .i64 0) := bx.cell 1
      have H6 := Lib.hid (And.intro hS (And.intro r1 r2))
      have HLL := Lib.hid (show l.length ≤ maxLen by have := HB.out.1.1; unfold maxLen; omega)
      clear hS r1 r2 bx
      go_wp2_with fail
      refine (equalH_any A5 A l.length C5 n c _ _ _ _ l l w6 H6.out.2.1 H6.out.2.2 HLL.out HA.out.2.2.2 (Nat.le_refl _) (Nat.le_refl _)).mono ?_
      rw [decide_eq_true (rfl : l = l)]
      rintro e w7 ⟨rfl, hb⟩
      have H7 := Lib.hid (H6.out.1.on hb)
      clear hb H6 x0 x1
      go_wp2_with fail
      go_meet
      exact H7
    | false =>
      clear hE
      go_wp2_with fail
      go_meet
      exact H4
  case rest =>
    clear H4 c6
    have H5 := Lib.hid hcut.out
    clear hcut
    generalize wc = w5 at *
    have c2 : w5.cell? ⟨w.heap.size, 0, none⟩ = some (.string s) := H5.out.bs.cell 0
    go_wp2_with fail
    refine (read_any s _ hs).mono ?_
    rintro e w6 ⟨v9, rfl, ho, hb⟩
    obtain ⟨A9, c9, rfl⟩ := own_slice ho
    have H6 := Lib.hid (And.intro (H5.out.on hb) (And.intro (own_rd ho) (And.intro hb.size H5.out.b6.lt)))
    clear ho hb c2 H5
    rw [hrd] at H6 ⊢
    dsimp only at H6 ⊢
    clear hrd
    go_upto_region 9 with (fail)
    refine wp_abs (BkRd w s q w6.heap.size A9 c9 R 0 0 tS tE) ?f9 ?_
    case f9 =>
      have hb : Below w6.heap.size w6 ((w6.alloc (.cells #[.slice A9 R.length c9] 22)).alloc (.cells #[.int .i64 0, .int .i64 0] 68)) := ((Below.refl _ _).alloc (Nat.le_refl _) _).alloc (by simp) _
      exact ⟨H6.out.1.on hb, (Blk.new _ _ _).alloc _, blk_new_eq (by simp), (H6.out.2.1.below hb (Nat.le_refl _)).more (by have := H6.out.2.2.2; omega) (Nat.le_refl _), by have := H6.out.2.2.2; have := H6.out.2.2.1; omega⟩
    generalize w6.heap.size = r
    clear H6
    intro w7 hS
    have H7 := Lib.hid hS
    have z0 : w7.cell? ⟨r + 1, 0, none⟩ = some (.int .i64 0) := hS.b10.cell 0
    have z1 : w7.cell? ⟨r + 1, 1, none⟩ = some (.int .i64 0) := hS.b10.cell 1
    clear hS
    have c9' : w7.cell? ⟨r, 0, none⟩ = some (.slice A9 R.length c9) := H7.out.b9.cell 0
    have hR := HRR.out.1
    have hall := HRR.out.2.2.1
    have h128 := HRR.out.2.2.2.1
    have htx := HRR.out.2.2.2.2
    have hfit : ∀ p ∈ R, fitP p := fun p hp => fitP_isF (List.all_eq_true.1 hall p (hR ▸ hp))
    have hRl : R.length = ev.length := by rw [hR, fsts_len]
    have hpr : prS R = s ∧ prE R = 0 := by
      have he : prE R = 0 := by unfold prE; rw [if_neg (by omega), hR, hall]; rfl
      exact ⟨by unfold prS; rw [if_pos he, hR, htx]; rfl, he⟩
    have HP := Lib.hid (And.intro hpr (And.intro hfit hRl))
    clear hR hall h128 htx hpr hfit hRl
    go_wp2_with fail
    refine (print_any A9 R.length c9 (q + 2) R _ (H7.out.r9.more (Nat.le_refl _) (Nat.le_of_lt H7.out.b9.lt)) HP.out.2.1 (by have := HP.out.2.2; have := HRR.out.2.2.2.1; unfold maxLen; omega)).mono ?_
    rw [HP.out.1.1, HP.out.1.2]
    rintro e w8 ⟨rfl, hb⟩
    have H8 := Lib.hid (H7.out.on hb)
    clear hb H7 c9' z0 z1
    have d5 : w8.cell? ⟨q, 0, none⟩ = some (.string tS) := H8.out.st.b5.cell 0
    have d6 : w8.cell? ⟨q + 1, 0, none⟩ = some (.int .i64 tE) := H8.out.st.b6.cell 0
    have f5 : w8.frozen? ⟨q, 0, none⟩ = false := H8.out.st.b5.frozen 0
    have f6 : w8.frozen? ⟨q + 1, 0, none⟩ = false := H8.out.st.b6.frozen 0
    go_upto_region 11 with (fail)
    refine wp_abs (BkRd w s q r A9 c9 R 0 0 s 0) (H8.out.set s 0) ?_
    clear H8 d5 d6 f5 f6
    intro w9 hS
    have d5 : w9.cell? ⟨q, 0, none⟩ = some (.string s) := hS.st.b5.cell 0
    have d6 : w9.cell? ⟨q + 1, 0, none⟩ = some (.int .i64 0) := hS.st.b6.cell 0
    have d2 : w9.cell? ⟨w.heap.size, 0, none⟩ = some (.string s) := hS.st.bs.cell 0
    have H9 := Lib.hid hS
    clear hS
    go_upto_region 13 with (fail)
    have H8 := Lib.hid (show ∃ t x, BkRd w s q r A9 c9 R 0 0 t x w9 from ⟨_, _, H9.out⟩)
    clear H9 d5 d6 d2
    generalize w9 = w8 at *
    obtain ⟨tx, ty, h8⟩ := H8.out
    have H9 := Lib.hid h8
    clear h8 H8
    go_upto_region 15 with (fail)
    refine wp_abs (fun wx => wx = (w8.alloc (.cells #[.int .i64 0] 3)).alloc (.cells #[.int .i64 0] 3)) rfl ?_
    intro wA hA
    have HA1 := Lib.hid hA
    have hAs : wA.heap.size = w8.heap.size + 2 := by rw [hA]; simp
    have hAb : Below w8.heap.size w8 wA := by rw [hA]; exact ((Below.refl _ _).alloc (Nat.le_refl _) _).alloc (by simp) _
    have d2 : wA.cell? ⟨w.heap.size, 0, none⟩ = some (.string s) := (H9.out.on hAb).st.bs.cell 0
    clear hA hAb
    go_wp2_with fail
    refine (each_call s wA).mono ?_
    rintro e wB ⟨rfl, hB⟩
    rw [hAs]
    have hI := H9.out.enter
    rw [← HA1.out, ← hB] at hI
    have hBs : wB.heap.size = w8.heap.size + 3 := by rw [hB]; simp [hAs]
    have HI := Lib.hid hI
    have HBS := Lib.hid hBs
    clear hI HA1 H9 hAs hB hBs d2
    generalize hkb : w8.heap.size = kb at *
    go_wp2
    refine wp_range (gf := 128) (lb := #[.pointer (some ⟨kb + 2, 0, none⟩)]) (N := ev.length) (X := EvX s.data.toList) (T := fun _ _ => False) (C := fun b => b = kb + 2) rfl (enters_of Try.func128 (by kernel_rfl) rfl)
      (fun W hb _ => by have := each_gives s (kb + 2) W (HI.out.sb.below hb HI.out.sb.lt) hs; rw [hev] at this; exact this) (fun b e => by rw [e]; exact HI.out.sb.lt) ?hX
      (fun k W => ∃ tx ty, BkIn w s q r A9 c9 R 0 0 kb tx ty (posE ev en k) k W) (fun _ _ _ => False)
      (fun k A A' h hb => by obtain ⟨tx, ty, h⟩ := h; exact ⟨tx, ty, h.on (by rw [HBS.out] at hb; exact hb)⟩) (fun _ _ _ _ h _ => h) ⟨tx, ty, by rw [(ev_chainE hev).first]; exact HI.out⟩
      (fun k args a' W => ∃ (tx : ByteArray) (ty : Int) (pb hb : Nat), args = #[.agg #[.int .i64 ((evF ev k : Nat) : Int), .int .i64 ((posE ev en (k + 1) : Nat) : Int)], .agg #[.int .i32 (evP ev k).1, .bool (evP ev k).2.1, .int .i32 (evP ev k).2.2]] ∧ k < ev.length ∧ BkRo w s q r A9 c9 R 0 0 kb tx ty (posE ev en k) k (evP ev k) (evF ev k) (posE ev en (k + 1)) pb hb W ∧ a' = { tmps := #[.string s, .slice A n c, .pointer (some ⟨w.heap.size, 0, none⟩), undef, .pointer (some ⟨w.heap.size + 1, 0, none⟩), .pointer (some ⟨q, 0, none⟩), .pointer (some ⟨q + 1, 0, none⟩), u7, u8, .pointer (some ⟨r, 0, none⟩), .pointer (some ⟨r + 1, 0, none⟩), .pointer (some ⟨kb, 0, none⟩), .pointer (some ⟨kb + 1, 0, none⟩), .pointer (some ⟨pb, 0, none⟩), .pointer (some ⟨hb, 0, none⟩), .bool true, .bool false, .tuple #[.string tS, .int .i64 tE], .slice A n c, .tuple #[.string tS, .int .i64 tE], .string tS, .int .i64 tE, .int .i64 tE, u23, u24, u25, u26, u27, u28, u29, u30, u31, u32, u33, u34, u35, u36, u37, .tuple #[.slice A9 R.length c9, .agg #[.int .i64 0, .int .i64 0]], .string s, .tuple #[.slice A9 R.length c9, .agg #[.int .i64 0, .int .i64 0]], .slice A9 R.length c9, .agg #[.int .i64 0, .int .i64 0], .agg #[.int .i64 0, .int .i64 0], .agg #[.int .i64 0, .int .i64 0], .bool true, .tuple #[.string s, .int .i64 0], .slice A9 R.length c9, .tuple #[.string s, .int .i64 0], .string s, .int .i64 0, .int .i64 0, .bool false, .bool false, .string s, .string s, .bool false, .bool false, .string s, .func (.func 128) #[] #[.pointer (some ⟨kb + 2, 0, none⟩)], .agg #[.int .i64 ((evF ev k : Nat) : Int), .int .i64 ((posE ev en (k + 1) : Nat) : Int)], .agg #[.int .i32 (evP ev k).1, .bool (evP ev k).2.1, .int .i32 (evP ev k).2.2], undef, undef, undef, undef, undef, undef, undef, undef, undef, undef, undef, undef, undef, undef, undef, undef, undef, undef, undef, undef, undef, undef, undef, undef, undef, undef, undef, undef, undef, undef, undef, undef, undef, undef, undef, undef, undef, undef, undef, undef, undef, undef, undef, undef, undef, undef, undef, undef, undef, undef, undef, undef, undef, undef, undef, undef, undef, undef, undef, undef, undef, undef, undef, undef, undef, undef, undef, undef, undef, undef, undef, undef, undef, undef, undef, undef], defers := [] })
      ?hX2 ?assign ?body ?done ?stop
    case hX =>
      rintro k args W h
      obtain ⟨hk, rfl⟩ := evx_at hev h
      exact ⟨rfl, fun b h => h.elim⟩
    case hX2 =>
      rintro k args a' A A' ⟨tx, ty, pb, hb, h1, h2, h4, h5⟩ ho _ _
      have h6 := h4.lp
      have h7 := h4.lh
      have hB := HBS.out
      exact ⟨tx, ty, pb, hb, h1, h2, ⟨h4.st.stay ho (fun b e => by omega), h4.bp.only ho (by omega), h4.bh.only ho (by omega), h6, h7⟩, h5⟩
    case assign =>
      rintro l0 k args W hk ⟨tx, ty, hI⟩ hx hsz
      obtain ⟨hkl, rfl⟩ := evx_at hev hx
      have HJ := Lib.hid hI
      clear hI hx
      rw [HBS.out] at hsz
      simp only [List.zip_toArray, List.zip_cons_cons, List.zip_nil_right, List.foldl_toArray', List.foldl_cons, List.foldl_nil]
      gi_wp2
      refine ⟨((Only.refl _ _).alloc _).alloc _, tx, ty, W.heap.size, W.heap.size + 1, trivial, hkl, ⟨HJ.out.on (((Below.refl _ _).alloc (by omega) _).alloc (by simp; omega) _), (Blk.new _ _ _).alloc _, blk_new_eq (by simp), by omega, by omega⟩, rfl⟩
    case body =>
      rintro l0 k args a₁ W hk ⟨tx, ty, pb, hb, rfl, hkl, hR, rfl⟩ hsz
      have hpk : posE ev en k = evF ev k := by rw [posE_lt hkl, (evP_lt hkl).2]
      rw [hpk] at hR
      have c2 : W.cell? ⟨w.heap.size, 0, none⟩ = some (.string s) := hR.st.st.st.bs.cell 0
      have ca : W.cell? ⟨kb, 0, none⟩ = some (.int .i64 ((evF ev k : Nat) : Int)) := hR.st.ba.cell 0
      have ck : W.cell? ⟨kb + 1, 0, none⟩ = some (.int .i64 k) := hR.st.bk.cell 0
      have c9' : W.cell? ⟨r, 0, none⟩ = some (.slice A9 R.length c9) := hR.st.st.b9.cell 0
      have s0 : W.cell? ⟨pb, 0, none⟩ = some (.int .i64 ((evF ev k : Nat) : Int)) := hR.bp.cell 0
      have s1 : W.cell? ⟨pb, 1, none⟩ = some (.int .i64 ((posE ev en (k + 1) : Nat) : Int)) := hR.bp.cell 1
      have p0 : W.cell? ⟨hb, 0, none⟩ = some (.int .i32 (evP ev k).1) := hR.bh.cell 0
      have p1 : W.cell? ⟨hb, 1, none⟩ = some (.bool (evP ev k).2.1) := hR.bh.cell 1
      have p2 : W.cell? ⟨hb, 2, none⟩ = some (.int .i32 (evP ev k).2.2) := hR.bh.cell 2
      have X2 := Bel.cell c2
      have Xa := Bel.cell ca
      have Xk := Bel.cell ck
      have X9 := Bel.cell c9'
      have Xs0 := Bel.cell s0
      have Xs1 := Bel.cell s1
      have Xp0 := Bel.cell p0
      have Xp1 := Bel.cell p1
      have Xp2 := Bel.cell p2
      have hT := back_text hev hkl
      have hsz2 : s.data.toList.length = s.size := rfl
      have HT2 := Lib.hid hT
      obtain ⟨t1, t2, t3, t4⟩ := hT
      have d1 : decide (((posE ev en (k + 1) : Nat) : Int) ≤ ((evF ev k : Nat) : Int)) = false := by simp; omega
      have d2 : decide ((s.size : Int) < ((posE ev en (k + 1) : Nat) : Int)) = false := by simp; omega
      have d1' : decide (posE ev en (k + 1) ≤ evF ev k) = false := by simp; omega
      have d2' : decide (s.size < posE ev en (k + 1)) = false := by simp; omega
      have HRo := Lib.hid hR
      have wf : ∀ k, Fence.wide.fn k := fun _ => trivial
      have wd : Fence.wide.depth = none := rfl
      clear hR t2 c2 ca ck c9' s0 s1 p0 p1 p2
      have HRK := Lib.hid (show ∀ h : k < R.length, R[k] = evP ev k from by
        intro h
        have := HRR.out.1
        subst this
        rw [(evP_lt hkl).1]
        simp [fsts])
      generalize hto : posE ev en (k + 1) = to_ at *
      have HTO := Lib.hid hto
      clear hto
      generalize evF ev k = fr at *
      generalize evP ev k = p at *
      have HP := Lib.hid (And.intro (fitP_isF t1).1 t1)
      clear t1
      have n1 : ∀ x : Int, (x != x) = false := fun x => by simp
      have n2 : ∀ x : Bool, (x != x) = false := fun x => by simp
      have hkm : k < 9223372036854775807 := by
        have h1 := ev_many hev
        have h2 := hs
        unfold maxLen at h2
        omega
      have i1 : (0 : Int) ≤ (k : Int) := by omega
      by_cases hkR : k < R.length
      · have j1 : decide ((k : Int) < (R.length : Int)) = true := by simp; omega
        have j2 : (k : Int) < (R.length : Int) := by omega
        obtain ⟨b9, o9, hl9, e9, _, hL9, y0, y1, y2⟩ := HRo.out.st.st.r9.ph hkR
        rw [HRK.out hkR] at y0 y1 y2
        subst e9
        have Y0 := Bel.cell y0
        have Y1 := Bel.cell y1
        have Y2 := Bel.cell y2
        clear y0 y1 y2
        gi_wp2
        refine wpIn_bel_round (by kernel_rfl) (by kernel_rfl) (by kernel_rfl) ?_
        repeat (gi_big_quiet_step (fail))
        gi_big_quiet_want
        gi_big_quiet_op
        refine ⟨.bool true, fun x => ?_, ?_⟩
        · exact callsIn_wide.2 ((Is_any p x.1 HP.out.1).mono (fun e w' h => ⟨by rw [h.1, HP.out.2], x.next h.2⟩))
        go_big_quiet_on
        repeat (gi_big_quiet_step (fail))
        refine wpQuietIn_nil ?_
        intro _ hw'
        obtain ⟨xW, hw''⟩ := hw'
        subst hw''
        obtain ⟨W1, hb1⟩ := xW
        dsimp only
        have hi1 : BkIn w s q r _ c9 R 0 0 kb tx ty fr k W1 := HRo.out.st.on (hb1.mono (by have := HBS.out; omega))
        have hbp := HRo.out.bp.below hb1 HRo.out.bp.lt
        have hbh := HRo.out.bh.below hb1 HRo.out.bh.lt
        have p0 : W1.cell? ⟨hb, 0, none⟩ = some (.int .i32 p.1) := hbh.cell 0
        have p1 : W1.cell? ⟨hb, 1, none⟩ = some (.bool p.2.1) := hbh.cell 1
        have p2 : W1.cell? ⟨hb, 2, none⟩ = some (.int .i32 p.2.2) := hbh.cell 2
        have HI1 := Lib.hid (And.intro hi1 (And.intro hbp (And.intro hbh (And.intro hb1 (Nat.le_trans hsz hb1.size)))))
        clear hi1 hbp hbh hb1 X2 Xa Xk X9 Xs0 Xs1 Xp0 Xp1 Xp2 Y0 Y1 Y2
        gi_wp2_with fail
        refine (CallsIn.inRound l0 (callsIn_wide.2 (print_any _ 1 1 _ [p] _ (rd_one W1 p) (by intro x hx; rw [List.mem_singleton] at hx; rw [hx]; exact fitP_isF HP.out.2) (by unfold maxLen; omega)))).mono ?_
        rw [(pr_one HP.out.2).1, (pr_one HP.out.2).2]
        rintro e W2 ⟨rfl, hb2⟩
        have hb12 : Below W1.heap.size W1 W2 := ((Below.refl _ _).alloc (Nat.le_refl _) _).trans (hb2.mono (by simp))
        have hi2 : BkIn w s q r _ c9 R 0 0 kb tx ty fr k W2 := HI1.out.1.on (hb12.mono (by have := HI1.out.2.2.2.2; have := HBS.out; omega))
        have d5 : W2.cell? ⟨q, 0, none⟩ = some (.string tx) := hi2.st.st.b5.cell 0
        have d6 : W2.cell? ⟨q + 1, 0, none⟩ = some (.int .i64 ty) := hi2.st.st.b6.cell 0
        have f5 : W2.frozen? ⟨q, 0, none⟩ = false := hi2.st.st.b5.frozen 0
        have f6 : W2.frozen? ⟨q + 1, 0, none⟩ = false := hi2.st.st.b6.frozen 0
        have hq := hi2.st.st.lq
        have hlr := hi2.st.lr
        have hlk := hi2.lk
        have hlp := HRo.out.lp
        have hlh := HRo.out.lh
        have hst : BkIn w s q r _ c9 R 0 0 kb (bts (textP p)) 0 fr k ((W2.setCell ⟨q, 0, none⟩ (.string (bts (textP p)))).setCell ⟨q + 1, 0, none⟩ (.int .i64 0)) := hi2.text _ _
        have hbp2 : Blk ((W2.setCell ⟨q, 0, none⟩ (.string (bts (textP p)))).setCell ⟨q + 1, 0, none⟩ (.int .i64 0)) pb 78 #[.int .i64 fr, .int .i64 to_] := ((HI1.out.2.1.below hb12 HI1.out.2.1.lt).far (by simp; omega) _).far (by simp; omega) _
        have ho2 : Only (fun b => (b < wB.heap.size ∧ ¬ b = kb + 2) ∨ False) W ((W2.setCell ⟨q, 0, none⟩ (.string (bts (textP p)))).setCell ⟨q + 1, 0, none⟩ (.int .i64 0)) :=
          (((Only.of_below HI1.out.2.2.2.1 _).trans (Only.of_below hb12 _)).setCell (.inl (.inl ⟨by have := HBS.out; simp; omega, by simp; omega⟩)) _).setCell (.inl (.inl ⟨by have := HBS.out; simp; omega, by simp; omega⟩)) _
        have H3 := Lib.hid (And.intro hst (And.intro hbp2 ho2))
        clear hi2 hst hbp2 ho2 hb2 hb12 HI1 p0 p1 p2
        gi_wp2
        refine wpIn_abs (fun wx => BkIn w s q r _ c9 R 0 0 kb (bts (textP p)) 0 fr k wx ∧ Blk wx pb 78 #[.int .i64 fr, .int .i64 to_] ∧ Only (fun b => (b < wB.heap.size ∧ ¬ b = kb + 2) ∨ False) W wx) H3.out ?_
        rintro W3 ⟨hi3, hbp3, ho3⟩
        have c2 : W3.cell? ⟨w.heap.size, 0, none⟩ = some (.string s) := hi3.st.st.bs.cell 0
        have c5 : W3.cell? ⟨q, 0, none⟩ = some (.string (bts (textP p))) := hi3.st.st.b5.cell 0
        have c6 : W3.cell? ⟨q + 1, 0, none⟩ = some (.int .i64 0) := hi3.st.st.b6.cell 0
        have s0 : W3.cell? ⟨pb, 0, none⟩ = some (.int .i64 fr) := hbp3.cell 0
        have s1 : W3.cell? ⟨pb, 1, none⟩ = some (.int .i64 to_) := hbp3.cell 1
        have ca : W3.cell? ⟨kb, 0, none⟩ = some (.int .i64 fr) := hi3.ba.cell 0
        have fa : W3.frozen? ⟨kb, 0, none⟩ = false := hi3.ba.frozen 0
        have ck : W3.cell? ⟨kb + 1, 0, none⟩ = some (.int .i64 k) := hi3.bk.cell 0
        have fk : W3.frozen? ⟨kb + 1, 0, none⟩ = false := hi3.bk.frozen 0
        have H4 := Lib.hid (And.intro hi3 ho3)
        clear H3 hi3 hbp3 ho3 d5 d6 f5 f6 hq hlr hlk hlp hlh
        have hex : s.extract fr to_ = bts (textP p) := HT2.out.2.1
        have i2 : (0 : Int) ≤ (fr : Int) := by omega
        have i3 : (fr : Int) ≤ (to_ : Int) := by omega
        have i4 : (to_ : Int) ≤ (s.size : Int) := by omega
        have nl : ∀ x : List UInt8, (x != x) = false := fun x => by simp
        gi_wp2
        refine wpIn_quiet_round (by kernel_rfl) (by kernel_rfl) (by kernel_rfl) ?_
        repeat (gi_big_quiet_step (fail))
        refine wpQuietIn_nil ?_
        intro _ hw'
        obtain ⟨nq, hw''⟩ := hw'
        subst hw''
        gi_wp2
        have hkb := HBS.out
        refine ⟨((H4.out.2.drewN _).setCell (.inl (.inl ⟨by simp; omega, by simp⟩)) _).setCell (.inl (.inl ⟨by simp; omega, by simp⟩)) _, bts (textP p), 0, ?_⟩
        rw [HTO.out]
        exact (H4.out.1.on (Below.drewNB (Below.refl _ _) nq)).step to_ (k + 1)
      · have j1 : decide ((k : Int) < (R.length : Int)) = false := by simp; omega
        gi_wp2
        refine wpIn_bel_round (by kernel_rfl) (by kernel_rfl) (by kernel_rfl) ?_
        repeat (gi_big_quiet_step (fail))
        gi_big_quiet_want
        gi_big_quiet_op
        refine ⟨.bool true, fun x => ?_, ?_⟩
        · exact callsIn_wide.2 ((Is_any p x.1 HP.out.1).mono (fun e w' h => ⟨by rw [h.1, HP.out.2], x.next h.2⟩))
        go_big_quiet_on
        repeat (gi_big_quiet_step (fail))
        refine wpQuietIn_nil ?_
        intro _ hw'
        obtain ⟨xW, hw''⟩ := hw'
        subst hw''
        obtain ⟨W1, hb1⟩ := xW
        dsimp only
        have hi1 : BkIn w s q r _ c9 R 0 0 kb tx ty fr k W1 := HRo.out.st.on (hb1.mono (by have := HBS.out; omega))
        have hbp := HRo.out.bp.below hb1 HRo.out.bp.lt
        have hbh := HRo.out.bh.below hb1 HRo.out.bh.lt
        have p0 : W1.cell? ⟨hb, 0, none⟩ = some (.int .i32 p.1) := hbh.cell 0
        have p1 : W1.cell? ⟨hb, 1, none⟩ = some (.bool p.2.1) := hbh.cell 1
        have p2 : W1.cell? ⟨hb, 2, none⟩ = some (.int .i32 p.2.2) := hbh.cell 2
        have HI1 := Lib.hid (And.intro hi1 (And.intro hbp (And.intro hbh (And.intro hb1 (Nat.le_trans hsz hb1.size)))))
        clear hi1 hbp hbh hb1 X2 Xa Xk X9 Xs0 Xs1 Xp0 Xp1 Xp2
        gi_wp2_with fail
        refine (CallsIn.inRound l0 (callsIn_wide.2 (print_any _ 1 1 _ [p] _ (rd_one W1 p) (by intro x hx; rw [List.mem_singleton] at hx; rw [hx]; exact fitP_isF HP.out.2) (by unfold maxLen; omega)))).mono ?_
        rw [(pr_one HP.out.2).1, (pr_one HP.out.2).2]
        rintro e W2 ⟨rfl, hb2⟩
        have hb12 : Below W1.heap.size W1 W2 := ((Below.refl _ _).alloc (Nat.le_refl _) _).trans (hb2.mono (by simp))
        have hi2 : BkIn w s q r _ c9 R 0 0 kb tx ty fr k W2 := HI1.out.1.on (hb12.mono (by have := HI1.out.2.2.2.2; have := HBS.out; omega))
        have d5 : W2.cell? ⟨q, 0, none⟩ = some (.string tx) := hi2.st.st.b5.cell 0
        have d6 : W2.cell? ⟨q + 1, 0, none⟩ = some (.int .i64 ty) := hi2.st.st.b6.cell 0
        have f5 : W2.frozen? ⟨q, 0, none⟩ = false := hi2.st.st.b5.frozen 0
        have f6 : W2.frozen? ⟨q + 1, 0, none⟩ = false := hi2.st.st.b6.frozen 0
        have hq := hi2.st.st.lq
        have hlr := hi2.st.lr
        have hlk := hi2.lk
        have hlp := HRo.out.lp
        have hlh := HRo.out.lh
        have hst : BkIn w s q r _ c9 R 0 0 kb (bts (textP p)) 0 fr k ((W2.setCell ⟨q, 0, none⟩ (.string (bts (textP p)))).setCell ⟨q + 1, 0, none⟩ (.int .i64 0)) := hi2.text _ _
        have hbp2 : Blk ((W2.setCell ⟨q, 0, none⟩ (.string (bts (textP p)))).setCell ⟨q + 1, 0, none⟩ (.int .i64 0)) pb 78 #[.int .i64 fr, .int .i64 to_] := ((HI1.out.2.1.below hb12 HI1.out.2.1.lt).far (by simp; omega) _).far (by simp; omega) _
        have ho2 : Only (fun b => (b < wB.heap.size ∧ ¬ b = kb + 2) ∨ False) W ((W2.setCell ⟨q, 0, none⟩ (.string (bts (textP p)))).setCell ⟨q + 1, 0, none⟩ (.int .i64 0)) :=
          (((Only.of_below HI1.out.2.2.2.1 _).trans (Only.of_below hb12 _)).setCell (.inl (.inl ⟨by have := HBS.out; simp; omega, by simp; omega⟩)) _).setCell (.inl (.inl ⟨by have := HBS.out; simp; omega, by simp; omega⟩)) _
        have H3 := Lib.hid (And.intro hst (And.intro hbp2 ho2))
        clear hi2 hst hbp2 ho2 hb2 hb12 HI1 p0 p1 p2
        gi_wp2
        refine wpIn_abs (fun wx => BkIn w s q r _ c9 R 0 0 kb (bts (textP p)) 0 fr k wx ∧ Blk wx pb 78 #[.int .i64 fr, .int .i64 to_] ∧ Only (fun b => (b < wB.heap.size ∧ ¬ b = kb + 2) ∨ False) W wx) H3.out ?_
        rintro W3 ⟨hi3, hbp3, ho3⟩
        have c2 : W3.cell? ⟨w.heap.size, 0, none⟩ = some (.string s) := hi3.st.st.bs.cell 0
        have c5 : W3.cell? ⟨q, 0, none⟩ = some (.string (bts (textP p))) := hi3.st.st.b5.cell 0
        have c6 : W3.cell? ⟨q + 1, 0, none⟩ = some (.int .i64 0) := hi3.st.st.b6.cell 0
        have s0 : W3.cell? ⟨pb, 0, none⟩ = some (.int .i64 fr) := hbp3.cell 0
        have s1 : W3.cell? ⟨pb, 1, none⟩ = some (.int .i64 to_) := hbp3.cell 1
        have ca : W3.cell? ⟨kb, 0, none⟩ = some (.int .i64 fr) := hi3.ba.cell 0
        have fa : W3.frozen? ⟨kb, 0, none⟩ = false := hi3.ba.frozen 0
        have ck : W3.cell? ⟨kb + 1, 0, none⟩ = some (.int .i64 k) := hi3.bk.cell 0
        have fk : W3.frozen? ⟨kb + 1, 0, none⟩ = false := hi3.bk.frozen 0
        have H4 := Lib.hid (And.intro hi3 ho3)
        clear H3 hi3 hbp3 ho3 d5 d6 f5 f6 hq hlr hlk hlp hlh
        have hex : s.extract fr to_ = bts (textP p) := HT2.out.2.1
        have i2 : (0 : Int) ≤ (fr : Int) := by omega
        have i3 : (fr : Int) ≤ (to_ : Int) := by omega
        have i4 : (to_ : Int) ≤ (s.size : Int) := by omega
        have nl : ∀ x : List UInt8, (x != x) = false := fun x => by simp
        gi_wp2
        refine wpIn_quiet_round (by kernel_rfl) (by kernel_rfl) (by kernel_rfl) ?_
        repeat (gi_big_quiet_step (fail))
        refine wpQuietIn_nil ?_
        intro _ hw'
        obtain ⟨nq, hw''⟩ := hw'
        subst hw''
        gi_wp2
        have hkb := HBS.out
        refine ⟨((H4.out.2.drewN _).setCell (.inl (.inl ⟨by simp; omega, by simp⟩)) _).setCell (.inl (.inl ⟨by simp; omega, by simp⟩)) _, bts (textP p), 0, ?_⟩
        rw [HTO.out]
        exact (H4.out.1.on (Below.drewNB (Below.refl _ _) nq)).step to_ (k + 1)
    case done =>
      rintro W ⟨tx, ty, hI⟩ hmk
      rw [posE_ge (Nat.le_refl _)] at hI
      have z0 : W.cell? ⟨r + 1, 0, none⟩ = some (.int .i64 0) := hI.st.b10.cell 0
      have z1 : W.cell? ⟨r + 1, 1, none⟩ = some (.int .i64 0) := hI.st.b10.cell 1
      have ca : W.cell? ⟨kb, 0, none⟩ = some (.int .i64 en) := hI.ba.cell 0
      have ck : W.cell? ⟨kb + 1, 0, none⟩ = some (.int .i64 ev.length) := hI.bk.cell 0
      have c2 : W.cell? ⟨w.heap.size, 0, none⟩ = some (.string s) := hI.st.st.bs.cell 0
      have c9' : W.cell? ⟨r, 0, none⟩ = some (.slice A9 R.length c9) := hI.st.b9.cell 0
      have hB := HBS.out
      have hlk := hI.lk
      have hlr := hI.st.lr
      have hlq := hI.st.st.lq
      have HJ := Lib.hid (And.intro (And.intro hI.st.st.br hI.st.st.below) (show Marks (w.heap.size + 2) [{ target := .collected wB.heap.size, args := #[] }] W from ⟨wB.heap.size, rfl, by omega, hmk, fun d hd => (by simp at hd), trivial⟩))
      clear hI hmk hB hlk hlr hlq
      have e1 : ((en : Int) == (s.size : Int)) = true := by
        have h1 := HRR.out.2.1
        have h2 : s.data.toList.length = s.size := rfl
        have : (en : Int) = (s.size : Int) := by omega
        simpa using this
      have e2 : ((ev.length : Int) == (R.length : Int)) = true := by
        have h1 := HRR.out.1
        have : (ev.length : Int) = (R.length : Int) := by rw [h1, fsts_len]
        simpa using this
      go_wp2_with fail
      refine (works_any W).mono ?_
      rintro e wz ⟨rfl, hb⟩
      have hbr := HJ.out.1.1.below hb HJ.out.1.1.lt
      have r0 : wz.cell? ⟨w.heap.size + 1, 0, none⟩ = some (.bool false) := hbr.cell 0
      have r1 : wz.frozen? ⟨w.heap.size + 1, 0, none⟩ = false := hbr.frozen 0
      have HZ := Lib.hid (And.intro hbr (And.intro (HJ.out.2.below hb) (HJ.out.1.2.trans (hb.mono HJ.out.1.2.size))))
      clear hb HJ hbr z0 z1 ca ck c2 c9'
      go_wp2
      refine bodyPostM_ret (HZ.out.2.1.setCell HZ.out.1 0 (.bool true)) ?_
      exact bk_end HZ.out.1 HZ.out.2.2 _ rfl
    case stop =>
      rintro c k W _ _ h _
      exact h.elim

theorem phoneBack_any (s : ByteArray) (A : Option Addr) (n c : Nat) (l : List Ph) (w : World) (hs : s.size ≤ maxLen) (h : Rd w 0 w.heap.size 3 A n (phs l)) (hf : ∀ p ∈ l, fitP p) (hn : n * 12 ≤ 140737488351232) : Calls Try.prog 8 #[.string s, .slice A n c] w fun e w' => e = .returned (.bool true) ∧ Below w.heap.size w w' := by
  obtain ⟨⟨ev, en⟩, hev⟩ : ∃ x, evL s.data.toList = x := ⟨_, rfl⟩
  rcases back_cases hev with ⟨h1, h2⟩ | ⟨h1, h2, h3, h4, h5⟩
  · exact phoneBack_err s A n c l w hs h hf hn hev (show readL s.data.toList = ((readL s.data.toList).1, (readL s.data.toList).2.1, (readL s.data.toList).2.2) from rfl) h1 h2
  · exact phoneBack_ok s A n c l w hs h hf hn hev h1 rfl h2 h3 h4 h5
end Go.Proofs.Ytogofchpocoebaa
