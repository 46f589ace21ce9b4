/- slices.Backward over syllables; rhyme.last.
   rhyme.last: the number of the tail syllable.
   rhyme.may, tail, head, key.
   rhyme.head, key. -/
import Derived.Test.YtogofchpocoebaaY0
import Derived.Test.YtogofchpocoebaaS6
import Derived.Test.YtogofchpocoebaaMem
import Derived.Test.YtogofchpocoebaaY1
import Derived.Test.YtogofchpocoebaaQ6
namespace Go.Proofs.Ytogofchpocoebaa
open Go.RowKit Go.Maps
attribute [local go_sem] Oper.semAt_some

theorem back_call (D : Option Addr) (m d : Nat) (w : World) : Calls Try.prog 153 #[.slice D m d] w fun e w' => e = .returned (.func (.func 165) #[] #[.pointer (some ⟨w.heap.size, 0, none⟩)]) ∧ w' = w.alloc (.cells #[.slice D m d] 23) := by
  go_enter Try.func153, Try.ntmps153
  go_wp2
  go_ret
  exact ⟨rfl, rfl⟩

def syV (s : Sy) : Value := .agg #[.int .i64 s.fr, .int .i64 s.nu, .int .i64 s.to_, .int .i64 s.st, .bool s.hv]
/-- what Backward says of a syllable that it hands over -/
def BwX (ss : List Sy) (_B k : Nat) (args : Array Value) (_W : World) : Prop := k < ss.length ∧ args = #[.int .i64 ((ss.length - 1 - k : Nat) : Int), .agg #[.int .i64 (ss.getD (ss.length - 1 - k) sy0).fr, .int .i64 (ss.getD (ss.length - 1 - k) sy0).nu, .int .i64 (ss.getD (ss.length - 1 - k) sy0).to_, .int .i64 (ss.getD (ss.length - 1 - k) sy0).st, .bool (ss.getD (ss.length - 1 - k) sy0).hv]]

set_option maxHeartbeats 8000000 in
set_option maxRecDepth 100000 in
theorem back_gives (sb : Nat) (D : Option Addr) (m d L B : Nat) (ss : List Sy) (W : World) (hsb : Blk W sb 23 #[.slice D m d]) (hr : Rd W L B 5 D m (sys ss)) (hB : B ≤ W.heap.size) (hm : m ≤ 1000000) : Gives Try.prog 165 #[.pointer (some ⟨sb, 0, none⟩)] m (BwX ss) (fun _ _ => False) (fun b => b = sb ∨ (L ≤ b ∧ b < B)) W := by
  have eD := hr.len_sy
  intro l J Jx hJ hJx hY h0
  show Calls Try.prog 165 #[.func (.yield l) #[] #[], .pointer (some ⟨sb, 0, none⟩)] W _
  have HJ := Lib.hid (And.intro hJ h0)
  have HY := Lib.hid hY
  have HS := Lib.hid (And.intro h0 (And.intro hsb (And.intro hr (Nat.le_refl W.heap.size))))
  have hlt := hsb.lt
  have c0 : W.cell? ⟨sb, 0, none⟩ = some (.slice D m d) := hsb.cell 0
  clear hJ hJx hY h0 hsb hr
  go_enter Try.func165, Try.ntmps165
  go_wp2
  clear c0
  go_loopw [3] (fun v3 wr => ∃ (k : Nat) (x : Int), k ≤ m ∧ v3 = .int .i64 x ∧ x = (m : Int) - 1 - k ∧ Hid (J k wr ∧ Blk wr sb 23 #[.slice D m d] ∧ Rd wr L B 5 D m (sys ss) ∧ W.heap.size ≤ wr.heap.size)) (fun v _ => (intOf v + 1).toNat)
  case atStart => exact ⟨0, (m : Int) - 1, by omega, rfl, by omega, HS⟩
  case round =>
    obtain ⟨k, x, hk, rfl, hx, HR⟩ := hrel
    clear HS
    have c0 : wr.cell? ⟨sb, 0, none⟩ = some (.slice D m d) := HR.out.2.1.cell 0
    by_cases hlt2 : k < m
    · obtain ⟨j, hj⟩ : ∃ j : Nat, j = m - 1 - k := ⟨_, rfl⟩
      obtain rfl : x = (j : Int) := by omega
      obtain ⟨b, o, hl, rfl, hL, hB2, y0, y1, y2, y3, y4⟩ := HR.out.2.2.1.sy (k := j) (by omega)
      have hX : BwX ss W.heap.size k #[.int .i64 (j : Int), .agg #[.int .i64 ss[j].fr, .int .i64 ss[j].nu, .int .i64 ss[j].to_, .int .i64 ss[j].st, .bool ss[j].hv]] wr := by
        refine ⟨by omega, ?_⟩
        have e : ss.length - 1 - k = j := by omega
        rw [e, List.getD_eq_getElem?_getD, List.getElem?_eq_getElem hl]; rfl
      have HX := Lib.hid hX
      generalize ss[j] = s at *
      have q1 : decide ((0 : Int) ≤ (j : Int)) = true := by simp
      have i1 : (0 : Int) ≤ (j : Int) := by omega
      have i2 : (j : Int) < (m : Int) := by omega
      obtain ⟨fn, tmps, assign, body, hy, hR⟩ := roundR (HY.out k _ wr hlt2 HR.out.1 HR.out.2.2.2 HX.out)
      have HRR := Lib.hid hR
      have HJK := Lib.hid (show j + 1 + k = m by omega)
      clear hx hX hR hj
      have wf : ∀ k, Fence.wide.fn k := fun _ => trivial
      have wd : Fence.wide.depth = none := rfl
      go_upto_region 3 with (fail)
      refine (wpIn_wide (n := 0)).1 ?_
      gi_wp2_with (with_reducible refine HRR.out.mono ?_)
      rintro e w3 ⟨b2, rfl, hq, ho⟩
      have HQ := Lib.hid (And.intro (HR.out.2.1.only ho (fun h => by rcases h with h | h; exact h.2 (.inl rfl); exact h)) (And.intro (HR.out.2.2.1.keep (fun b o hL hB => ho.cell (by have := HR.out.2.2.2; omega) (fun h => by rcases h with h | h; exact h.2 (.inr ⟨hL, hB⟩); exact h))) (Nat.le_trans HR.out.2.2.2 ho.size)))
      clear ho HR HRR y0 y1 y2 y3 y4 c0 hy
      cases b2 with
      | true =>
        have HJ3 := Lib.hid (hq.1 rfl)
        clear hq
        gi_wp2
        go_wp2
        go_roundw
        case rel => exact ⟨k + 1, (j : Int) - 1, by omega, by go_num, by have := HJK.out; omega, Lib.hid ⟨HJ3.out, HQ.out⟩⟩
        case measure => simp [intOf]
      | false =>
        have HJ3 := Lib.hid (hq.2 rfl)
        clear hq
        gi_wp2
        go_wp2
        refine bodyPost_ret (results_none rfl _ _ _) rfl ?_
        exact ⟨⟨_, rfl⟩, .inr ⟨k + 1, by omega, by omega, HJ3.out⟩⟩
    · obtain rfl : k = m := by omega
      have q1 : decide ((0 : Int) ≤ x) = false := by simp; omega
      have q2 : ¬ ((0 : Int) ≤ x) := by omega
      go_wp2
      go_end0
      exact ⟨⟨_, rfl⟩, .inl HR.out.1⟩
end Go.Proofs.Ytogofchpocoebaa

namespace Go.Proofs.Ytogofchpocoebaa
open Go.RowKit Go.Maps
attribute [local go_sem] Oper.semAt_some

/-- memory while last runs -/
structure LaSt (w0 : World) (A : Option Addr) (n c : Nat) (D : Option Addr) (m d L B : Nat) (ss : List Sy) (x : Int) (ds : List Deferred) (W : World) : Prop where
  b1 : Blk W w0.heap.size 25 #[.slice A n c, .slice D m d]
  b2 : Blk W (w0.heap.size + 1) 3 #[.int .i64 x]
  bg : Blk W (w0.heap.size + 2) 3 #[.int .i64 2, .int .i64 1]
  rd : Rd W L B 5 D m (sys ss)
  below : Below w0.heap.size w0 W
  mar : Marks (w0.heap.size + 3) ds W
  lB : B ≤ w0.heap.size
section
variable {w0 : World} {A : Option Addr} {n c : Nat} {D : Option Addr} {m d L B : Nat} {ss : List Sy} {x : Int} {ds : List Deferred} {W W' : World}
theorem LaSt.on (h : LaSt w0 A n c D m d L B ss x ds W) (hb : Below W.heap.size W W') : LaSt w0 A n c D m d L B ss x ds W' :=
  ⟨h.b1.below hb h.b1.lt, h.b2.below hb h.b2.lt, h.bg.below hb h.bg.lt, h.rd.below hb (Nat.le_trans h.lB h.below.size), h.below.trans (hb.mono h.below.size), h.mar.below hb, h.lB⟩
theorem LaSt.stay {S : Nat → Prop} {BB : Nat} (h : LaSt w0 A n c D m d L B ss x ds W) (ho : Only S W W') (hS : ∀ b, S b → BB ≤ b) (hB : w0.heap.size + 3 ≤ BB) (lm : ∀ d ∈ ds, ∃ r, d.target = .collected r ∧ r < BB) : LaSt w0 A n c D m d L B ss x ds W' := by
  have l1 := h.lB
  have l2 := h.below.size
  refine ⟨h.b1.only ho (fun hs => ?_), h.b2.only ho (fun hs => ?_), h.bg.only ho (fun hs => ?_), h.rd.keep (fun b o _ hb => ho.cell (by omega) (fun hs => ?_)), h.below.trans (ho.below h.below.size (fun b hb hs => ?_)), ?_, h.lB⟩
  rotate_right 1
  · refine h.mar.keep fun r _ hr hd => (ho.block r (Array.getElem?_eq_some_iff.1 hr).1 (fun hs => ?_)).trans hr
    obtain ⟨d, hd, hdr⟩ := hd
    obtain ⟨r', h1, h2⟩ := lm d hd
    rw [hdr] at h1
    injection h1 with h1
    have := hS _ hs
    omega
  all_goals have := hS _ hs; omega
theorem LaSt.set (h : LaSt w0 A n c D m d L B ss x ds W) (y : Int) : LaSt w0 A n c D m d L B ss y ds (W.setCell ⟨w0.heap.size + 1, 0, none⟩ (.int .i64 y)) := by
  have l1 := h.lB
  refine ⟨h.b1.far (by simp) _, by simpa using h.b2.set_ 0 (.int .i64 y), h.bg.far (by simp) _, h.rd.keep (fun b o _ hb => ?_), h.below.setCell (by simp) _, h.mar.setCell h.b2 0 _, l1⟩
  exact World.cell?_of_block (w := W) (Below.heap_setCell _ _ _ _ (by simp; omega))
end
/-- memory between two rounds of the inner range -/
structure LaIn (w0 : World) (A : Option Addr) (n c : Nat) (D : Option Addr) (m d L B : Nat) (ss : List Sy) (x : Int) (ds : List Deferred) (vb : Nat) (v : Int) (W : World) : Prop where
  st : LaSt w0 A n c D m d L B ss x ds W
  bv : Blk W vb 3 #[.int .i64 v]
  bs : Blk W (vb + 1) 23 #[.slice D m d]
  lv : w0.heap.size + 3 ≤ vb
  lm : ∀ d ∈ ds, ∃ r, d.target = .collected r ∧ r < vb + 2
section
variable {w0 : World} {A : Option Addr} {n c : Nat} {D : Option Addr} {m d L B : Nat} {ss : List Sy} {x : Int} {ds : List Deferred} {vb : Nat} {v : Int} {W W' : World}
theorem LaIn.stay {S : Nat → Prop} (h : LaIn w0 A n c D m d L B ss x ds vb v W) (ho : Only S W W') (hS : ∀ b, S b → vb + 2 ≤ b) : LaIn w0 A n c D m d L B ss x ds vb v W' := by
  have l := h.lv
  refine ⟨h.st.stay ho hS (by omega) h.lm, h.bv.only ho (fun hs => ?_), h.bs.only ho (fun hs => ?_), h.lv, h.lm⟩
  all_goals have := hS _ hs; omega
theorem LaIn.on (h : LaIn w0 A n c D m d L B ss x ds vb v W) (hb : Below (vb + 2) W W') : LaIn w0 A n c D m d L B ss x ds vb v W' :=
  h.stay (S := fun b => vb + 2 ≤ b) ⟨hb.os, hb.tape, hb.output, hb.size, fun j _ hs => hb.block j (by omega)⟩ (fun _ hs => hs)
theorem LaIn.set (h : LaIn w0 A n c D m d L B ss x ds vb v W) (y : Int) : LaIn w0 A n c D m d L B ss y ds vb v (W.setCell ⟨w0.heap.size + 1, 0, none⟩ (.int .i64 y)) := by
  have l := h.lv
  exact ⟨h.st.set y, h.bv.far (by simp; omega) _, h.bs.far (by simp; omega) _, l, h.lm⟩
theorem LaIn.leave (h : LaIn w0 A n c D m d L B ss x ds vb v W) (hk : W.heap[vb + 2]? = some (.deferred (some []))) : LaSt w0 A n c D m d L B ss x ({ target := .collected (vb + 2), args := #[] } :: ds) W := by
  have l := h.lv
  have hs := h.st
  refine ⟨hs.b1, hs.b2, hs.bg, hs.rd, hs.below, ⟨vb + 2, rfl, by omega, hk, fun d hd e => ?_, hs.mar⟩, hs.lB⟩
  obtain ⟨r, h1, h2⟩ := h.lm d hd
  rw [h1] at e
  injection e with e
  omega
theorem LaSt.enter (h : LaSt w0 A n c D m d L B ss x ds W) (v : Int) : LaIn w0 A n c D m d L B ss x ds W.heap.size v ((W.alloc (.cells #[.int .i64 v] 3)).alloc (.cells #[.slice D m d] 23)) := by
  have hb : Below W.heap.size W ((W.alloc (.cells #[.int .i64 v] 3)).alloc (.cells #[.slice D m d] 23)) := ((Below.refl _ W).alloc (Nat.le_refl _) _).alloc (by simp) _
  have l := h.bg.lt
  refine ⟨h.on hb, (Blk.new _ _ _).alloc _, blk_new_eq (by simp), by omega, fun d hd => ?_⟩
  obtain ⟨r, h1, h2⟩ := h.mar.lt d hd
  exact ⟨r, h1, by omega⟩
end
theorem la_end {w0 : World} {A : Option Addr} {n c : Nat} {D : Option Addr} {m d L B : Nat} {ss : List Sy} {x : Int} {ds : List Deferred} {w : World} (h : LaSt w0 A n c D m d L B ss x ds w) (tmps : Array Value) (ht : tmps[2]? = some (.pointer (some ⟨w0.heap.size + 1, 0, none⟩))) (hx : x = (lastF ss : Int)) : ∀ w', Below (w0.heap.size + 3) w w' →
    ∃ v, (results Try.f107 tmps).run Try.prog w' = .ok v w' ∧ (fun e w' => e = Ending.returned (.int .i64 (lastF ss : Int)) ∧ Below w0.heap.size w0 w') (.returned v) w' := by
  intro w' hb
  have g : w'.cell? ⟨w0.heap.size + 1, 0, none⟩ = some (.int .i64 x) := by
    have := (h.b2.below hb (by omega)).cell 0
    simpa using this
  refine ⟨.int .i64 x, ?_, by rw [hx], h.below.trans (hb.mono (by omega))⟩
  simp [results, Try.results107, go_sem, g, ht]
theorem lastAt_step {ss : List Sy} {v : Int} {k : Nat} (hk : k < ss.length) : lastAt ss v (ss.length - k) = if (ss.getD (ss.length - 1 - k) sy0).st = v then some (ss.length - 1 - k) else lastAt ss v (ss.length - (k + 1)) := by
  rw [show ss.length - k = (ss.length - 1 - k) + 1 by omega, show ss.length - (k + 1) = ss.length - 1 - k by omega]
  rfl

set_option maxHeartbeats 8000000 in
set_option maxRecDepth 100000 in
theorem last_any (A : Option Addr) (n c : Nat) (D : Option Addr) (m d L B : Nat) (ss : List Sy) (w : World) (h2 : Rd w L B 5 D m (sys ss)) (hB : B ≤ w.heap.size) (h0 : 0 < m) (h64 : m ≤ 64) :
    Calls Try.prog 107 #[.agg #[.slice A n c, .slice D m d]] w fun e w' => e = .returned (.int .i64 (lastF ss : Int)) ∧ Below w.heap.size w w' := by
  have HN := Lib.hid h2.len_sy
  have HR0 := Lib.hid (And.intro h2 hB)
  clear h2
  refine calls_of_wp_marks Try.func107 rfl ?_
  simp only [Try.ntmps107, List.size_toArray, List.length_cons, List.length_nil, Nat.reduceAdd, Nat.reduceSub, Array.replicate_succ, Array.replicate_zero, List.push_toArray, List.append_toArray, List.nil_append, List.cons_append]
  go_wp2
  refine wp_abs (LaSt w A n c D m d L B ss 0 []) ?fs ?_
  case fs =>
    have hb : Below w.heap.size w (((w.alloc (.cells #[.slice A n c, .slice D m d] 25)).alloc (.cells #[.int .i64 0] 3)).alloc (.cells #[.int .i64 2, .int .i64 1] 3)) := (((Below.refl _ _).alloc (Nat.le_refl _) _).alloc (by simp) _).alloc (by simp; omega) _
    exact ⟨((Blk.new _ _ _).alloc _).alloc _, (blk_new_eq (by simp)).alloc _, blk_new_eq (by simp), HR0.out.1.below hb hB, hb, trivial, hB⟩
  intro w3 hS
  have H3 := Lib.hid hS
  clear hS
  refine wp_loop (fun a' w' => ∃ (ds : List Deferred) (j : Nat) (u4 u10 u11 u12 u13 u14 u15 u23 : Value), (j ≤ 2 ∧ Hid (LaSt w A n c D m d L B ss 0 ds w') ∧ Hid ((0 < j → lastAt ss 2 ss.length = none) ∧ (1 < j → lastAt ss 1 ss.length = none))) ∧ a' = { tmps := #[.agg #[.slice A n c, .slice D m d], .pointer (some ⟨w.heap.size, 0, none⟩), .pointer (some ⟨w.heap.size + 1, 0, none⟩), undef, u4, undef, undef, .slice (some ⟨w.heap.size + 2, 0, none⟩) 2 2, .int .i64 2, .int .i64 (j : Nat), u10, u11, u12, u13, u14, u15, undef, undef, undef, undef, undef, undef, undef, u23, undef, undef, undef, undef], defers := ds }) (fun a' _ => 2 - (intOf (a'.tmps.getD 9 undef)).toNat) ?start ?round
  case start =>
    refine ⟨[], 0, ?_⟩
    (repeat apply Exists.intro)
    exact ⟨⟨by omega, H3, Lib.hid ⟨fun h => absurd h (by omega), fun h => absurd h (by omega)⟩⟩, rfl⟩
  case round =>
    clear H3
    intro _ wr hinv
    obtain ⟨ds, hinv⟩ := hinv
    obtain ⟨j, hinv⟩ := hinv
    obtain ⟨u4, hinv⟩ := hinv
    obtain ⟨u10, hinv⟩ := hinv
    obtain ⟨u11, hinv⟩ := hinv
    obtain ⟨u12, hinv⟩ := hinv
    obtain ⟨u13, hinv⟩ := hinv
    obtain ⟨u14, hinv⟩ := hinv
    obtain ⟨u15, hinv⟩ := hinv
    obtain ⟨u23, hinv⟩ := hinv
    obtain ⟨⟨hj, HR, HL⟩, ha⟩ := hinv
    subst ha
    try dsimp only
    by_cases hlt : j < 2
    · have cg : wr.cell? ⟨w.heap.size + 2, j, none⟩ = some (.int .i64 (2 - (j : Int))) := by
        rw [HR.out.bg.cell]
        have : j = 0 ∨ j = 1 := by omega
        rcases this with rfl | rfl <;> rfl
      have cg0 : wr.cell? ⟨w.heap.size + 2, 0 + j, none⟩ = some (.int .i64 (2 - (j : Int))) := by rw [Nat.zero_add]; exact cg
      have c1 : wr.cell? ⟨w.heap.size, 1, none⟩ = some (.slice D m d) := HR.out.b1.cell 1
      have i1 : (0 : Int) ≤ (j : Int) := by omega
      have i2 : (j : Int) < 2 := by omega
      have lw := HR.out.b1.lt
      go_upto_region 4 with (fail)
      refine wp_abs (fun wx => wx = wr.alloc (.cells #[.int .i64 (2 - (j : Int))] 3)) rfl ?_
      intro wA hA
      have hAs : wA.heap.size = wr.heap.size + 1 := by rw [hA]; simp
      have c1A : wA.cell? ⟨w.heap.size, 1, none⟩ = some (.slice D m d) := by
        rw [hA]
        exact (HR.out.b1.alloc _).cell 1
      have HA := Lib.hid hA
      clear hA cg cg0 c1
      go_wp2_with fail
      refine (back_call D m d wA).mono ?_
      rintro e wB ⟨rfl, hB2⟩
      rw [hAs]
      have hI := HR.out.enter (2 - (j : Int))
      rw [← HA.out, ← hB2] at hI
      have hBs : wB.heap.size = wr.heap.size + 2 := by rw [hB2]; simp [hAs]
      have HI := Lib.hid hI
      have HBS := Lib.hid hBs
      clear hI HA HR hAs hB2 hBs c1A lw
      generalize hvb : wr.heap.size = vb at *
      go_wp2
      refine wp_range (gf := 165) (lb := #[.pointer (some ⟨vb + 1, 0, none⟩)]) (N := m) (X := BwX ss) (T := fun _ _ => False) (C := fun b => b = vb + 1 ∨ (L ≤ b ∧ b < B)) rfl (enters_of Try.func165 (by kernel_rfl) rfl)
        (fun W hb _ => back_gives (vb + 1) D m d L B ss W (HI.out.bs.below hb HI.out.bs.lt) ((HI.out.st.on hb).rd) (Nat.le_trans (Nat.le_trans hB HI.out.st.below.size) hb.size) (by omega)) (fun b e => by rcases e with rfl | e; exact HI.out.bs.lt; have := HI.out.st.below.size; omega) ?hX
        (fun k W => lastAt ss (2 - (j : Int)) ss.length = lastAt ss (2 - (j : Int)) (ss.length - k) ∧ LaIn w A n c D m d L B ss 0 ds vb (2 - (j : Int)) W) (fun c_ k W => c_ = .ret ∧ ∃ i : Nat, lastAt ss (2 - (j : Int)) ss.length = some i ∧ LaIn w A n c D m d L B ss (i : Int) ds vb (2 - (j : Int)) W)
        (fun k A_ A' h hb => ⟨h.1, h.2.on (by rw [HBS.out] at hb; exact hb)⟩) (fun c_ k A_ A' h hb => by obtain ⟨h1, i, h2, h3⟩ := h; exact ⟨h1, i, h2, h3.on (by rw [HBS.out] at hb; exact hb)⟩) ⟨rfl, HI.out⟩
        (fun k args a' W => ∃ xb : Nat, args = #[.int .i64 ((ss.length - 1 - k : Nat) : Int), .agg #[.int .i64 (ss.getD (ss.length - 1 - k) sy0).fr, .int .i64 (ss.getD (ss.length - 1 - k) sy0).nu, .int .i64 (ss.getD (ss.length - 1 - k) sy0).to_, .int .i64 (ss.getD (ss.length - 1 - k) sy0).st, .bool (ss.getD (ss.length - 1 - k) sy0).hv]] ∧ lastAt ss (2 - (j : Int)) ss.length = lastAt ss (2 - (j : Int)) (ss.length - k) ∧ (LaIn w A n c D m d L B ss 0 ds vb (2 - (j : Int)) W ∧ Blk W xb 37 #[.int .i64 (ss.getD (ss.length - 1 - k) sy0).fr, .int .i64 (ss.getD (ss.length - 1 - k) sy0).nu, .int .i64 (ss.getD (ss.length - 1 - k) sy0).to_, .int .i64 (ss.getD (ss.length - 1 - k) sy0).st, .bool (ss.getD (ss.length - 1 - k) sy0).hv] ∧ vb + 4 ≤ xb) ∧ a' = { tmps := #[.agg #[.slice A n c, .slice D m d], .pointer (some ⟨w.heap.size, 0, none⟩), .pointer (some ⟨w.heap.size + 1, 0, none⟩), undef, .pointer (some ⟨vb, 0, none⟩), .int .i64 ((ss.length - 1 - k : Nat) : Int), .pointer (some ⟨xb, 0, none⟩), .slice (some ⟨w.heap.size + 2, 0, none⟩) 2 2, .int .i64 2, .int .i64 (j : Nat), .bool true, .pointer (some ⟨w.heap.size + 2, j, none⟩), .int .i64 (2 - (j : Int)), .pointer (some ⟨w.heap.size, 1, none⟩), .slice D m d, .func (.func 165) #[] #[.pointer (some ⟨vb + 1, 0, none⟩)], .int .i64 ((ss.length - 1 - k : Nat) : Int), .agg #[.int .i64 (ss.getD (ss.length - 1 - k) sy0).fr, .int .i64 (ss.getD (ss.length - 1 - k) sy0).nu, .int .i64 (ss.getD (ss.length - 1 - k) sy0).to_, .int .i64 (ss.getD (ss.length - 1 - k) sy0).st, .bool (ss.getD (ss.length - 1 - k) sy0).hv], undef, undef, undef, undef, undef, u23, undef, undef, undef, undef], defers := [] })
        ?hAx ?assign ?body ?done ?stop
      case hX =>
        rintro k args W ⟨hk, rfl⟩
        exact ⟨rfl, fun b h => h.elim⟩
      case hAx =>
        rintro k args a' A_ A' ⟨xb, h1, h2, ⟨h3, h4, h5⟩, h6⟩ ho _ _
        have hBs := HBS.out
        exact ⟨xb, h1, h2, ⟨h3.stay ho (fun b e => by omega), h4.only ho (by omega), h5⟩, h6⟩
      case assign =>
        rintro l0 k args W hk ⟨hl, hI⟩ ⟨hkl, rfl⟩ hsz
        have HJ := Lib.hid (And.intro hl hI)
        clear hl hI
        rw [HBS.out] at hsz
        simp only [List.zip_toArray, List.zip_cons_cons, List.zip_nil_right, List.foldl_toArray', List.foldl_cons, List.foldl_nil]
        gi_wp2
        refine ⟨(Only.refl _ _).alloc _, W.heap.size, trivial, HJ.out.1, ⟨HJ.out.2.on ((Below.refl _ _).alloc (by omega) _), Blk.new _ _ _, by omega⟩, rfl⟩
      case body =>
        rintro l0 k args a₁ W hk ⟨xb, rfl, hl, ⟨hI, hX, hlx⟩, rfl⟩ hsz
        have hkl : k < ss.length := by have := HN.out; omega
        rw [lastAt_step hkl] at hl
        have x3 : W.cell? ⟨xb, 3, none⟩ = some (.int .i64 (ss.getD (ss.length - 1 - k) sy0).st) := hX.cell 3
        have cv : W.cell? ⟨vb, 0, none⟩ = some (.int .i64 (2 - (j : Int))) := hI.bv.cell 0
        have r0 : W.cell? ⟨w.heap.size + 1, 0, none⟩ = some (.int .i64 0) := hI.st.b2.cell 0
        have r1 : W.frozen? ⟨w.heap.size + 1, 0, none⟩ = false := hI.st.b2.frozen 0
        have hlv := hI.lv
        have HJ := Lib.hid hI
        have HLK := Lib.hid hl
        clear hI hX hl
        have wf : ∀ k, Fence.wide.fn k := fun _ => trivial
        have wd : Fence.wide.depth = none := rfl
        generalize (ss.getD (ss.length - 1 - k) sy0).st = st at *
        by_cases hst : st = 2 - (j : Int)
        · have e1 : (st == 2 - (j : Int)) = true := by simpa using hst
          have HW := Lib.hid (show lastAt ss (2 - (j : Int)) ss.length = some (ss.length - 1 - k) by rw [HLK.out, if_pos hst])
          clear hst HLK
          gi_wp2
          refine ⟨(Only.refl _ _).setCell (.inl (.inl ⟨by have := HBS.out; simp; omega, fun h => by rcases h with h | h; (simp at h; omega); (simp at h; omega)⟩)) _, rfl, ss.length - 1 - k, HW.out, HJ.out.set _⟩
        · have e1 : (st == 2 - (j : Int)) = false := by simpa using hst
          have HW := Lib.hid (show lastAt ss (2 - (j : Int)) ss.length = lastAt ss (2 - (j : Int)) (ss.length - (k + 1)) by rw [HLK.out, if_neg hst])
          clear hst HLK
          gi_wp2
          exact ⟨Only.refl _ _, HW.out, HJ.out⟩
      case done =>
        rintro W ⟨hl, hI⟩ hmk
        have hL := hI.leave (by rw [HBS.out] at hmk; exact hmk)
        have HW := Lib.hid hL
        have hnone : lastAt ss (2 - (j : Int)) ss.length = none := by
          have h1 := HN.out
          rw [hl, show ss.length - m = 0 by omega]; rfl
        have HQ := Lib.hid (show (0 < j + 1 → lastAt ss 2 ss.length = none) ∧ (1 < j + 1 → lastAt ss 1 ss.length = none) by
          have : j = 0 ∨ j = 1 := by omega
          rcases this with rfl | rfl
          · exact ⟨fun _ => hnone, fun h => absurd h (by omega)⟩
          · exact ⟨fun _ => HL.out.1 (by omega), fun _ => hnone⟩)
        have HBB := Lib.hid HBS.out
        clear hI hmk hL hl hnone
        rw [HBB.out]
        go_wp2
        refine ⟨⟨{ target := .collected (vb + 2), args := #[] } :: ds, j + 1, ?_⟩, ?_⟩
        · (repeat apply Exists.intro)
          exact ⟨⟨by omega, HW, HQ⟩, rfl⟩
        · simp [intOf]; omega
      case stop =>
        rintro c_ k W hk0 hkN ⟨rfl, i, hl, hI⟩ hmk
        have hL := hI.leave (by rw [HBS.out] at hmk; exact hmk)
        have HW := Lib.hid hL
        have hlast : (i : Int) = (lastF ss : Int) := by
          have : j = 0 ∨ j = 1 := by omega
          rcases this with rfl | rfl
          · unfold lastF
            have hl' : lastAt ss 2 ss.length = some i := hl
            rw [hl']
          · unfold lastF
            have hl' : lastAt ss 1 ss.length = some i := hl
            rw [HL.out.1 (by omega), hl']
        have HQ := Lib.hid hlast
        have HBB := Lib.hid HBS.out
        clear hI hmk hL hl hlast
        rw [HBB.out]
        go_wp2
        refine bodyPostM_ret HW.out.mar ?_
        exact la_end HW.out _ rfl HQ.out
    · obtain rfl : j = 2 := by omega
      have hlast : ((m : Int) - 1) = (lastF ss : Int) := by
        unfold lastF
        rw [HL.out.1 (by omega), HL.out.2 (by omega)]
        have := HN.out
        simp only
        omega
      have HQ := Lib.hid hlast
      have c1 : wr.cell? ⟨w.heap.size, 1, none⟩ = some (.slice D m d) := HR.out.b1.cell 1
      have r0 : wr.cell? ⟨w.heap.size + 1, 0, none⟩ = some (.int .i64 0) := HR.out.b2.cell 0
      have r1 : wr.frozen? ⟨w.heap.size + 1, 0, none⟩ = false := HR.out.b2.frozen 0
      clear hlast HL hlt hj
      go_wp2
      refine bodyPostM_ret (HR.out.set _).mar ?_
      exact la_end (HR.out.set _) _ rfl HQ.out
end Go.Proofs.Ytogofchpocoebaa

namespace Go.Proofs.Ytogofchpocoebaa
open Go.RowKit Go.Maps

/-- a form as it lies in memory: two slices, and what they hold -/
structure Sd where
  A : Option Addr
  n : Nat
  c : Nat
  D : Option Addr
  m : Nat
  d : Nat
  l : List Ph
  ss : List Sy
def sdC (x : Sd) : List Value := [.slice x.A x.n x.c, .slice x.D x.m x.d]
theorem sdC_len (x : Sd) : (sdC x).length = 2 := rfl
structure SdIn (W : World) (B : Nat) (x : Sd) : Prop where
  ph : Rd W 0 B 3 x.A x.n (phs x.l)
  sy : Rd W 0 B 5 x.D x.m (sys x.ss)
  fit : ∀ p ∈ x.l, fitP p
  cap : x.n ≤ x.c
theorem SdIn.below {W W' : World} {B : Nat} {x : Sd} (h : SdIn W B x) (hb : Below W.heap.size W W') (hB : B ≤ W.heap.size) : SdIn W' B x := ⟨h.ph.below hb hB, h.sy.below hb hB, h.fit, h.cap⟩
theorem SdIn.on {W W' : World} {B : Nat} {x : Sd} (h : SdIn W B x) (hb : Below B W W') : SdIn W' B x := ⟨h.ph.below hb (Nat.le_refl _), h.sy.below hb (Nat.le_refl _), h.fit, h.cap⟩
theorem SdIn.more {W : World} {B B' : Nat} {x : Sd} (h : SdIn W B x) (hB : B ≤ B') : SdIn W B' x := ⟨h.ph.more (Nat.le_refl _) hB, h.sy.more (Nat.le_refl _) hB, h.fit, h.cap⟩
def mayB (x : Sd) : Bool := mayF x.l x.ss == 0

set_option maxHeartbeats 2000000 in
set_option maxRecDepth 100000 in
theorem mayAll_any (X : Option Addr) (k cp L B BB : Nat) (xs : List Sd) (w : World) (h : Rd w L B 2 X k (xs.flatMap sdC)) (hB : B ≤ w.heap.size) (hBB : BB ≤ w.heap.size) (hin : ∀ x ∈ xs, SdIn w BB x) (hz : k ≤ maxLen) :
    Calls Try.prog 106 #[.slice X k cp] w fun e w' => e = .returned (.bool (xs.all mayB)) ∧ Below w.heap.size w w' := by
  unfold maxLen at hz
  have hlen : xs.length = k := by
    have := h.1
    rw [flat_len sdC 2 sdC_len] at this
    omega
  have HN := Lib.hid hlen
  have H := Lib.hid (And.intro h hin)
  clear h hin hlen
  go_enter Try.func106, Try.ntmps106
  go_wp2
  go_loopw [4, 7] (fun _ v wr => ∃ j : Nat, j ≤ k ∧ v = .int .i64 j ∧ Hid (Below w.heap.size w wr ∧ (xs.take j).all mayB = true)) (fun _ v _ => k - (intOf v).toNat)
  case atStart => exact ⟨0, by omega, rfl, Below.refl _ _, rfl⟩
  case round =>
    obtain ⟨j, hj, rfl, HR⟩ := hrel
    by_cases hlt : j < k
    · obtain ⟨b, o, hl, rfl, _, _, hc⟩ := Rd.flat sdC_len (by omega) (H.out.1.below HR.out.1 hB) hlt
      have hsn : xs.take (j + 1) = xs.take j ++ [xs[j]] := List.take_succ_eq_append_getElem hl
      have hal : xs.all mayB = true → mayB xs[j] = true := fun h => List.all_eq_true.1 h _ (List.getElem_mem hl)
      have hx := H.out.2 _ (List.getElem_mem hl)
      generalize xs[j] = x at *
      have x0 : wr.cell? ⟨b, o + j * 2, none⟩ = some (.slice x.A x.n x.c) := hc 0 _ rfl
      have x1 : wr.cell? ⟨b, o + j * 2 + 1, none⟩ = some (.slice x.D x.m x.d) := hc 1 _ rfl
      have HS := Lib.hid (And.intro hsn (And.intro hal hx))
      clear hsn hal hx hc
      have i1 : (0 : Int) ≤ (j : Int) := by omega
      have i2 : (j : Int) < (k : Int) := by omega
      go_wp2_with fail
      refine (may_any x.A x.D x.n x.c x.m x.d 0 _ 0 _ x.l x.ss _ ((HS.out.2.2.ph.below HR.out.1 hBB).below ((Below.refl _ _).alloc (Nat.le_refl _) _) (Nat.le_trans hBB HR.out.1.size)) ((HS.out.2.2.sy.below HR.out.1 hBB).below ((Below.refl _ _).alloc (Nat.le_refl _) _) (Nat.le_trans hBB HR.out.1.size)) (Nat.le_trans (Nat.le_trans hBB HR.out.1.size) (by simp)) (Nat.le_trans (Nat.le_trans hBB HR.out.1.size) (by simp)) HS.out.2.2.fit).mono ?_
      rintro e wz ⟨rfl, hb⟩
      have HX := Lib.hid (HR.out.1.trans ((((Below.refl _ wr).alloc (Nat.le_refl _) _).trans (hb.mono (by simp))).mono HR.out.1.size))
      clear hb x0 x1
      cases hm : (mayF x.l x.ss == 0) with
      | false =>
        have hne : (mayF x.l x.ss != 0) = true := by show (!(mayF x.l x.ss == 0)) = true; rw [hm]; rfl
        have HF := Lib.hid (show xs.all mayB = false by
          cases hh : xs.all mayB with
          | false => rfl
          | true => have := HS.out.2.1 hh; unfold mayB at this; rw [hm] at this; cases this)
        generalize mayF x.l x.ss = E at *
        clear hm
        go_wp2
        go_ret
        exact ⟨ret_bool HF.out.symm, HX.out⟩
      | true =>
        have hne : (mayF x.l x.ss != 0) = false := by show (!(mayF x.l x.ss == 0)) = false; rw [hm]; rfl
        have HF := Lib.hid (show mayB x = true from hm)
        generalize mayF x.l x.ss = E at *
        clear hm
        go_wp2
        go_roundw
        case rel => exact ⟨j + 1, by omega, by go_num, Lib.hid ⟨HX.out, by rw [HS.out.1, List.all_append, HR.out.2]; simp [HF.out]⟩⟩
        case measure => simp [intOf]; omega
    · have hjk : j = k := by omega
      subst hjk
      have HL := Lib.hid (show xs.all mayB = true by have := HR.out.2; rwa [List.take_of_length_le (by rw [HN.out]; exact Nat.le_refl _)] at this)
      go_wp2
      go_ret
      exact ⟨ret_bool HL.out.symm, HR.out.1⟩

theorem Rd.cut3 {w : World} {L B n b o : Nat} {l : List Ph} (h : Rd w L B 3 (some ⟨b, o, none⟩) n (phs l)) {N M : Nat} (hN : N ≤ M) (hM : M ≤ n) : Rd w L B 3 (some ⟨b, o + N * 3, none⟩) (M - N) (phs ((l.drop N).take (M - N))) := by
  have hl := h.len_ph
  have e1 : phs ((l.drop N).take (M - N)) = ((phs l).drop (N * 3)).take ((M - N) * 3) := by
    unfold phs
    rw [flat_take phC 3 phC_len _ _ (by rw [List.length_drop]; omega), flat_drop phC 3 phC_len _ _ (by omega)]
  refine ⟨by rw [phs_len, List.length_take, List.length_drop]; omega, fun hpos => ?_⟩
  obtain ⟨b', o', e, hL, hB, hc⟩ := h.2 (by omega)
  injection e with e
  injection e with ea eb
  subst ea eb
  refine ⟨b, o + N * 3, rfl, hL, hB, fun j u hu => ?_⟩
  rw [e1, List.getElem?_take] at hu
  split at hu
  · rw [List.getElem?_drop] at hu
    rw [Nat.add_assoc]
    exact hc _ _ hu
  · cases hu

def tailA (x : Sd) : Option Addr := match x.A with | some a => some ⟨a.block, a.off + (lastS x.ss).nu.toNat * 3, a.spot⟩ | none => none
def tailC (x : Sd) : Nat := x.c - (lastS x.ss).nu.toNat
theorem tail_rd {W : World} {B : Nat} {x : Sd} (hx : SdIn W B x) (hf : Form x.l x.ss) : Rd W 0 B 3 (tailA x) (tailF x.l x.ss).length (phs (tailF x.l x.ss)) ∧ (tailF x.l x.ss).length ≤ tailC x := by
  obtain ⟨q1, q2, q3, q4⟩ := hf.last
  have eN := hx.ph.len_ph
  have hcap := hx.cap
  obtain ⟨nu, hnu⟩ : ∃ k : Nat, (lastS x.ss).nu = k := ⟨(lastS x.ss).nu.toNat, by omega⟩
  obtain ⟨ba, oa, eA, _⟩ := hx.ph.2 (by omega)
  have hA : tailA x = some ⟨ba, oa + nu * 3, none⟩ := by unfold tailA; rw [eA, hnu]; rfl
  have hC : tailC x = x.c - nu := by unfold tailC; rw [hnu]; rfl
  have htl : tailF x.l x.ss = x.l.drop nu := by unfold tailF; rw [hnu]; rfl
  have htn : (tailF x.l x.ss).length = x.n - nu := by rw [htl, List.length_drop, eN]
  have h := hx.ph
  rw [eA] at h
  have h2 := h.cut3 (N := nu) (M := x.n) (by omega) (by omega)
  rw [List.take_of_length_le (by rw [List.length_drop]; omega)] at h2
  rw [htn, hA, hC, htl]
  exact ⟨h2, by omega⟩

set_option maxHeartbeats 4000000 in
set_option maxRecDepth 100000 in
theorem tail_det (x : Sd) (BB : Nat) (w : World) (hx : SdIn w BB x) (hBB : BB ≤ w.heap.size) (hf : Form x.l x.ss) :
    Calls Try.prog 108 #[.agg #[.slice x.A x.n x.c, .slice x.D x.m x.d]] w fun e w' => e = .returned (.slice (tailA x) (tailF x.l x.ss).length (tailC x)) ∧ Below w.heap.size w w' := by
  obtain ⟨q1, q2, q3, q4⟩ := hf.last
  have eN := hx.ph.len_ph
  have eM := hx.sy.len_sy
  obtain ⟨i, hi⟩ : ∃ i, i = lastF x.ss := ⟨_, rfl⟩
  have him : i < x.m := by have := lastF_lt hf.pos; omega
  obtain ⟨nu, hnu⟩ : ∃ k : Nat, (lastS x.ss).nu = k := ⟨(lastS x.ss).nu.toNat, by omega⟩
  have hnn : nu < x.n := by omega
  obtain ⟨b, o, hl, eD, _, hlt, y0, y1, y2, y3, y4⟩ := hx.sy.sy (k := i) him
  obtain ⟨ba, oa, eA, _, hlta, _⟩ := hx.ph.2 (by omega)
  have hls : lastS x.ss = x.ss[i] := by unfold lastS; rw [← hi, List.getD_eq_getElem?_getD, List.getElem?_eq_getElem hl]; rfl
  have hnu2 : x.ss[i].nu = (nu : Int) := by rw [← hls]; exact hnu
  rw [hnu2] at y1
  have htl : tailF x.l x.ss = x.l.drop nu := by unfold tailF; rw [hnu]; rfl
  have htn : (tailF x.l x.ss).length = x.n - nu := by rw [htl, List.length_drop, eN]
  have HT := Lib.hid (And.intro htl htn)
  have HTA := Lib.hid (show tailA x = some ⟨ba, oa + nu * 3, none⟩ ∧ tailC x = x.c - nu from ⟨by unfold tailA; rw [eA, hnu]; rfl, by unfold tailC; rw [hnu]; rfl⟩)
  have HLAST := Lib.hid (fun (W : World) (hb : Below w.heap.size w W) => last_any x.A x.n x.c x.D x.m x.d 0 BB x.ss W (hx.sy.below hb hBB) (Nat.le_trans hBB hb.size) (by omega) (by have := hf.m64; omega))
  rw [← hi] at HLAST
  have hcap := hx.cap
  have hn128 : x.n ≤ 128 := by have := hf.n128; omega
  have hm64 : x.m ≤ 64 := by have := hf.m64; omega
  have hrd := hx.ph
  rw [eA] at hrd
  have HRD := Lib.hid hrd
  clear q1 q2 q3 q4 hls hnu2 hnu hf hx hi htl htn hrd
  rw [eA, eD]
  rw [eA, eD] at HLAST
  generalize x.n = n at *
  generalize x.c = c at *
  generalize x.m = m at *
  generalize x.d = d at *
  go_enter Try.func108, Try.ntmps108
  go_upto_region 1 with (fail)
  refine wp_abs (fun wx => Below w.heap.size w wx ∧ Blk wx w.heap.size 25 #[.slice (some ⟨ba, oa, none⟩) n c, .slice (some ⟨b, o, none⟩) m d]) ⟨(Below.refl _ _).alloc (Nat.le_refl _) _, Blk.new _ _ _⟩ ?_
  rintro w1 ⟨hb, hB1⟩
  have c0 : w1.cell? ⟨w.heap.size, 0, none⟩ = some (.slice (some ⟨ba, oa, none⟩) n c) := hB1.cell 0
  have c1 : w1.cell? ⟨w.heap.size, 1, none⟩ = some (.slice (some ⟨b, o, none⟩) m d) := hB1.cell 1
  have z1 : w1.cell? ⟨b, o + i * 5 + 1, none⟩ = some (.int .i64 nu) := (hb.cell (p := ⟨b, o + i * 5 + 1, none⟩) (by simp; omega)).trans y1
  have H1 := Lib.hid hb
  clear hb hB1 y0 y1 y2 y3 y4
  have i1 : (0 : Int) ≤ (i : Int) := by omega
  have i2 : (i : Int) < (m : Int) := by omega
  have j1 : (0 : Int) ≤ (nu : Int) := by omega
  have j2 : (nu : Int) ≤ (n : Int) := by omega
  have j3 : (n : Int) ≤ (c : Int) := by omega
  have j4 : (nu : Int) < (c : Int) := by omega
  have wf : ∀ k, Fence.wide.fn k := fun _ => trivial
  have wd : Fence.wide.depth = none := rfl
  go_wp2
  have Xc0 := Bel.cell c0
  have Xc1 := Bel.cell c1
  have Xz1 := Bel.cell z1
  clear c0 c1 z1
  refine wp_bel (by kernel_rfl) (by kernel_rfl) ?_
  repeat (gi_big_quiet_step (fail))
  gi_big_quiet_want
  gi_big_quiet_op
  refine ⟨.int .i64 (i : Int), fun x => ?_, ?_⟩
  · exact callsIn_wide.2 ((HLAST.out x.1 (H1.out.trans (x.2.mono H1.out.size))).mono (fun e w' h => ⟨h.1, x.next h.2⟩))
  go_big_quiet_on
  repeat (gi_big_quiet_step (fail))
  refine wpQuietIn_nil ?_
  intro _ hw'
  obtain ⟨xW, hw''⟩ := hw'
  subst hw''
  have HZ := Lib.hid (H1.out.trans (xW.2.mono H1.out.size))
  go_wp2
  go_ret
  exact ⟨by rw [HT.out.2, HTA.out.1, HTA.out.2]; rfl, HZ.out⟩
theorem tail_any (x : Sd) (BB : Nat) (w : World) (hx : SdIn w BB x) (hBB : BB ≤ w.heap.size) (hf : Form x.l x.ss) :
    Calls Try.prog 108 #[.agg #[.slice x.A x.n x.c, .slice x.D x.m x.d]] w fun e w' => ∃ X C, e = .returned (.slice X (tailF x.l x.ss).length C) ∧ Rd w' 0 BB 3 X (tailF x.l x.ss).length (phs (tailF x.l x.ss)) ∧ (tailF x.l x.ss).length ≤ C ∧ Below w.heap.size w w' :=
  (tail_det x BB w hx hBB hf).mono fun _e _w' h => ⟨_, _, h.1, (tail_rd (hx.below h.2 hBB) hf).1, (tail_rd (hx.below h.2 hBB) hf).2, h.2⟩
end Go.Proofs.Ytogofchpocoebaa

namespace Go.Proofs.Ytogofchpocoebaa
open Go.RowKit Go.Maps

theorem bdrew {B : Nat} {w w' : World} (h : Below B w w') : Below B w w'.drew := ⟨h.os, h.tape, h.output, h.size, h.block⟩

def headA (x : Sd) : Option Addr := match x.A with | some a => some ⟨a.block, a.off + (lastS x.ss).fr.toNat * 3, a.spot⟩ | none => none
def headC (x : Sd) : Nat := x.c - (lastS x.ss).fr.toNat
theorem head_rd {W : World} {B : Nat} {x : Sd} (hx : SdIn W B x) (hf : Form x.l x.ss) : Rd W 0 B 3 (headA x) (headF x.l x.ss).length (phs (headF x.l x.ss)) ∧ (headF x.l x.ss).length ≤ headC x := by
  obtain ⟨q1, q2, q3, q4⟩ := hf.last
  have eN := hx.ph.len_ph
  have hcap := hx.cap
  obtain ⟨nu, hnu⟩ : ∃ k : Nat, (lastS x.ss).nu = k := ⟨(lastS x.ss).nu.toNat, by omega⟩
  obtain ⟨fr, hfr⟩ : ∃ k : Nat, (lastS x.ss).fr = k := ⟨(lastS x.ss).fr.toNat, by omega⟩
  obtain ⟨ba, oa, eA, _⟩ := hx.ph.2 (by omega)
  have hA : headA x = some ⟨ba, oa + fr * 3, none⟩ := by unfold headA; rw [eA, hfr]; rfl
  have hC : headC x = x.c - fr := by unfold headC; rw [hfr]; rfl
  have htl : headF x.l x.ss = (x.l.drop fr).take (nu - fr) := by unfold headF; rw [hnu, hfr]; rfl
  have htn : (headF x.l x.ss).length = nu - fr := by rw [htl, List.length_take, List.length_drop, eN]; omega
  have h := hx.ph
  rw [eA] at h
  have h2 := h.cut3 (N := fr) (M := nu) (by omega) (by omega)
  rw [htn, hA, hC, htl]
  exact ⟨h2, by omega⟩

set_option maxHeartbeats 8000000 in
set_option maxRecDepth 100000 in
theorem head_det (x : Sd) (BB : Nat) (w : World) (hx : SdIn w BB x) (hBB : BB ≤ w.heap.size) (hf : Form x.l x.ss) :
    Calls Try.prog 109 #[.agg #[.slice x.A x.n x.c, .slice x.D x.m x.d]] w fun e w' => e = .returned (.slice (headA x) (headF x.l x.ss).length (headC x)) ∧ Below w.heap.size w w' := by
  obtain ⟨q1, q2, q3, q4⟩ := hf.last
  have eN := hx.ph.len_ph
  have eM := hx.sy.len_sy
  obtain ⟨i, hi⟩ : ∃ i, i = lastF x.ss := ⟨_, rfl⟩
  have him : i < x.m := by have := lastF_lt hf.pos; omega
  obtain ⟨nu, hnu⟩ : ∃ k : Nat, (lastS x.ss).nu = k := ⟨(lastS x.ss).nu.toNat, by omega⟩
  obtain ⟨fr, hfr⟩ : ∃ k : Nat, (lastS x.ss).fr = k := ⟨(lastS x.ss).fr.toNat, by omega⟩
  have hnn : nu < x.n := by omega
  have hfn : fr ≤ nu := by omega
  obtain ⟨b, o, hl, eD, _, hlt, y0, y1, y2, y3, y4⟩ := hx.sy.sy (k := i) him
  obtain ⟨ba, oa, eA, _, hlta, _⟩ := hx.ph.2 (by omega)
  have hls : lastS x.ss = x.ss[i] := by unfold lastS; rw [← hi, List.getD_eq_getElem?_getD, List.getElem?_eq_getElem hl]; rfl
  have hnu2 : x.ss[i].nu = (nu : Int) := by rw [← hls]; exact hnu
  have hfr2 : x.ss[i].fr = (fr : Int) := by rw [← hls]; exact hfr
  rw [hnu2] at y1
  rw [hfr2] at y0
  have htl : headF x.l x.ss = (x.l.drop fr).take (nu - fr) := by unfold headF; rw [hnu, hfr]; rfl
  have htn : (headF x.l x.ss).length = nu - fr := by rw [htl, List.length_take, List.length_drop, eN]; omega
  have HT := Lib.hid (And.intro htl htn)
  have HTA := Lib.hid (show headA x = some ⟨ba, oa + fr * 3, none⟩ ∧ headC x = x.c - fr from ⟨by unfold headA; rw [eA, hfr]; rfl, by unfold headC; rw [hfr]; rfl⟩)
  have HLAST := Lib.hid (fun (W : World) (hb : Below w.heap.size w W) => last_any x.A x.n x.c x.D x.m x.d 0 BB x.ss W (hx.sy.below hb hBB) (Nat.le_trans hBB hb.size) (by omega) (by have := hf.m64; omega))
  rw [← hi] at HLAST
  have hcap := hx.cap
  have hn128 : x.n ≤ 128 := by have := hf.n128; omega
  have hm64 : x.m ≤ 64 := by have := hf.m64; omega
  have hrd := hx.ph
  rw [eA] at hrd
  have HRD := Lib.hid hrd
  clear q1 q2 q3 q4 hls hnu2 hnu hfr hfr2 hf hx hi htl htn hrd
  rw [eA, eD]
  rw [eA, eD] at HLAST
  generalize x.n = n at *
  generalize x.c = c at *
  generalize x.m = m at *
  generalize x.d = d at *
  generalize x.ss[i].to_ = yt at *
  generalize x.ss[i].st = ys at *
  generalize x.ss[i].hv = yh at *
  go_enter Try.func109, Try.ntmps109
  go_upto_region 1 with (fail)
  refine wp_abs (fun wx => Below w.heap.size w wx ∧ Blk wx w.heap.size 25 #[.slice (some ⟨ba, oa, none⟩) n c, .slice (some ⟨b, o, none⟩) m d]) ⟨(Below.refl _ _).alloc (Nat.le_refl _) _, Blk.new _ _ _⟩ ?_
  rintro w1 ⟨hb, hB1⟩
  have hK : ∀ W', Below w1.heap.size w1 W' → W'.cell? ⟨w.heap.size, 0, none⟩ = some (.slice (some ⟨ba, oa, none⟩) n c) ∧ W'.cell? ⟨w.heap.size, 1, none⟩ = some (.slice (some ⟨b, o, none⟩) m d) ∧ W'.cell? ⟨b, o + i * 5, none⟩ = some (.int .i64 fr) ∧ W'.cell? ⟨b, o + i * 5 + 1, none⟩ = some (.int .i64 nu) ∧ W'.cell? ⟨b, o + i * 5 + 2, none⟩ = some (.int .i64 yt) ∧ W'.cell? ⟨b, o + i * 5 + 3, none⟩ = some (.int .i64 ys) ∧ W'.cell? ⟨b, o + i * 5 + 4, none⟩ = some (.bool yh) := fun W' hb' => by
    have hl1 := hB1.lt
    have hw : ∀ k v, w.cell? ⟨b, k, none⟩ = some v → W'.cell? ⟨b, k, none⟩ = some v := fun k v h => ((hb'.cell (p := ⟨b, k, none⟩) (by simp; omega)).trans (hb.cell (p := ⟨b, k, none⟩) (by simp; omega))).trans h
    exact ⟨(hB1.below hb' hl1).cell 0, (hB1.below hb' hl1).cell 1, hw _ _ y0, hw _ _ y1, hw _ _ y2, hw _ _ y3, hw _ _ y4⟩
  have HK := Lib.hid hK
  have hlw := hB1.lt
  have H1 := Lib.hid hb
  clear hb hB1 y0 y1 y2 y3 y4 hK
  have i1 : (0 : Int) ≤ (i : Int) := by omega
  have i2 : (i : Int) < (m : Int) := by omega
  obtain ⟨c0, c1, z0, z1, z2, z3, z4⟩ := HK.out w1 (Below.refl _ _)
  go_region_held3 (fun W' => W'.cell? ⟨w.heap.size, 0, none⟩ = some (.slice (some ⟨ba, oa, none⟩) n c) ∧ W'.cell? ⟨w.heap.size, 1, none⟩ = some (.slice (some ⟨b, o, none⟩) m d) ∧ W'.cell? ⟨b, o + i * 5, none⟩ = some (.int .i64 fr) ∧ W'.cell? ⟨b, o + i * 5 + 1, none⟩ = some (.int .i64 nu) ∧ W'.cell? ⟨b, o + i * 5 + 2, none⟩ = some (.int .i64 yt) ∧ W'.cell? ⟨b, o + i * 5 + 3, none⟩ = some (.int .i64 ys) ∧ W'.cell? ⟨b, o + i * 5 + 4, none⟩ = some (.bool yh))
    ((refine HK.out _ ?_; repeat (first | exact HZ.out | exact Below.refl _ _ | (with_reducible refine bdrew ?_) | (refine Below.setCell ?_ (by first | exact Nat.le_refl _ | exact HZ.out.size) _) | (refine Below.alloc ?_ (by first | exact Nat.le_refl _ | exact HZ.out.size) _))))
    (first
      | (go_at_call 107
         refine (HLAST.out _ (by repeat (first | exact H1.out | (with_reducible refine bdrew ?_) | (refine Below.alloc ?_ H1.out.size _)))).mono ?_
         rintro e wz ⟨rfl, hb⟩
         have HZ : Hid (Below w1.heap.size w1 wz) := Lib.hid (Below.trans (by repeat (first | exact Below.refl _ _ | (with_reducible refine bdrew ?_) | (refine Below.alloc ?_ (Nat.le_refl _) _))) (hb.mono (by simp)))
         have hZB : ∀ (_ : Unit), True := fun _ => trivial
         first
           | (have hB : Blk wz w1.heap.size 37 #[.int .i64 0, .int .i64 0, .int .i64 0, .int .i64 0, .bool false] := (Blk.drew (Blk.new w1 37 #[.int .i64 0, .int .i64 0, .int .i64 0, .int .i64 0, .bool false])).below hb (by simp)
              have f0 : wz.cell? ⟨w1.heap.size, 0, none⟩ = some (.int .i64 0) := hB.cell 0
              have f1 : wz.cell? ⟨w1.heap.size, 1, none⟩ = some (.int .i64 0) := hB.cell 1
              have f2 : wz.cell? ⟨w1.heap.size, 2, none⟩ = some (.int .i64 0) := hB.cell 2
              have f3 : wz.cell? ⟨w1.heap.size, 3, none⟩ = some (.int .i64 0) := hB.cell 3
              have f4 : wz.cell? ⟨w1.heap.size, 4, none⟩ = some (.bool false) := hB.cell 4
              have ff := hB.frozen
              have HBZ := Lib.hid hB
              clear hB)
           | skip
         clear hb hZB))
  all_goals
    obtain ⟨sp, hsp⟩ : ∃ sp : Nat, (sp = wz.heap.size ∨ sp = w1.heap.size) ∧ True := ⟨_, .inl rfl, trivial⟩
    clear hsp sp c0 c1 z0 z1 z2 z3 z4
    first
      | (refine exit_abs (fun W => Below w.heap.size w W ∧ Blk W wz.heap.size 37 #[.int .i64 fr, .int .i64 nu, .int .i64 yt, .int .i64 ys, .bool yh] ∧ W.cell? ⟨w.heap.size, 0, none⟩ = some (.slice (some ⟨ba, oa, none⟩) n c)) ⟨H1.out.trans ((HZ.out.alloc HZ.out.size _).mono H1.out.size), Blk.new _ _ _, (HK.out _ (HZ.out.alloc HZ.out.size _)).1⟩ ?_
         generalize wz.heap.size = sp at *)
      | (refine exit_abs (fun W => Below w.heap.size w W ∧ Blk W w1.heap.size 37 #[.int .i64 fr, .int .i64 nu, .int .i64 yt, .int .i64 ys, .bool yh] ∧ W.cell? ⟨w.heap.size, 0, none⟩ = some (.slice (some ⟨ba, oa, none⟩) n c)) ⟨H1.out.trans ((((((HZ.out.setCell (Nat.le_refl _) _).setCell (Nat.le_refl _) _).setCell (Nat.le_refl _) _).setCell (Nat.le_refl _) _).setCell (Nat.le_refl _) _).mono H1.out.size), by simpa using ((((HBZ.out.set_ 0 (.int .i64 fr)).set_ 1 (.int .i64 nu)).set_ 2 (.int .i64 yt)).set_ 3 (.int .i64 ys)).set_ 4 (.bool yh), (HK.out _ (((((HZ.out.setCell (Nat.le_refl _) _).setCell (Nat.le_refl _) _).setCell (Nat.le_refl _) _).setCell (Nat.le_refl _) _).setCell (Nat.le_refl _) _)).1⟩ ?_
         clear f0 f1 f2 f3 f4 ff HBZ
         generalize w1.heap.size = sp at *)
    rintro W ⟨hbW, hS, c0⟩
    have s0 : W.cell? ⟨sp, 0, none⟩ = some (.int .i64 fr) := hS.cell 0
    have s1 : W.cell? ⟨sp, 1, none⟩ = some (.int .i64 nu) := hS.cell 1
    have HW := Lib.hid hbW
    clear hbW hS HZ HK H1
    have j1 : (0 : Int) ≤ (fr : Int) := by omega
    have j2 : (fr : Int) ≤ (nu : Int) := by omega
    have j3 : (nu : Int) ≤ (c : Int) := by omega
    have j4 : (fr : Int) < (c : Int) := by omega
    go_wp2
    go_ret
    exact ⟨by rw [HT.out.2, HTA.out.1, HTA.out.2]; rfl, HW.out⟩
theorem head_any (x : Sd) (BB : Nat) (w : World) (hx : SdIn w BB x) (hBB : BB ≤ w.heap.size) (hf : Form x.l x.ss) :
    Calls Try.prog 109 #[.agg #[.slice x.A x.n x.c, .slice x.D x.m x.d]] w fun e w' => ∃ X C, e = .returned (.slice X (headF x.l x.ss).length C) ∧ Rd w' 0 BB 3 X (headF x.l x.ss).length (phs (headF x.l x.ss)) ∧ (headF x.l x.ss).length ≤ C ∧ Below w.heap.size w w' :=
  (head_det x BB w hx hBB hf).mono fun _e _w' h => ⟨_, _, h.1, (head_rd (hx.below h.2 hBB) hf).1, (head_rd (hx.below h.2 hBB) hf).2, h.2⟩
end Go.Proofs.Ytogofchpocoebaa
