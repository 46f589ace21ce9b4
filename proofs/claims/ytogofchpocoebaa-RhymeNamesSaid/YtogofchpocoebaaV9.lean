/- The law RhymePairs, walked. -/
import Derived.Test.YtogofchpocoebaaV7
import Derived.Test.YtogofchpocoebaaV5
import Derived.Sort.CutIn
namespace Go.Proofs.Ytogofchpocoebaa
open Go.RowKit Go.Maps
attribute [local go_sem] Oper.semAt_some

def natP (p : Nat × Nat) : Int × Int := ((p.1 : Int), (p.2 : Int))
def nprs (l : List (Nat × Nat)) : List Value := prs (l.map natP)
theorem nprs_snoc (l : List (Nat × Nat)) (p : Nat × Nat) : nprs (l ++ [p]) = nprs l ++ [.int .i64 (p.1 : Int), .int .i64 (p.2 : Int)] := by
  unfold nprs
  rw [List.map_append, prs_append]
  rfl
theorem nprs_len (l : List (Nat × Nat)) : (nprs l).length = l.length * 2 := by unfold nprs; rw [prs_len, List.length_map]
def ints (l : List Int) : List Value := l.map (Value.int .i64)
def farL (xs : List Sd) (l : List (Nat × Nat)) : List Int := l.map fun p => farS (xs.getD p.1 sd0) (xs.getD p.2 sd0)
theorem farL_snoc (xs : List Sd) (l : List (Nat × Nat)) (p : Nat × Nat) : ints (farL xs (l ++ [p])) = ints (farL xs l) ++ [.int .i64 (farS (xs.getD p.1 sd0) (xs.getD p.2 sd0))] := by
  unfold ints farL
  rw [List.map_append, List.map_append]
  rfl
theorem farL_len (xs : List Sd) (l : List (Nat × Nat)) : (farL xs l).length = l.length := by simp [farL]

theorem prRow_len (q : Nat → Nat → Bool) (a : Nat) : ∀ b, (prRow q a b).length ≤ b := by
  intro b
  induction b with
  | zero => exact Nat.le_refl _
  | succ b ih =>
    show (prRow q a b ++ (if a < b ∧ q a b = true then [(a, b)] else [])).length ≤ b + 1
    rw [List.length_append]
    split
    · simp; omega
    · simp; omega
theorem prAll_len (q : Nat → Nat → Bool) (N : Nat) : ∀ a, (prAll q N a).length ≤ a * N := by
  intro a
  induction a with
  | zero => simp [prAll]
  | succ a ih =>
    show (prAll q N a ++ prRow q a N).length ≤ (a + 1) * N
    have := prRow_len q a N
    rw [List.length_append, Nat.succ_mul]
    omega

/-- memory while the wanted pairs are laid -/
structure PbSt (w0 : World) (q : Nat) (stop : Int) (xs : List Sd) (ws : List (Nat × Nat)) (W : World) : Prop where
  be : Blk W w0.heap.size 3 #[.int .i64 stop]
  br : Blk W (w0.heap.size + 1) 4 #[.bool false]
  b7 : ∃ A c, Blk W q 86 #[.slice A ws.length c] ∧ W.ownsRow (q + 2) 95 2 (.slice A ws.length c) ws.length (nprs ws)
  b8 : ∃ A c, Blk W (q + 1) 71 #[.slice A ws.length c] ∧ W.ownsRow (q + 2) 3 1 (.slice A ws.length c) ws.length (ints (farL xs ws))
  below : Below w0.heap.size w0 W
  lq : w0.heap.size + 2 ≤ q
theorem PbSt.on {w0 : World} {q : Nat} {stop : Int} {xs : List Sd} {ws : List (Nat × Nat)} {W W' : World} (h : PbSt w0 q stop xs ws W) (hb : Below W.heap.size W W') : PbSt w0 q stop xs ws W' := by
  obtain ⟨A, c, h1, h2⟩ := h.b7
  obtain ⟨B, d, h3, h4⟩ := h.b8
  exact ⟨h.be.below hb h.be.lt, h.br.below hb h.br.lt, ⟨A, c, h1.below hb h1.lt, own_stay h2 (Only.of_below hb _)⟩, ⟨B, d, h3.below hb h3.lt, own_stay h4 (Only.of_below hb _)⟩, h.below.trans (hb.mono h.below.size), h.lq⟩
theorem bl_lt {w0 : World} {q : Nat} {stop : Int} {xs : List Sd} {ws : List (Nat × Nat)} {W : World} (h : PbSt w0 q stop xs ws W) : q + 1 < W.heap.size := by
  obtain ⟨B, d, h3, _⟩ := h.b8
  exact h3.lt
/-- a pair is laid behind the others -/
theorem pb_seven {w0 W W5 : World} {q : Nat} {stop : Int} {xs : List Sd} {ws : List (Nat × Nat)} {p : Nat × Nat} {A : Option Addr} {c : Nat} {A' : Option Addr} {c' : Nat} {o : Obj} (h : PbSt w0 q stop xs ws W) (h1 : Blk W q 86 #[.slice A ws.length c]) (h2 : W.ownsRow (q + 2) 95 2 (.slice A ws.length c) ws.length (nprs ws))
    (h5 : W5.ownsRow (q + 2) 95 2 (.slice A' (ws.length + 1) c') (ws.length + 1) (nprs ws ++ [.int .i64 (p.1 : Int), .int .i64 (p.2 : Int)])) (hg : (W.alloc o).grownBy W5 (Value.slice A ws.length c).ownBlock) :
    Blk W5 q 86 #[.slice A ws.length c] ∧ Blk (W5.setCell ⟨q, 0, none⟩ (.slice A' (ws.length + 1) c')) q 86 #[.slice A' (ws.length + 1) c'] ∧ (W5.setCell ⟨q, 0, none⟩ (.slice A' (ws.length + 1) c')).ownsRow (q + 2) 95 2 (.slice A' (ws.length + 1) c') (ws.length + 1) (nprs (ws ++ [p])) ∧
      Blk (W5.setCell ⟨q, 0, none⟩ (.slice A' (ws.length + 1) c')) w0.heap.size 3 #[.int .i64 stop] ∧ Blk (W5.setCell ⟨q, 0, none⟩ (.slice A' (ws.length + 1) c')) (w0.heap.size + 1) 4 #[.bool false] ∧
      (∃ B d, Blk (W5.setCell ⟨q, 0, none⟩ (.slice A' (ws.length + 1) c')) (q + 1) 71 #[.slice B ws.length d] ∧ (W5.setCell ⟨q, 0, none⟩ (.slice A' (ws.length + 1) c')).ownsRow (q + 2) 3 1 (.slice B ws.length d) ws.length (ints (farL xs ws))) ∧ Below w0.heap.size w0 (W5.setCell ⟨q, 0, none⟩ (.slice A' (ws.length + 1) c')) := by
  obtain ⟨B, d, h3, h4⟩ := h.b8
  have lq := h.lq
  have ho : Only (fun b => (Value.slice A ws.length c).ownBlock = some b) W W5 := ((Only.refl _ W).alloc o).grown hg (fun g hg => .inl hg)
  have hge : ∀ b, (Value.slice A ws.length c).ownBlock = some b → q + 2 ≤ b := fun b hb => own_ge' h2 hb
  have k1 : Blk W5 q 86 #[.slice A ws.length c] := h1.only ho (fun hs => by have := hge _ hs; omega)
  have k4 : W5.ownsRow (q + 2) 3 1 (.slice B ws.length d) ws.length (ints (farL xs ws)) := own_keep h4 (own_ne h4 h2 (by decide)) ho
  refine ⟨k1, by simpa using k1.set_ 0 (.slice A' (ws.length + 1) c'), ?_, (h.be.only ho (fun hs => by have := hge _ hs; omega)).far (by simp; omega) _, (h.br.only ho (fun hs => by have := hge _ hs; omega)).far (by simp; omega) _,
    ⟨B, d, (h3.only ho (fun hs => by have := hge _ hs; omega)).far (by simp) _, own_far k4 (fun e => by have := own_ge' k4 e; simp at this; omega) _⟩, (h.below.trans (ho.below h.below.size (fun b hb hs => by have := hge _ hs; omega))).setCell (by simp; omega) _⟩
  rw [nprs_snoc]
  exact own_far h5 (fun e => by have := own_ge' h5 e; simp at this; omega) _
theorem pb_eight {w0 W W5 : World} {q : Nat} {stop : Int} {xs : List Sd} {ws : List (Nat × Nat)} {p : Nat × Nat} {A : Option Addr} {c : Nat} {B : Option Addr} {d : Nat} {B' : Option Addr} {d' : Nat} {o : Obj} {fd : Int} (hfd : farS (xs.getD p.1 sd0) (xs.getD p.2 sd0) = fd) (lq : w0.heap.size + 2 ≤ q) (hbe : Blk W w0.heap.size 3 #[.int .i64 stop]) (hbr : Blk W (w0.heap.size + 1) 4 #[.bool false]) (hb : Below w0.heap.size w0 W)
    (h1 : Blk W q 86 #[.slice A (ws.length + 1) c]) (h2 : W.ownsRow (q + 2) 95 2 (.slice A (ws.length + 1) c) (ws.length + 1) (nprs (ws ++ [p]))) (h3 : Blk W (q + 1) 71 #[.slice B ws.length d]) (h4 : W.ownsRow (q + 2) 3 1 (.slice B ws.length d) ws.length (ints (farL xs ws)))
    (h5 : W5.ownsRow (q + 2) 3 1 (.slice B' (ws.length + 1) d') (ws.length + 1) (ints (farL xs ws) ++ [.int .i64 fd])) (hg : (W.alloc o).grownBy W5 (Value.slice B ws.length d).ownBlock) :
    Blk W5 (q + 1) 71 #[.slice B ws.length d] ∧ PbSt w0 q stop xs (ws ++ [p]) (W5.setCell ⟨q + 1, 0, none⟩ (.slice B' (ws.length + 1) d')) := by
  have ho : Only (fun b => (Value.slice B ws.length d).ownBlock = some b) W W5 := ((Only.refl _ W).alloc o).grown hg (fun g hg => .inl hg)
  have hge : ∀ b, (Value.slice B ws.length d).ownBlock = some b → q + 2 ≤ b := fun b hb => own_ge' h4 hb
  have k3 : Blk W5 (q + 1) 71 #[.slice B ws.length d] := h3.only ho (fun hs => by have := hge _ hs; omega)
  have k2 : W5.ownsRow (q + 2) 95 2 (.slice A (ws.length + 1) c) (ws.length + 1) (nprs (ws ++ [p])) := own_keep h2 (own_ne h2 h4 (by decide)) ho
  have el : (ws ++ [p]).length = ws.length + 1 := by simp
  refine ⟨k3, ⟨(hbe.only ho (fun hs => by have := hge _ hs; omega)).far (by simp; omega) _, (hbr.only ho (fun hs => by have := hge _ hs; omega)).far (by simp; omega) _, ⟨A, c, ?_, ?_⟩, ⟨B', d', ?_, ?_⟩, (hb.trans (ho.below hb.size (fun b hb hs => by have := hge _ hs; omega))).setCell (by simp; omega) _, lq⟩⟩
  · rw [el]; exact (h1.only ho (fun hs => by have := hge _ hs; omega)).far (by simp) _
  · rw [el]; exact own_far k2 (fun e => by have h9 : q + 2 ≤ q + 1 := own_ge' k2 e; omega) _
  · rw [el]; simpa using k3.set_ 0 (.slice B' (ws.length + 1) d')
  · rw [el, farL_snoc, hfd]; exact own_far h5 (fun e => by have h9 : q + 2 ≤ q + 1 := own_ge' h5 e; omega) _

theorem q106 (w : World) (f : Fn) (a c : Array Value) : (binOp .eql 106 (.func f a c) .nilFunc).run Try.prog w = .ok (.bool false) w := by
  have h : ∀ d : Nat, (Op.equalIn (d + 1) 106 (.func f a c) .nilFunc).run Try.prog w = .ok false w := fun d => by
    simp [Op.equalIn, run_underlying Try.underlying106]
  simp only [binOp]
  simp [Op.equal, Op.maxDepth, h 9999]
/-- memory while the law goes through the pairs -/
structure PpSt (w0 : World) (stop most : Int) (X : Option Addr) (k cp : Nat) (xs : List Sd) (ws : List (Nat × Nat)) (A7 A8 : Option Addr) (c7 c8 q lb M : Nat) (ds : List Deferred) (W : World) : Prop where
  be : Blk W w0.heap.size 3 #[.int .i64 stop]
  br : Blk W (w0.heap.size + 1) 4 #[.bool false]
  b7 : Blk W q 86 #[.slice A7 ws.length c7]
  b8 : Blk W (q + 1) 71 #[.slice A8 ws.length c8]
  r7 : Rd W 0 M 2 A7 ws.length (nprs ws)
  r8 : Rd W 0 M 1 A8 ws.length (ints (farL xs ws))
  bl : Blk W lb 102 #[.slice X k cp]
  bm : Blk W (lb + 1) 3 #[.int .i64 most]
  mar : Marks M ds W
  below : Below w0.heap.size w0 W
  lq : w0.heap.size + 2 ≤ q ∧ q + 1 < M ∧ w0.heap.size ≤ lb ∧ lb + 1 < M ∧ M ≤ W.heap.size
section
variable {w0 : World} {stop most : Int} {X : Option Addr} {k cp : Nat} {xs : List Sd} {ws : List (Nat × Nat)} {A7 A8 : Option Addr} {c7 c8 q lb M : Nat} {ds : List Deferred} {W W' : World}
theorem PpSt.on (h : PpSt w0 stop most X k cp xs ws A7 A8 c7 c8 q lb M ds W) (hb : Below W.heap.size W W') : PpSt w0 stop most X k cp xs ws A7 A8 c7 c8 q lb M ds W' := by
  obtain ⟨l1, l2, l3, l4, l5⟩ := h.lq
  have := hb.size
  exact ⟨h.be.below hb h.be.lt, h.br.below hb h.br.lt, h.b7.below hb h.b7.lt, h.b8.below hb h.b8.lt, h.r7.below hb l5, h.r8.below hb l5, h.bl.below hb h.bl.lt, h.bm.below hb h.bm.lt, h.mar.below hb, h.below.trans (hb.mono h.below.size), l1, l2, l3, l4, by omega⟩
theorem PpSt.stay {S : Nat → Prop} {B : Nat} (h : PpSt w0 stop most X k cp xs ws A7 A8 c7 c8 q lb M ds W) (ho : Only S W W') (hS : ∀ b, S b → B ≤ b) (hB : M ≤ B) (lm : ∀ d ∈ ds, ∃ r, d.target = .collected r ∧ r < B) : PpSt w0 stop most X k cp xs ws A7 A8 c7 c8 q lb M ds W' := by
  obtain ⟨l1, l2, l3, l4, l5⟩ := h.lq
  have hz := ho.size
  refine ⟨h.be.only ho (fun hs => ?_), h.br.only ho (fun hs => ?_), h.b7.only ho (fun hs => ?_), h.b8.only ho (fun hs => ?_), h.r7.keep (fun b o _ hb => ho.cell (by omega) (fun hs => ?_)), h.r8.keep (fun b o _ hb => ho.cell (by omega) (fun hs => ?_)), h.bl.only ho (fun hs => ?_), h.bm.only ho (fun hs => ?_), ?_, h.below.trans (ho.below h.below.size (fun b hb hs => ?_)), l1, l2, l3, l4, by omega⟩
  rotate_right 1
  · have := hS _ hs; omega
  rotate_right 1
  · refine h.mar.keep fun r _ hr hd => (ho.block r (Array.getElem?_eq_some_iff.1 hr).1 (fun hs => ?_)).trans hr
    obtain ⟨d, hd, hdr⟩ := hd
    obtain ⟨r', h1, h2⟩ := lm d hd
    rw [hdr] at h1
    injection h1 with h1
    have := hS _ hs
    omega
  all_goals have := hS _ hs; omega
end
/-- memory between two rounds of the inner range: the pass, the count -/
structure PpIn (w0 : World) (stop most : Int) (X : Option Addr) (k cp : Nat) (xs : List Sd) (ws : List (Nat × Nat)) (A7 A8 : Option Addr) (c7 c8 q lb M : Nat) (ds : List Deferred) (jb ib B j n : Nat) (W : World) : Prop where
  st : PpSt w0 stop most X k cp xs ws A7 A8 c7 c8 q lb M ds W
  bj : Blk W jb 3 #[.int .i64 j]
  bi : Blk W ib 3 #[.int .i64 n]
  lj : M ≤ jb ∧ jb < B
  li : M ≤ ib ∧ ib < B
  ne : jb ≠ ib
  lm : ∀ d ∈ ds, ∃ r, d.target = .collected r ∧ r < B
section
variable {w0 : World} {stop most : Int} {X : Option Addr} {k cp : Nat} {xs : List Sd} {ws : List (Nat × Nat)} {A7 A8 : Option Addr} {c7 c8 q lb M : Nat} {ds : List Deferred} {jb ib B j n : Nat} {W W' : World}
theorem PpIn.stay {S : Nat → Prop} (h : PpIn w0 stop most X k cp xs ws A7 A8 c7 c8 q lb M ds jb ib B j n W) (ho : Only S W W') (hS : ∀ b, S b → B ≤ b) : PpIn w0 stop most X k cp xs ws A7 A8 c7 c8 q lb M ds jb ib B j n W' := by
  have l1 := h.lj
  have l2 := h.li
  refine ⟨h.st.stay ho hS (by omega) h.lm, h.bj.only ho (fun hs => ?_), h.bi.only ho (fun hs => ?_), h.lj, h.li, h.ne, h.lm⟩
  all_goals have := hS _ hs; omega
theorem PpIn.on (h : PpIn w0 stop most X k cp xs ws A7 A8 c7 c8 q lb M ds jb ib B j n W) (hb : Below B W W') : PpIn w0 stop most X k cp xs ws A7 A8 c7 c8 q lb M ds jb ib B j n W' :=
  h.stay (S := fun b => B ≤ b) ⟨hb.os, hb.tape, hb.output, hb.size, fun j _ hs => hb.block j (by omega)⟩ (fun _ hs => hs)
theorem PpSt.put {g t : Nat} {cs : Array Value} (h : PpSt w0 stop most X k cp xs ws A7 A8 c7 c8 q lb M ds W) (hg : Blk W g t cs) (hM : M ≤ g) (i : Nat) (v : Value) : PpSt w0 stop most X k cp xs ws A7 A8 c7 c8 q lb M ds (W.setCell ⟨g, i, none⟩ v) := by
  obtain ⟨l1, l2, l3, l4, l5⟩ := h.lq
  refine ⟨h.be.far (by simp; omega) _, h.br.far (by simp; omega) _, h.b7.far (by simp; omega) _, h.b8.far (by simp; omega) _, h.r7.keep (fun b o _ hb => ?_), h.r8.keep (fun b o _ hb => ?_), h.bl.far (by simp; omega) _, h.bm.far (by simp; omega) _, h.mar.setCell hg i _, h.below.setCell (by simp; omega) _, l1, l2, l3, l4, by simpa [World.setCell] using l5⟩
  · exact World.cell?_of_block (w := W) (Below.heap_setCell _ _ _ _ (by simp; omega))
  · exact World.cell?_of_block (w := W) (Below.heap_setCell _ _ _ _ (by simp; omega))
theorem PpIn.set (h : PpIn w0 stop most X k cp xs ws A7 A8 c7 c8 q lb M ds jb ib B j n W) (n' : Nat) : PpIn w0 stop most X k cp xs ws A7 A8 c7 c8 q lb M ds jb ib B j n' (W.setCell ⟨ib, 0, none⟩ (.int .i64 n')) := by
  have h1 := h.ne
  exact ⟨h.st.put h.bi h.li.1 0 _, h.bj.far (by simpa using h1) _, by simpa using h.bi.set_ 0 (.int .i64 n'), h.lj, h.li, h.ne, h.lm⟩
theorem PpIn.leave (h : PpIn w0 stop most X k cp xs ws A7 A8 c7 c8 q lb M ds jb ib B j n W) (hk : W.heap[B]? = some (.deferred (some []))) : PpSt w0 stop most X k cp xs ws A7 A8 c7 c8 q lb M ({ target := .collected B, args := #[] } :: ds) W := by
  have l1 := h.lj
  have hs := h.st
  refine ⟨hs.be, hs.br, hs.b7, hs.b8, hs.r7, hs.r8, hs.bl, hs.bm, ⟨B, rfl, by omega, hk, fun d hd e => ?_, hs.mar⟩, hs.below, hs.lq⟩
  obtain ⟨r, h1, h2⟩ := h.lm d hd
  rw [h1] at e
  injection e with e
  omega
end

/-- the pass, read from the box whose pointer slot 13 holds -/
def mJ (a : Act) (w : World) : Nat := match a.tmps.getD 13 undef with | .pointer (some p) => (match w.cell? p with | some (.int _ v) => v.toNat | _ => 0) | _ => 0
theorem mJ_of {a : Act} {w : World} {jb j : Nat} (h : a.tmps.getD 13 undef = .pointer (some ⟨jb, 0, none⟩)) (hc : w.cell? ⟨jb, 0, none⟩ = some (.int .i64 (j : Nat))) : mJ a w = j := by
  unfold mJ
  rw [h]
  simp only [hc]
  rfl
def pA (ws : List (Nat × Nat)) (n : Nat) : Int := ((ws.getD n (0, 0)).1 : Nat)
def pB (ws : List (Nat × Nat)) (n : Nat) : Int := ((ws.getD n (0, 0)).2 : Nat)
def pF (xs : List Sd) (ws : List (Nat × Nat)) (n : Nat) : Int := farS (xs.getD (ws.getD n (0, 0)).1 sd0) (xs.getD (ws.getD n (0, 0)).2 sd0)
theorem prx_at {xs : List Sd} {most : Int} {B n : Nat} {args : Array Value} {W : World} (h : PrX xs most B n args W) : n < (prsL xs most).length ∧ args = #[.agg #[.int .i64 (pA (prsL xs most) n), .int .i64 (pB (prsL xs most) n)], .int .i64 (pF xs (prsL xs most) n)] := by
  obtain ⟨hn, e⟩ := h
  refine ⟨hn, ?_⟩
  have e2 : (prsL xs most).getD n (0, 0) = (prsL xs most)[n] := by rw [List.getD_eq_getElem?_getD, List.getElem?_eq_getElem hn]; rfl
  unfold pA pB pF
  rw [e2]
  exact e
theorem pp_seven {W : World} {L B : Nat} {A : Option Addr} {ws : List (Nat × Nat)} (h : Rd W L B 2 A ws.length (nprs ws)) {n : Nat} (hn : n < ws.length) :
    ∃ b o, A = some ⟨b, o, none⟩ ∧ W.cell? ⟨b, o + n * 2, none⟩ = some (.int .i64 (pA ws n)) ∧ W.cell? ⟨b, o + n * 2 + 1, none⟩ = some (.int .i64 (pB ws n)) := by
  obtain ⟨b, o, hl, e, _, _, x0, x1⟩ := Rd.two h hn
  have e2 : ws.getD n (0, 0) = ws[n] := by rw [List.getD_eq_getElem?_getD, List.getElem?_eq_getElem hn]; rfl
  refine ⟨b, o, e, ?_, ?_⟩
  · rw [x0]; unfold pA; rw [e2]; simp [natP]
  · rw [x1]; unfold pB; rw [e2]; simp [natP]
theorem pp_eight {W : World} {L B : Nat} {A : Option Addr} {xs : List Sd} {ws : List (Nat × Nat)} (h : Rd W L B 1 A ws.length (ints (farL xs ws))) {n : Nat} (hn : n < ws.length) :
    ∃ b o, A = some ⟨b, o, none⟩ ∧ W.cell? ⟨b, o + n, none⟩ = some (.int .i64 (pF xs ws n)) := by
  obtain ⟨b, o, hl, e, _, _, x0⟩ := Rd.one h hn
  have e2 : ws.getD n (0, 0) = ws[n] := by rw [List.getD_eq_getElem?_getD, List.getElem?_eq_getElem hn]; rfl
  refine ⟨b, o, e, ?_⟩
  rw [x0]; unfold pF; rw [e2]; simp [farL]
theorem pp_fin {w0 : World} {stop most : Int} {X : Option Addr} {k cp : Nat} {xs : List Sd} {ws : List (Nat × Nat)} {A7 A8 : Option Addr} {c7 c8 q lb M : Nat} {ds : List Deferred} {w : World} (h : PpSt w0 stop most X k cp xs ws A7 A8 c7 c8 q lb M ds w) (tmps : Array Value) (ht : tmps[6]? = some (.pointer (some ⟨w0.heap.size + 1, 0, none⟩))) : ∀ w', Below M (w.setCell ⟨w0.heap.size + 1, 0, none⟩ (.bool true)) w' →
    ∃ v, (results Try.f13 tmps).run Try.prog w' = .ok v w' ∧ (fun e w' => e = Ending.returned (.bool true) ∧ Below w0.heap.size w0 w') (.returned v) w' := by
  intro w' hb
  have l := h.lq
  have g : w'.cell? ⟨w0.heap.size + 1, 0, none⟩ = some (.bool true) := by
    have := ((h.br.set_ 0 (.bool true)).below hb (by omega)).cell 0
    simpa using this
  refine ⟨.bool true, ?_, rfl, (h.below.setCell (by simp) _).trans (hb.mono (by omega))⟩
  simp [results, Try.results13, go_sem, g, ht]
theorem prs_few {W : World} {B : Nat} {X : Option Addr} {k : Nat} {xs : List Sd} (_h : SdsIn W B X k xs) (most : Int) : (prsL xs most).length ≤ 512 * 512 := by
  unfold prsL
  split
  · rename_i hp
    unfold prOk at hp
    simp only [Bool.and_eq_true, decide_eq_true_eq] at hp
    have h1 := prAll_len (nearQ xs most) xs.length xs.length
    exact Nat.le_trans h1 (Nat.mul_le_mul hp.1 hp.1)
  · simp

set_option maxHeartbeats 8000000 in
set_option maxRecDepth 100000 in
theorem rhymePairs_any (X : Option Addr) (k cp : Nat) (xs : List Sd) (most stop : Int) (w : World) (hr : SdsIn w w.heap.size X k xs) (hk : k ≤ maxLen) : Calls Try.prog 13 #[.slice X k cp, .int .i64 most, .int .i64 stop] w fun e w' => e = .returned (.bool true) ∧ Below w.heap.size w w' := by
  obtain ⟨i0, hi, hz0, hz1, hz2⟩ := info_parts info95
  obtain ⟨j0, hj, jz0, jz1, jz2⟩ := info_parts info3
  have HI := Lib.hid (And.intro hi (And.intro hz0 (And.intro hz1 hz2)))
  have HJ := Lib.hid (And.intro hj (And.intro jz0 (And.intro jz1 jz2)))
  clear hi hz0 hz1 hz2 hj jz0 jz1 jz2
  have HX := Lib.hid hr
  have HM := Lib.hid hk
  have HL := Lib.hid hr.len
  clear hr
  refine calls_of_wp_marks Try.func13 rfl ?_
  simp only [Try.ntmps13, List.size_toArray, List.length_cons, List.length_nil, Nat.reduceAdd, Nat.reduceSub, Array.replicate_succ, Array.replicate_zero, List.push_toArray, List.append_toArray, List.nil_append, List.cons_append]
  go_upto_region 1 with (fail)
  refine wp_abs (fun wx => Blk wx w.heap.size 3 #[.int .i64 stop] ∧ Blk wx (w.heap.size + 1) 4 #[.bool false] ∧ Below w.heap.size w wx) ⟨(Blk.new _ _ _).alloc _, blk_new_eq (by simp), ((Below.refl _ _).alloc (Nat.le_refl _) _).alloc (by simp) _⟩ ?_
  rintro w1 ⟨b0, b1, hb⟩
  have H1 := Lib.hid (And.intro b0 (And.intro b1 hb))
  clear b0 b1 hb
  go_wp2_with fail
  refine (wakes15_any w1).mono ?_
  rintro e w2 ⟨rfl, hb⟩
  have H2 := Lib.hid (And.intro (H1.out.1.below hb H1.out.1.lt) (And.intro (H1.out.2.1.below hb H1.out.2.1.lt) (H1.out.2.2.trans (hb.mono H1.out.2.2.size))))
  clear hb H1
  by_cases g1 : 40 < k
  · have d1 : decide ((40 : Int) < (k : Int)) = true := by simp; omega
    have r0 : w2.cell? ⟨w.heap.size + 1, 0, none⟩ = some (.bool false) := H2.out.2.1.cell 0
    have r1 : w2.frozen? ⟨w.heap.size + 1, 0, none⟩ = false := H2.out.2.1.frozen 0
    go_wp2
    refine bodyPostM_ret (B := w.heap.size + 2) trivial ?_
    intro w' hb
    have g : w'.cell? ⟨w.heap.size + 1, 0, none⟩ = some (.bool true) := by
      have := ((H2.out.2.1.set_ 0 (.bool true)).below hb (by omega)).cell 0
      simpa using this
    refine ⟨.bool true, by simp [results, Try.results13, go_sem, g], rfl, (H2.out.2.2.setCell (by simp) _).trans (hb.mono (by omega))⟩
  have d1 : decide ((40 : Int) < (k : Int)) = false := by simp; omega
  go_upto_region 7 with (fail)
  refine wp_abs (PbSt w w2.heap.size stop xs []) ⟨(H2.out.1.alloc _).alloc _, (H2.out.2.1.alloc _).alloc _, ⟨none, 0, (Blk.new _ _ _).alloc _, World.ownsRow_nil _ _ _ _⟩, ⟨none, 0, blk_new_eq (by simp), World.ownsRow_nil _ _ _ _⟩, (H2.out.2.2.alloc H2.out.2.2.size _).alloc (by have := H2.out.2.2.size; simp; omega) _, by have := H2.out.2.1.lt; omega⟩ ?_
  have lq := H2.out.2.1.lt
  clear H2
  generalize w2.heap.size = q at *
  intro w3 hS
  have H3 := Lib.hid hS
  clear hS
  go_cut [27] from 22 to 27 (fun v27 wx => v27 = .bool (decide (0 ≤ most) && xs.all mayB) ∧ Hid (PbSt w q stop xs [] wx))
  case first =>
    by_cases g2 : most < 0
    · have d2 : decide (0 ≤ most) = false := by simp; omega
      go_wp2_with fail
      go_meet
      exact ⟨by rw [d2, Bool.false_and], H3⟩
    have d2 : decide (0 ≤ most) = true := by simp; omega
    go_wp2_with fail
    refine (refAllR_any X k cp w.heap.size xs w3 (HX.out.below H3.out.below (Nat.le_refl _)) H3.out.below.size HM.out).mono ?_
    rintro e w4 ⟨rfl, hb⟩
    have H4 := Lib.hid (H3.out.on hb)
    clear hb
    go_wp2_with fail
    go_meet
    exact ⟨by rw [d2, Bool.true_and], H4⟩
  clear H3
  obtain ⟨rfl, H4⟩ := hcut
  generalize wc = w4 at *
  go_upto_if 27 with (fail)
  go_cut [9, 10, 11] from 27 to 63 (fun _ _ _ wx => Hid (PbSt w q stop xs (prsL xs most) wx))
  case first =>
    cases hall : (decide (0 ≤ most) && xs.all mayB) with
    | false =>
      have HN := Lib.hid (show prsL xs most = [] by
        unfold prsL prOk
        rw [hall, Bool.and_false, if_neg (by decide)])
      go_wp2_with fail
      go_meet
      rw [HN.out]
      exact H4
    | true =>
      have HP := Lib.hid (show prsL xs most = prAll (nearQ xs most) k k by
        unfold prsL prOk
        rw [hall, decide_eq_true (show xs.length ≤ 512 by have := HL.out; omega), HL.out]
        rfl)
      simp only [Bool.and_eq_true] at hall
      have HF := Lib.hid (show ∀ x ∈ xs, mayB x = true from fun x hx => List.all_eq_true.1 hall.2 x hx)
      have wf : ∀ k, Fence.wide.fn k := fun _ => trivial
      have wd : Fence.wide.depth = none := rfl
      clear hall
      go_wp2
      go_loopw [9, 10, 11] (fun v9 _ _ wr => ∃ a : Nat, a ≤ k ∧ v9 = .int .i64 a ∧ Hid (PbSt w q stop xs (prAll (nearQ xs most) k a) wr)) (fun v _ _ _ => k - (intOf v).toNat)
      case atStart => exact ⟨0, by omega, rfl, H4⟩
      case round =>
        obtain ⟨a, ha, rfl, HR⟩ := hrel
        clear H4
        by_cases hlt : a < k
        · have i1 : (0 : Int) ≤ (a : Int) := by omega
          have i2 : (a : Int) < (k : Int) := by omega
          go_wp2
          go_loopw [10, 11] (fun v _ wr => ∃ b : Nat, a + 1 ≤ b ∧ b ≤ k ∧ v = .int .i64 b ∧ Hid (PbSt w q stop xs (prAll (nearQ xs most) k a ++ prRow (nearQ xs most) a b) wr)) (fun v _ _ => k - (intOf v).toNat)
          case atStart => exact ⟨a + 1, by omega, by omega, by go_num, Lib.hid (by rw [prRow_le _ _ _ (Nat.le_refl _), List.append_nil]; exact HR.out)⟩
          case round =>
            obtain ⟨b, hb0, hb1, rfl, HQ⟩ := hrel
            by_cases hlb : b < k
            · have hBq := HQ.out.below.size
              obtain ⟨ba, oa, eX, hba, x0, x1, hxx, hmx⟩ := (HX.out.below HQ.out.below (Nat.le_refl _)).at hlt
              obtain ⟨bb, ob, eX2, hbb, y0, y1, hyy, hmy⟩ := (HX.out.below HQ.out.below (Nat.le_refl _)).at hlb
              rw [eX] at eX2
              injection eX2 with eX2
              injection eX2 with e1 e2
              subst e1 e2
              have hst : prAll (nearQ xs most) k a ++ prRow (nearQ xs most) a (b + 1) = prAll (nearQ xs most) k a ++ prRow (nearQ xs most) a b ++ (if nearQ xs most a b = true then [(a, b)] else []) := by
                rw [List.append_assoc]
                congr 1
                show prRow (nearQ xs most) a b ++ (if a < b ∧ nearQ xs most a b = true then [(a, b)] else []) = _
                congr 1
                by_cases hq : nearQ xs most a b = true
                · rw [if_pos ⟨by omega, hq⟩, if_pos hq]
                · rw [if_neg (fun h => hq h.2), if_neg hq]
              have hqd : nearQ xs most a b = decide (farS (xs.getD a sd0) (xs.getD b sd0) ≤ most) := rfl
              have hpl : (prAll (nearQ xs most) k a ++ prRow (nearQ xs most) a b).length ≤ 1600 := by
                have h1 := prAll_len (nearQ xs most) k a
                have h2 := prRow_len (nearQ xs most) a b
                have h3 : a * k ≤ 39 * 40 := Nat.mul_le_mul (by omega) (by omega)
                rw [List.length_append]
                omega
              generalize prAll (nearQ xs most) k a ++ prRow (nearQ xs most) a b = ws at *
              have HXX := Lib.hid (And.intro hxx (And.intro hyy (And.intro (HF.out _ hmx) (HF.out _ hmy))))
              have HST := Lib.hid (And.intro hst hqd)
              have HXE : Hid (xs.getD a sd0 = xs.getD a sd0 ∧ xs.getD b sd0 = xs.getD b sd0) := Lib.hid ⟨rfl, rfl⟩
              obtain ⟨x, hx⟩ : ∃ x, x = xs.getD a sd0 := ⟨_, rfl⟩
              obtain ⟨y, hy⟩ : ∃ y, y = xs.getD b sd0 := ⟨_, rfl⟩
              rw [← hx] at x0 x1 HXX HST
              rw [← hy] at y0 y1 HXX HST
              have HXY := Lib.hid (And.intro hx hy)
              rw [eX]
              clear hxx hyy hmx hmy hst hqd HXE hx hy
              have i3 : (0 : Int) ≤ (b : Int) := by omega
              have i4 : (b : Int) < (k : Int) := by omega
              have dB : decide ((b : Int) < (k : Int)) = true := by simp; omega
              go_wp2
              have Xx0 := Bel.cell x0
              have Xx1 := Bel.cell x1
              have Xy0 := Bel.cell y0
              have Xy1 := Bel.cell y1
              clear x0 x1 y0 y1
              refine wp_bel (by kernel_rfl) (by kernel_rfl) ?_
              repeat (gi_big_quiet_step (fail))
              gi_big_quiet_want
              gi_big_quiet_op
              refine ⟨.int .i64 (farS x y), fun z => ?_, ?_⟩
              · exact callsIn_wide.2 ((refNear_any x y w.heap.size z.1 (HXX.out.1.below z.2 hBq) (HXX.out.2.1.below z.2 hBq) (Nat.le_trans hBq z.2.size) HXX.out.2.2).mono (fun e w' h => ⟨h.1, z.next h.2⟩))
              go_big_quiet_on
              repeat (gi_big_quiet_step (fail))
              refine wpQuietIn_nil ?_
              intro _ hw'
              obtain ⟨zW, hw''⟩ := hw'
              subst hw''
              have HZ := Lib.hid (HQ.out.on zW.2)
              generalize zW.1 = wz at *
              clear Xx0 Xx1 Xy0 Xy1 HQ HXX
              by_cases hq : farS x y ≤ most
              · have dq : decide (farS x y ≤ most) = true := decide_eq_true hq
                have hqt : nearQ xs most a b = true := by rw [HST.out.2]; exact dq
                have HQT := Lib.hid hqt
                obtain ⟨A7, c7, hB7, ho7⟩ := HZ.out.b7
                have c7_ : wz.cell? ⟨q, 0, none⟩ = some (.slice A7 ws.length c7) := hB7.cell 0
                have H7 := Lib.hid (And.intro hB7 ho7)
                have hzs := HZ.out.below.size
                have hqs := HZ.out.lq
                have hl7 := hB7.lt
                clear hqt hB7 ho7
                generalize hd : farS x y = d at *
                have HD := Lib.hid hd
                clear hd
                go_upto_region 17 with (at_builtin; go_must (refine wpList_append_rd _ rfl _ _ 86 rfl (q + 2) 95 i0 (.agg #[.int .i64 0, .int .i64 0]) 2 16 Try.underlying86 HI.out.1 HI.out.2.1 HI.out.2.2.1 HI.out.2.2.2 rfl (by decide) _ _ _ rfl (H7.out.2.alloc _) _ _ _ 1 1 _ rfl (rd_new _ _ #[.int .i64 (a : Int), .int .i64 (b : Int)] 2 rfl) (by simp [Value.oneCell']) (by unfold maxLen; omega) (by omega) (by have := (bl_lt HZ.out); simp; omega) ?_; intro v4 w4 _ hown hgrow _; obtain ⟨A9, C9, e9⟩ := own_slice hown; subst e9; have H5 := Lib.hid (pb_seven (p := (a, b)) HZ.out H7.out.1 H7.out.2 hown hgrow); clear hown hgrow c7_; have c7_ := H5.out.1.cell 0; have f7_ := H5.out.1.frozen 0))
                refine wp_abs (fun wx => wx = w4.setCell ⟨q, 0, none⟩ (.slice A9 (ws.length + 1) C9)) rfl ?_
                intro w5 he5
                have h5 := H5.out.2
                rw [← he5] at h5
                obtain ⟨m1, m2, m3, m4, ⟨B8, d8, m5, m6⟩, m7⟩ := h5
                have c8_ : w5.cell? ⟨q + 1, 0, none⟩ = some (.slice B8 ws.length d8) := m5.cell 0
                have hl5 := m5.lt
                have H6 := Lib.hid (And.intro m1 (And.intro m2 (And.intro m3 (And.intro m4 (And.intro m5 (And.intro m6 m7))))))
                clear m1 m2 m3 m4 m5 m6 m7 he5 H5 c7_ f7_ H7 HZ
                go_wp2_with (at_builtin; go_must (refine wpList_append_rd _ rfl _ _ 71 rfl (q + 2) 3 j0 (.int .i64 0) 1 8 Try.underlying71 HJ.out.1 HJ.out.2.1 HJ.out.2.2.1 HJ.out.2.2.2 rfl (by decide) _ _ _ rfl (H6.out.2.2.2.2.2.1.alloc _) _ _ _ 1 1 _ rfl (rd_new _ _ #[.int .i64 d] 1 rfl) (by simp [Value.oneCell']) (by unfold maxLen; omega) (by omega) (by simp; omega) ?_; intro v8 w8 _ hown hgrow _; obtain ⟨B9, D9, e9⟩ := own_slice hown; subst e9; have H8 := Lib.hid (pb_eight (p := (a, b)) (by rw [← HXY.out.1, ← HXY.out.2]; exact HD.out) hqs H6.out.2.2.1 H6.out.2.2.2.1 H6.out.2.2.2.2.2.2 H6.out.1 H6.out.2.1 H6.out.2.2.2.2.1 H6.out.2.2.2.2.2.1 hown hgrow); clear hown hgrow c8_; have c8_ := H8.out.1.cell 0; have f8_ := H8.out.1.frozen 0))
                go_roundw
                case rel => exact ⟨b + 1, by omega, by omega, by go_num, Lib.hid (by rw [HST.out.1, if_pos HQT.out]; exact H8.out.2)⟩
                case measure => simp [intOf]; omega
              · have dq : decide (farS x y ≤ most) = false := decide_eq_false hq
                have hqf : nearQ xs most a b = false := by rw [HST.out.2]; exact dq
                have HQF := Lib.hid hqf
                clear hqf hq
                generalize farS x y = d at *
                go_wp2
                go_roundw
                case rel => exact ⟨b + 1, by omega, by omega, by go_num, Lib.hid (by rw [HST.out.1, HQF.out, if_neg (by decide), List.append_nil]; exact HZ.out)⟩
                case measure => simp [intOf]; omega
            · have hbk : b = k := by omega
              subst hbk
              have dB : decide ((b : Int) < (b : Int)) = false := by simp
              go_wp2
              go_roundw
              case rel => exact ⟨a + 1, by omega, by go_num, HQ⟩
              case measure => simp [intOf]; omega
        · have hak : a = k := by omega
          subst hak
          go_wp2_with fail
          go_meet
          rw [HP.out]
          exact HR
  case rest =>
    have H5 := Lib.hid hcut.out
    clear hcut H4
    generalize wc = w5 at *
    go_wp2_with fail
    refine (pairs_call X k cp most w5).mono ?_
    rintro e w6 ⟨rfl, hw6⟩
    obtain ⟨A7, c7, hB7, ho7⟩ := H5.out.b7
    obtain ⟨A8, c8, hB8, ho8⟩ := H5.out.b8
    have hw6b : Below w5.heap.size w5 w6 := by rw [hw6]; exact ((Below.refl _ _).alloc (Nat.le_refl _) _).alloc (by simp) _
    have hs6 : w6.heap.size = w5.heap.size + 2 := by rw [hw6]; simp
    have hP : PpSt w stop most X k cp xs (prsL xs most) A7 A8 c7 c8 q w5.heap.size w6.heap.size [] w6 :=
      ⟨H5.out.be.below hw6b H5.out.be.lt, H5.out.br.below hw6b H5.out.br.lt, hB7.below hw6b hB7.lt, hB8.below hw6b hB8.lt, ((own_rd ho7).more (Nat.zero_le _) (Nat.le_refl _)).up hw6b hw6b.size |>.more (Nat.le_refl _) (Nat.le_refl _), ((own_rd ho8).more (Nat.zero_le _) (Nat.le_refl _)).up hw6b hw6b.size,
        by rw [hw6]; exact (Blk.new _ _ _).alloc _, by rw [hw6]; exact blk_new_eq (by simp), trivial, H5.out.below.trans (hw6b.mono H5.out.below.size), H5.out.lq, by have := hB8.lt; omega, H5.out.below.size, by omega, Nat.le_refl _⟩
    have HP := Lib.hid hP
    clear hP hw6 hw6b hs6 hB7 hB8 ho7 ho8 H5
    generalize w5.heap.size = lb at *
    obtain ⟨M, hM⟩ : ∃ M, M = w6.heap.size := ⟨_, rfl⟩
    rw [← hM] at HP
    have qf : ∀ (w : World) (f : Fn) (a c : Array Value), (binOp .eql 106 (.func f a c) .nilFunc).run Try.prog w = .ok (.bool false) w := q106
    go_wp2
    clear qf
    --LOOP
    refine wp_loop (fun a' w' => ∃ (ds : List Deferred) (j jb : Nat) (v14 v69 v70 v71 v72 v73 v105 v106 v107 v108 v109 v110 v111 v112 v113 v114 v115 v116 v117 v118 v119 : Value), (j ≤ 2 ∧ M ≤ jb ∧ Hid (PpSt w stop most X k cp xs (prsL xs most) A7 A8 c7 c8 q lb M ds w' ∧ Blk w' jb 3 #[.int .i64 (j : Nat)])) ∧ a' = { tmps := #[.slice X k cp, .int .i64 most, .int .i64 stop, undef, undef, .pointer (some ⟨w.heap.size, 0, none⟩), .pointer (some ⟨w.heap.size + 1, 0, none⟩), .pointer (some ⟨q, 0, none⟩), .pointer (some ⟨q + 1, 0, none⟩), u9, u10, u11, .func (.func 134) #[] #[.pointer (some ⟨lb, 0, none⟩), .pointer (some ⟨lb + 1, 0, none⟩)], .pointer (some ⟨jb, 0, none⟩), v14, undef, undef, .bool true, .bool false, .slice X k cp, .int .i64 k, .bool false, u22, u23, u24, u25, u26, u27, u28, u29, u30, u31, u32, u33, u34, u35, u36, u37, u38, u39, u40, u41, u42, u43, u44, u45, u46, u47, u48, u49, u50, u51, u52, u53, u54, u55, u56, u57, u58, u59, u60, u61, u62, u63, .slice X k cp, .int .i64 most, .func (.func 134) #[] #[.pointer (some ⟨lb, 0, none⟩), .pointer (some ⟨lb + 1, 0, none⟩)], .func (.func 134) #[] #[.pointer (some ⟨lb, 0, none⟩), .pointer (some ⟨lb + 1, 0, none⟩)], .bool false, v69, v70, v71, v72, v73, undef, undef, undef, undef, undef, undef, undef, undef, undef, undef, undef, undef, undef, undef, undef, undef, undef, undef, undef, undef, undef, undef, undef, undef, undef, undef, undef, undef, undef, undef, undef, v105, v106, v107, v108, v109, v110, v111, v112, v113, v114, v115, v116, v117, v118, v119], defers := ds }) (fun a' w' => 2 - mJ a' w') ?start ?round
    case start =>
      refine ⟨[], 0, w6.heap.size, ?_⟩
      (repeat apply Exists.intro)
      exact ⟨⟨by omega, by omega, Lib.hid ⟨HP.out.on ((Below.refl _ _).alloc (Nat.le_refl _) _), Blk.new _ _ _⟩⟩, rfl⟩
    case round =>
      clear HP hM
      intro _ wr hinv
      obtain ⟨ds, hinv⟩ := hinv
      obtain ⟨j, hinv⟩ := hinv
      obtain ⟨jb, hinv⟩ := hinv
      obtain ⟨v14, hinv⟩ := hinv
      obtain ⟨v69, hinv⟩ := hinv
      obtain ⟨v70, hinv⟩ := hinv
      obtain ⟨v71, hinv⟩ := hinv
      obtain ⟨v72, hinv⟩ := hinv
      obtain ⟨v73, hinv⟩ := hinv
      obtain ⟨v105, hinv⟩ := hinv
      obtain ⟨v106, hinv⟩ := hinv
      obtain ⟨v107, hinv⟩ := hinv
      obtain ⟨v108, hinv⟩ := hinv
      obtain ⟨v109, hinv⟩ := hinv
      obtain ⟨v110, hinv⟩ := hinv
      obtain ⟨v111, hinv⟩ := hinv
      obtain ⟨v112, hinv⟩ := hinv
      obtain ⟨v113, hinv⟩ := hinv
      obtain ⟨v114, hinv⟩ := hinv
      obtain ⟨v115, hinv⟩ := hinv
      obtain ⟨v116, hinv⟩ := hinv
      obtain ⟨v117, hinv⟩ := hinv
      obtain ⟨v118, hinv⟩ := hinv
      obtain ⟨v119, hinv⟩ := hinv
      obtain ⟨⟨hj, hjb, HR⟩, ha⟩ := hinv
      subst ha
      try dsimp only
      have cj : wr.cell? ⟨jb, 0, none⟩ = some (.int .i64 (j : Nat)) := HR.out.2.cell 0
      have hmj : ∀ d : List Deferred, mJ { tmps := #[.slice X k cp, .int .i64 most, .int .i64 stop, undef, undef, .pointer (some ⟨w.heap.size, 0, none⟩), .pointer (some ⟨w.heap.size + 1, 0, none⟩), .pointer (some ⟨q, 0, none⟩), .pointer (some ⟨q + 1, 0, none⟩), u9, u10, u11, .func (.func 134) #[] #[.pointer (some ⟨lb, 0, none⟩), .pointer (some ⟨lb + 1, 0, none⟩)], .pointer (some ⟨jb, 0, none⟩), v14, undef, undef, .bool true, .bool false, .slice X k cp, .int .i64 k, .bool false, u22, u23, u24, u25, u26, u27, u28, u29, u30, u31, u32, u33, u34, u35, u36, u37, u38, u39, u40, u41, u42, u43, u44, u45, u46, u47, u48, u49, u50, u51, u52, u53, u54, u55, u56, u57, u58, u59, u60, u61, u62, u63, .slice X k cp, .int .i64 most, .func (.func 134) #[] #[.pointer (some ⟨lb, 0, none⟩), .pointer (some ⟨lb + 1, 0, none⟩)], .func (.func 134) #[] #[.pointer (some ⟨lb, 0, none⟩), .pointer (some ⟨lb + 1, 0, none⟩)], .bool false, v69, v70, v71, v72, v73, undef, undef, undef, undef, undef, undef, undef, undef, undef, undef, undef, undef, undef, undef, undef, undef, undef, undef, undef, undef, undef, undef, undef, undef, undef, undef, undef, undef, undef, undef, undef, v105, v106, v107, v108, v109, v110, v111, v112, v113, v114, v115, v116, v117, v118, v119], defers := d } wr = j := fun d => mJ_of rfl cj
      have HMJ := Lib.hid hmj
      clear hmj
      by_cases hlt : j < 2
      · have dj : decide ((j : Int) < 2) = true := by simp; omega
        go_upto_region 25 with (fail)
        refine wp_abs (fun wx => wx = wr.alloc (.cells #[.int .i64 0] 3)) rfl ?_
        intro wB hB
        have hBb : Below wr.heap.size wr wB := by rw [hB]; exact (Below.refl _ _).alloc (Nat.le_refl _) _
        have hBs : wB.heap.size = wr.heap.size + 1 := by rw [hB]; simp
        have hM0 := HR.out.1.lq.2.2.2.2
        have hjl := HR.out.2.lt
        have hI : PpIn w stop most X k cp xs (prsL xs most) A7 A8 c7 c8 q lb M ds jb wr.heap.size (wr.heap.size + 1) j 0 wB :=
          ⟨HR.out.1.on hBb, HR.out.2.below hBb hjl, by rw [hB]; exact Blk.new _ _ _, ⟨hjb, by omega⟩, ⟨hM0, by omega⟩, by omega, fun d hd => by
            obtain ⟨r, h1, h2⟩ := HR.out.1.mar.lt d hd
            exact ⟨r, h1, by omega⟩⟩
        have HI := Lib.hid hI
        have HBS := Lib.hid hBs
        clear hI HR hBs hBb hB cj hM0 hjl
        generalize hib : wr.heap.size = ib at *
        go_wp2
        refine wp_range (gf := 134) (lb := #[.pointer (some ⟨lb, 0, none⟩), .pointer (some ⟨lb + 1, 0, none⟩)]) (N := (prsL xs most).length) (X := PrX xs most) (T := fun _ _ => False) (C := fun b => b = lb ∨ b = lb + 1 ∨ b < w.heap.size) rfl (enters_of Try.func134 (by kernel_rfl) rfl)
          (fun W hb _ => pairs_gives X k cp lb (lb + 1) w.heap.size xs most W (HI.out.st.bl.below hb HI.out.st.bl.lt) (HI.out.st.bm.below hb HI.out.st.bm.lt) (HX.out.below (HI.out.st.below.trans (hb.mono HI.out.st.below.size)) (Nat.le_refl _)) (Nat.le_trans HI.out.st.below.size hb.size) HM.out)
          (fun b e => by have h1 := HI.out.st.bm.lt; have h2 := HI.out.st.below.size; omega) ?hX
          (fun n W => (j = 0 → stop ≤ 0 ∨ (n : Int) < stop) ∧ PpIn w stop most X k cp xs (prsL xs most) A7 A8 c7 c8 q lb M ds jb ib (ib + 1) j n W) (fun c n W => c = .exit 6 ∧ j = 0 ∧ ((n : Int) = stop) ∧ PpIn w stop most X k cp xs (prsL xs most) A7 A8 c7 c8 q lb M ds jb ib (ib + 1) j n W)
          (fun n A A' h hb => ⟨h.1, h.2.on (by rw [HBS.out] at hb; exact hb)⟩) (fun c n A A' h hb => ⟨h.1, h.2.1, h.2.2.1, h.2.2.2.on (by rw [HBS.out] at hb; exact hb)⟩) ⟨fun _ => by omega, HI.out⟩
          (fun n args a' W => ∃ pb : Nat, args = #[.agg #[.int .i64 (pA (prsL xs most) n), .int .i64 (pB (prsL xs most) n)], .int .i64 (pF xs (prsL xs most) n)] ∧ (j = 0 → stop ≤ 0 ∨ (n : Int) < stop) ∧ (PpIn w stop most X k cp xs (prsL xs most) A7 A8 c7 c8 q lb M ds jb ib (ib + 1) j n W ∧ Blk W pb 95 #[.int .i64 (pA (prsL xs most) n), .int .i64 (pB (prsL xs most) n)] ∧ ib + 3 ≤ pb) ∧ a' = { tmps := #[.slice X k cp, .int .i64 most, .int .i64 stop, undef, undef, .pointer (some ⟨w.heap.size, 0, none⟩), .pointer (some ⟨w.heap.size + 1, 0, none⟩), .pointer (some ⟨q, 0, none⟩), .pointer (some ⟨q + 1, 0, none⟩), u9, u10, u11, .func (.func 134) #[] #[.pointer (some ⟨lb, 0, none⟩), .pointer (some ⟨lb + 1, 0, none⟩)], .pointer (some ⟨jb, 0, none⟩), .pointer (some ⟨ib, 0, none⟩), .pointer (some ⟨pb, 0, none⟩), .int .i64 (pF xs (prsL xs most) n), .bool true, .bool false, .slice X k cp, .int .i64 k, .bool false, u22, u23, u24, u25, u26, u27, u28, u29, u30, u31, u32, u33, u34, u35, u36, u37, u38, u39, u40, u41, u42, u43, u44, u45, u46, u47, u48, u49, u50, u51, u52, u53, u54, u55, u56, u57, u58, u59, u60, u61, u62, u63, .slice X k cp, .int .i64 most, .func (.func 134) #[] #[.pointer (some ⟨lb, 0, none⟩), .pointer (some ⟨lb + 1, 0, none⟩)], .func (.func 134) #[] #[.pointer (some ⟨lb, 0, none⟩), .pointer (some ⟨lb + 1, 0, none⟩)], .bool false, .int .i64 (j : Nat), .bool true, v71, v72, .func (.func 134) #[] #[.pointer (some ⟨lb, 0, none⟩), .pointer (some ⟨lb + 1, 0, none⟩)], .agg #[.int .i64 (pA (prsL xs most) n), .int .i64 (pB (prsL xs most) n)], .int .i64 (pF xs (prsL xs most) n), undef, undef, undef, undef, undef, undef, undef, undef, undef, undef, undef, undef, undef, undef, undef, undef, undef, undef, undef, undef, undef, undef, undef, undef, undef, undef, undef, undef, undef, v105, v106, v107, v108, v109, v110, v111, v112, v113, v114, v115, v116, v117, v118, v119], defers := [] })
          ?hAx ?assign ?body ?done ?stop
        case hX =>
          rintro n args W h
          obtain ⟨hn, rfl⟩ := prx_at h
          exact ⟨rfl, fun b h => h.elim⟩
        case hAx =>
          rintro n args a' A A' ⟨pb, h1, h2, ⟨h4, h5, h6⟩, h7⟩ ho _ _
          rw [HBS.out] at ho
          exact ⟨pb, h1, h2, ⟨h4.stay ho (fun b e => by omega), h5.only ho (by omega), h6⟩, h7⟩
        case assign =>
          rintro l n args W hn ⟨hbr, hI⟩ hx hsz
          obtain ⟨hnl, rfl⟩ := prx_at hx
          have HJJ := Lib.hid (And.intro hbr hI)
          clear hbr hI hx
          rw [HBS.out] at hsz
          simp only [List.zip_toArray, List.zip_cons_cons, List.zip_nil_right, List.foldl_toArray', List.foldl_cons, List.foldl_nil]
          gi_wp2
          refine ⟨(Only.refl _ _).alloc _, W.heap.size, trivial, HJJ.out.1, ⟨HJJ.out.2.on ((Below.refl _ _).alloc (by omega) _), Blk.new _ _ _, by omega⟩, rfl⟩
        case body =>
          rintro l n args a₁ W hn ⟨pb, rfl, hbr, ⟨hR, hPb, hpb⟩, rfl⟩ hsz
          have c5 : W.cell? ⟨w.heap.size, 0, none⟩ = some (.int .i64 stop) := hR.st.be.cell 0
          have cj : W.cell? ⟨jb, 0, none⟩ = some (.int .i64 (j : Nat)) := hR.bj.cell 0
          have ci : W.cell? ⟨ib, 0, none⟩ = some (.int .i64 (n : Nat)) := hR.bi.cell 0
          have fi : W.frozen? ⟨ib, 0, none⟩ = false := hR.bi.frozen 0
          have c7_ : W.cell? ⟨q, 0, none⟩ = some (.slice A7 (prsL xs most).length c7) := hR.st.b7.cell 0
          have c8_ : W.cell? ⟨q + 1, 0, none⟩ = some (.slice A8 (prsL xs most).length c8) := hR.st.b8.cell 0
          have p0 : W.cell? ⟨pb, 0, none⟩ = some (.int .i64 (pA (prsL xs most) n)) := hPb.cell 0
          have p1 : W.cell? ⟨pb, 1, none⟩ = some (.int .i64 (pB (prsL xs most) n)) := hPb.cell 1
          obtain ⟨b7, o7, e7, x0, x1⟩ := pp_seven hR.st.r7 hn
          obtain ⟨b8, o8, e8, y0⟩ := pp_eight hR.st.r8 hn
          subst e7 e8
          have HR := Lib.hid hR
          have HK3 := Lib.hid hbr
          clear hR hbr hPb
          have wf : ∀ k, Fence.wide.fn k := fun _ => trivial
          have wd : Fence.wide.depth = none := rfl
          have hN := prs_few HX.out most
          have hnn : ((n : Int) + 1).toNat = n + 1 := by omega
          generalize (prsL xs most).length = N at *
          generalize pA (prsL xs most) n = pa at *
          generalize pB (prsL xs most) n = pbb at *
          generalize pF xs (prsL xs most) n = pf at *
          have i1 : (0 : Int) ≤ (n : Int) := by omega
          have i2 : (n : Int) < (N : Int) := by omega
          have d1 : decide ((N : Int) ≤ (n : Int)) = false := by simp; omega
          have d2 : decide (N ≤ n) = false := by simp; omega
          have n1 : ∀ x : Int, (x != x) = false := fun x => by simp
          have hjj : j = 0 ∨ j = 1 := by omega
          have g1 : (((j : Int) == 0) = true ∧ ((n : Int) + 1 == stop) = true ∧ j = 0 ∧ (n : Int) + 1 = stop) ∨ (((j : Int) == 0) = true ∧ ((n : Int) + 1 == stop) = false ∧ j = 0 ∧ (n : Int) + 1 ≠ stop) ∨ (((j : Int) == 0) = false ∧ j = 1) := by
            rcases hjj with h | h
            · by_cases hs : (n : Int) + 1 = stop
              · exact .inl ⟨by rw [h]; rfl, by rw [hs]; simp, h, hs⟩
              · exact .inr (.inl ⟨by rw [h]; rfl, by simpa using hs, h, hs⟩)
            · exact .inr (.inr ⟨by rw [h]; rfl, h⟩)
          gi_wp2
          refine wpIn_quiet_round (by kernel_rfl) (by kernel_rfl) (by kernel_rfl) ?_
          repeat (gi_big_quiet_step (fail))
          refine wpQuietIn_nil ?_
          intro _ hw'
          obtain ⟨nq, hw''⟩ := hw'
          subst hw''
          have l2 := HR.out.li
          have l3 := HR.out.ne
          have hset := (HR.out.on (Below.drewNB (Below.refl _ W) nq)).set (n + 1)
          rw [show ((n + 1 : Nat) : Int) = (n : Int) + 1 by omega] at hset
          have hoo : Only (fun b => (b < wB.heap.size ∧ ¬ (b = lb ∨ b = lb + 1 ∨ b < w.heap.size)) ∨ False) W ((W.drewN nq).setCell ⟨ib, 0, none⟩ (.int .i64 ((n : Int) + 1))) := by
            have h9 := HR.out.st.lq
            exact ((Only.refl _ _).drewN _).setCell (.inl (.inl ⟨by rw [HBS.out]; exact l2.2, by simp; omega⟩)) _
          have cj2 : ((W.drewN nq).setCell ⟨ib, 0, none⟩ (.int .i64 ((n : Int) + 1))).cell? ⟨jb, 0, none⟩ = some (.int .i64 (j : Nat)) := hset.bj.cell 0
          have ci2 : ((W.drewN nq).setCell ⟨ib, 0, none⟩ (.int .i64 ((n : Int) + 1))).cell? ⟨ib, 0, none⟩ = some (.int .i64 ((n : Int) + 1)) := by
            have := hset.bi.cell 0
            simpa using this
          have c52 : ((W.drewN nq).setCell ⟨ib, 0, none⟩ (.int .i64 ((n : Int) + 1))).cell? ⟨w.heap.size, 0, none⟩ = some (.int .i64 stop) := hset.st.be.cell 0
          have HO := Lib.hid (And.intro hset hoo)
          clear hset hoo
          rcases g1 with ⟨j0, k0, hj0, hks⟩ | ⟨j0, k0, hj0, hks⟩ | ⟨j0, hj1⟩
          · have HS := Lib.hid (And.intro hj0 hks)
            clear hj0 hks
            gi_wp2
            exact ⟨HO.out.2, rfl, HS.out.1, by have := HS.out.2; omega, HO.out.1⟩
          · have HS := Lib.hid (And.intro hj0 hks)
            clear hj0 hks
            gi_wp2
            exact ⟨HO.out.2, fun hj => by have h1 := HK3.out hj; have h2 := HS.out.2; omega, HO.out.1⟩
          · have HS := Lib.hid hj1
            clear hj1
            gi_wp2
            exact ⟨HO.out.2, fun hj => by have := HS.out; omega, HO.out.1⟩
        case done =>
          rintro W ⟨_, hI⟩ hmk
          rw [HBS.out] at hmk
          have ci : W.cell? ⟨ib, 0, none⟩ = some (.int .i64 ((prsL xs most).length : Nat)) := hI.bi.cell 0
          have cj : W.cell? ⟨jb, 0, none⟩ = some (.int .i64 (j : Nat)) := hI.bj.cell 0
          have c7_ : W.cell? ⟨q, 0, none⟩ = some (.slice A7 (prsL xs most).length c7) := hI.st.b7.cell 0
          have HW := Lib.hid (hI.leave hmk)
          clear hI hmk
          have n1 : (((prsL xs most).length : Int) != ((prsL xs most).length : Int)) = false := by simp
          rw [HBS.out]
          go_upto_region 23 with (fail)
          refine wp_abs (fun wx => wx = W.alloc (.cells #[.int .i64 (j : Nat)] 3)) rfl ?_
          intro wA hA
          have hjb2 := HW.out.lq.2.2.2.2
          have HA : Hid (PpSt w stop most X k cp xs (prsL xs most) A7 A8 c7 c8 q lb M ({ target := .collected (ib + 1), args := #[] } :: ds) wA ∧ Blk wA W.heap.size 3 #[.int .i64 (j : Nat)]) := Lib.hid (by rw [hA]; exact ⟨HW.out.on ((Below.refl _ _).alloc (Nat.le_refl _) _), Blk.new _ _ _⟩)
          clear hA HW
          generalize hjn : W.heap.size = jn at *
          have cj3 : wA.cell? ⟨jn, 0, none⟩ = some (.int .i64 (j : Nat)) := HA.out.2.cell 0
          have fj3 : wA.frozen? ⟨jn, 0, none⟩ = false := HA.out.2.frozen 0
          have hc : (wA.setCell ⟨jn, 0, none⟩ (.int .i64 ((j : Int) + 1))).cell? ⟨jn, 0, none⟩ = some (.int .i64 ((j + 1 : Nat) : Int)) := by
            have := (HA.out.2.set_ 0 (.int .i64 ((j : Int) + 1))).cell 0
            rw [show ((j + 1 : Nat) : Int) = (j : Int) + 1 by omega]
            simpa using this
          have HC := Lib.hid hc
          clear hc
          go_wp2
          refine ⟨⟨{ target := .collected (ib + 1), args := #[] } :: ds, j + 1, jn, ?_⟩, ?_⟩
          · (repeat apply Exists.intro)
            exact ⟨⟨by omega, hjb2, Lib.hid ⟨HA.out.1.put HA.out.2 hjb2 0 _, by rw [show ((j + 1 : Nat) : Int) = (j : Int) + 1 by omega]; simpa using HA.out.2.set_ 0 (.int .i64 ((j : Int) + 1))⟩⟩, rfl⟩
          · exact Nat.lt_of_le_of_lt (Nat.le_of_eq (congrArg (2 - ·) (mJ_of rfl HC.out))) (by rw [HMJ.out]; omega)
        case stop =>
          rintro c n W hk0 hkN ⟨rfl, hj0, hke, hI⟩ hmk
          rw [HBS.out] at hmk
          have ci : W.cell? ⟨ib, 0, none⟩ = some (.int .i64 (n : Nat)) := hI.bi.cell 0
          have cj : W.cell? ⟨jb, 0, none⟩ = some (.int .i64 (j : Nat)) := hI.bj.cell 0
          have c5 : W.cell? ⟨w.heap.size, 0, none⟩ = some (.int .i64 stop) := hI.st.be.cell 0
          have c7_ : W.cell? ⟨q, 0, none⟩ = some (.slice A7 (prsL xs most).length c7) := hI.st.b7.cell 0
          have HW := Lib.hid (hI.leave hmk)
          clear hI hmk
          have j0 : ((j : Int) == 0) = true := by rw [hj0]; rfl
          have k0 : ((n : Int) == stop) = true := by rw [hke]; simp
          have HJ0 := Lib.hid (And.intro hj0 hke)
          clear hj0 hke
          rw [HBS.out]
          have hne : ((n : Int) != ((prsL xs most).length : Int)) = false ∨ ((n : Int) != ((prsL xs most).length : Int)) = true := by cases ((n : Int) != ((prsL xs most).length : Int)) <;> simp
          generalize (prsL xs most).length = N at *
          rcases hne with n1 | n1
          all_goals
            go_upto_region 23 with (fail)
            refine wp_abs (fun wx => wx = W.alloc (.cells #[.int .i64 (j : Nat)] 3)) rfl ?_
            intro wA hA
            have hjb2 := HW.out.lq.2.2.2.2
            have HA : Hid (PpSt w stop most X k cp xs (prsL xs most) A7 A8 c7 c8 q lb M ({ target := .collected (ib + 1), args := #[] } :: ds) wA ∧ Blk wA W.heap.size 3 #[.int .i64 (j : Nat)]) := Lib.hid (by rw [hA]; exact ⟨HW.out.on ((Below.refl _ _).alloc (Nat.le_refl _) _), Blk.new _ _ _⟩)
            clear hA HW
            generalize hjn : W.heap.size = jn at *
            have cj3 : wA.cell? ⟨jn, 0, none⟩ = some (.int .i64 (j : Nat)) := HA.out.2.cell 0
            have fj3 : wA.frozen? ⟨jn, 0, none⟩ = false := HA.out.2.frozen 0
            have hc : (wA.setCell ⟨jn, 0, none⟩ (.int .i64 ((j : Int) + 1))).cell? ⟨jn, 0, none⟩ = some (.int .i64 ((j + 1 : Nat) : Int)) := by
              have := (HA.out.2.set_ 0 (.int .i64 ((j : Int) + 1))).cell 0
              rw [show ((j + 1 : Nat) : Int) = (j : Int) + 1 by omega]
              simpa using this
            have HC := Lib.hid hc
            clear hc
            go_wp2
            refine ⟨⟨{ target := .collected (ib + 1), args := #[] } :: ds, j + 1, jn, ?_⟩, ?_⟩
            · (repeat apply Exists.intro)
              exact ⟨⟨by omega, hjb2, Lib.hid ⟨HA.out.1.put HA.out.2 hjb2 0 _, by rw [show ((j + 1 : Nat) : Int) = (j : Int) + 1 by omega]; simpa using HA.out.2.set_ 0 (.int .i64 ((j : Int) + 1))⟩⟩, rfl⟩
            · exact Nat.lt_of_le_of_lt (Nat.le_of_eq (congrArg (2 - ·) (mJ_of rfl HC.out))) (by rw [HMJ.out]; omega)
      · obtain rfl : j = 2 := by omega
        have dj : decide (((2 : Nat) : Int) < 2) = false := by decide
        have r0 : wr.cell? ⟨w.heap.size + 1, 0, none⟩ = some (.bool false) := HR.out.1.br.cell 0
        have r1 : wr.frozen? ⟨w.heap.size + 1, 0, none⟩ = false := HR.out.1.br.frozen 0
        go_wp2
        refine bodyPostM_ret (HR.out.1.mar.setCell HR.out.1.br 0 (.bool true)) ?_
        exact pp_fin HR.out.1 _ rfl
end Go.Proofs.Ytogofchpocoebaa
