/- phone.read and the closures that it is handed.
   phone.read with the consonants' closure.
   phone.rows: all rows, rising; phone.table: a map of them.
   phone.table: a map of all rows; phone.is: the test by it. -/
import Derived.Test.YtogofchpocoebaaGen
import Derived.Test.YtogofchpocoebaaP1
import Derived.BigQuiet
namespace Go.Proofs.Ytogofchpocoebaa
open Go.RowKit

def trA (x y z : Int) : Tr := (true, x, y, z == 1, 0, 0, false)
def trB (x y z : Int) : Tr := (false, 0, 0, false, x, y, z == 1)
set_option maxHeartbeats 1000000 in
set_option maxRecDepth 100000 in
theorem trA_any (x y z : Int) (w : World) : Calls Try.prog 158 #[.agg #[.int .i64 x, .int .i64 y, .int .i64 z]] w fun e w' => e = .returned (trV (trA x y z)) ∧ Below w.heap.size w w' := by
  go_enter Try.func158, Try.ntmps158
  go_wp2
  refine bodyPost_ret (v := trV (trA x y z)) (by simp [results, Try.results158, go_sem, trV, trC, trA, Tr.vow, Tr.hgt, Tr.bck, Tr.rnd, Tr.plc, Tr.mnr, Tr.vcd]) rfl ?_
  exact ⟨rfl, ((Below.refl _ _).alloc (Nat.le_refl _) _).alloc (by simp) _⟩
set_option maxHeartbeats 1000000 in
set_option maxRecDepth 100000 in
theorem trB_any (x y z : Int) (w : World) : Calls Try.prog 159 #[.agg #[.int .i64 x, .int .i64 y, .int .i64 z]] w fun e w' => e = .returned (trV (trB x y z)) ∧ Below w.heap.size w w' := by
  go_enter Try.func159, Try.ntmps159
  go_wp2
  refine bodyPost_ret (v := trV (trB x y z)) (by simp [results, Try.results159, go_sem, trV, trC, trB, Tr.vow, Tr.hgt, Tr.bck, Tr.rnd, Tr.plc, Tr.mnr, Tr.vcd]) rfl ?_
  exact ⟨rfl, ((Below.refl _ _).alloc (Nat.le_refl _) _).alloc (by simp) _⟩

/-- the runes of a text from a place on -/
def runesF (s : ByteArray) : Nat → Nat → List Int
  | 0, _ => []
  | f + 1, pos => if pos < s.size then ((Utf8.decode s pos).1 : Int) :: runesF s f (pos + (Utf8.decode s pos).2) else []
theorem runesF_end (s : ByteArray) (f pos : Nat) (h : ¬ pos < s.size) : runesF s f pos = [] := by
  cases f with
  | zero => rfl
  | succ f => unfold runesF; rw [if_neg h]
theorem runesF_more (s : ByteArray) (f pos : Nat) (h : pos < s.size) (hf : s.size - pos ≤ f) : ∃ f', s.size - (pos + (Utf8.decode s pos).2) ≤ f' ∧ runesF s f pos = ((Utf8.decode s pos).1 : Int) :: runesF s f' (pos + (Utf8.decode s pos).2) := by
  cases f with
  | zero => omega
  | succ f =>
    have := width_pos s pos h
    exact ⟨f, by omega, by conv => lhs; unfold runesF; rw [if_pos h]⟩
/-- one rune more -/
def rdStep (T : Int → Int → Int → Tr) (st : List (Int × Tr) × (Int × Int × Int) × Nat) (r : Int) : List (Int × Tr) × (Int × Int × Int) × Nat :=
  if st.2.2 % 4 = 0 then (st.1 ++ [(r, tr0)], st.2.1, st.2.2 + 1)
  else
    let d := if st.2.2 % 4 = 1 then (r - 48, st.2.1.2.1, st.2.1.2.2) else if st.2.2 % 4 = 2 then (st.2.1.1, r - 48, st.2.1.2.2) else (st.2.1.1, st.2.1.2.1, r - 48)
    (st.1.set (st.1.length - 1) ((st.1.getD (st.1.length - 1) (0, tr0)).1, T d.1 d.2.1 d.2.2), d, st.2.2 + 1)
def readRows (T : Int → Int → Int → Tr) (s : ByteArray) : List (Int × Tr) := ((runesF s s.size 0).foldl (rdStep T) ([], (0, 0, 0), 0)).1

theorem rws_get (l : List (Int × Tr)) {k : Nat} (h : k < l.length) (j : Nat) (hj : j < 8) : (rws l)[k * 8 + j]? = (rowC l[k])[j]? := flat_at rowC 8 rowC_len l k h j hj
theorem rws_set (l : List (Int × Tr)) (k : Nat) (h : k < l.length) (t : Tr) : (((((((rws l).set (k * 8 + 1) (.bool t.vow)).set (k * 8 + 2) (.int .i64 t.hgt)).set (k * 8 + 3) (.int .i64 t.bck)).set (k * 8 + 4) (.bool t.rnd)).set (k * 8 + 5) (.int .i64 t.plc)).set (k * 8 + 6) (.int .i64 t.mnr)).set (k * 8 + 7) (.bool t.vcd) = rws (l.set k ((l.getD k (0, tr0)).1, t)) := by
  induction l generalizing k with
  | nil => simp at h
  | cons a l ih =>
    rcases k with _ | k
    · simp [rws, rowC, trC]
    · have := ih k (by simpa using h)
      simp only [rws, List.flatMap_cons] at this ⊢
      simp only [show ∀ i, (k + 1) * 8 + i = (k * 8 + i) + 8 by intro i; omega]
      simp only [rowC, trC, List.cons_append, List.nil_append, List.set_cons_succ, List.getD_cons_succ]
      rw [this]
      rfl

/-- memory while read runs -/
structure RwSt (w0 : World) (ib : Nat) (v : Value) (out : List (Int × Tr)) (d : Int × Int × Int) (s : ByteArray) (pos : Nat) (W : World) : Prop where
  bd : Blk W w0.heap.size 121 #[.int .i64 d.1, .int .i64 d.2.1, .int .i64 d.2.2]
  it : W.heap[ib]? = some (.stringIter s pos)
  own : W.ownsRow (w0.heap.size + 2) 185 8 v out.length (rws out)
  below : Below w0.heap.size w0 W
  ilo : w0.heap.size < ib
theorem iter_blk {W : World} {g ib : Nat} {t : TypeId} {cs : Array Value} {s : ByteArray} {pos : Nat} (h : Blk W g t cs) (hi : W.heap[ib]? = some (.stringIter s pos)) : g ≠ ib := by
  rintro rfl
  unfold Blk at h
  rw [h] at hi
  cases hi
theorem iter_own {W : World} {base ib n sz : Nat} {e : TypeId} {v : Value} {xs : List Value} {s : ByteArray} {pos : Nat} (h : W.ownsRow base e sz v n xs) (hi : W.heap[ib]? = some (.stringIter s pos)) : v.ownBlock ≠ some ib := by
  intro hv
  rcases h.2 with ⟨rfl, _⟩ | ⟨g', cap, cur, rfl, _, hg, _⟩
  · simp [Value.ownBlock] at hv
  · have : g' = ib := by simpa [Value.ownBlock] using hv
    subst this
    rw [hg] at hi
    cases hi
theorem own_iterAt {W : World} {base ib n sz : Nat} {e : TypeId} {v : Value} {xs : List Value} {s : ByteArray} {pos : Nat} (h : W.ownsRow base e sz v n xs) (hi : W.heap[ib]? = some (.stringIter s pos)) (pos' : Nat) : (W.iterAt ib s pos').ownsRow base e sz v n xs :=
  own_only (S := fun k => k = ib) h (Only.iterAt (S := fun k => k = ib) (Only.refl _ W) (.inl rfl) s pos') (fun k _ _ hk e => iter_own h hi (by rw [hk, e]))
theorem RwSt.next {w0 : World} {ib : Nat} {v : Value} {out : List (Int × Tr)} {d : Int × Int × Int} {s : ByteArray} {pos : Nat} {W : World} (h : RwSt w0 ib v out d s pos W) (pos' : Nat) : RwSt w0 ib v out d s pos' (W.iterAt ib s pos') :=
  ⟨h.bd.iterAt (iter_blk h.bd h.it) _ _, Lib.iterAt_heap _ _ _ _ _ h.it, own_iterAt h.own h.it _, h.below.trans ((Only.iterAt (S := fun k => k = ib) (Only.refl _ W) (.inl rfl) s pos').below h.below.size (fun k hk e => by have := h.ilo; omega)), h.ilo⟩
theorem RwSt.app {w0 : World} {ib : Nat} {v v' : Value} {out : List (Int × Tr)} {d : Int × Int × Int} {s : ByteArray} {pos : Nat} {W W' : World} (h : RwSt w0 ib v out d s pos W) (x : Int × Tr) (ho : W'.ownsRow (w0.heap.size + 2) 185 8 v' (out.length + 1) (rws out ++ rowC x)) (hg : W.grownBy W' v.ownBlock) : RwSt w0 ib v' (out ++ [x]) d s pos W' := by
  have hO : Only (fun k => v.ownBlock = some k) W W' := (Only.refl _ _).grown hg (fun _ hg => .inl hg)
  have hl := (Array.getElem?_eq_some_iff.1 h.it).1
  refine ⟨h.bd.only hO (fun hk => by have := (h.own.lt _ hk).1; omega), (hO.block ib hl (iter_own h.own h.it)).trans h.it, ?_, h.below.trans (hO.below h.below.size (fun k hk hh => by have := (h.own.lt _ hh).1; omega)), h.ilo⟩
  rw [rws_append, List.length_append]
  simpa [rws] using ho

theorem own_some {w : World} {base : Nat} {e : TypeId} {size n : Nat} {v : Value} {xs : List Value} (h : w.ownsRow base e size v n xs) (hn : 0 < n) : ∃ g cap, v = .slice (some ⟨g, 0, none⟩) n cap ∧ n ≤ cap := by
  rcases h.2 with ⟨_, h0⟩ | ⟨g, cap, cur, hv, _, _, hn, _⟩
  · omega
  · exact ⟨g, cap, hv, hn⟩
theorem RwSt.setd {w0 : World} {ib : Nat} {v : Value} {out : List (Int × Tr)} {d : Int × Int × Int} {s : ByteArray} {pos : Nat} {W : World} (h : RwSt w0 ib v out d s pos W) (j : Nat) (x : Int) {d' : Int × Int × Int} (hd : (#[.int .i64 d.1, .int .i64 d.2.1, .int .i64 d.2.2] : Array Value).setIfInBounds j (.int .i64 x) = #[.int .i64 d'.1, .int .i64 d'.2.1, .int .i64 d'.2.2]) :
    RwSt w0 ib v out d' s pos (W.setCell ⟨w0.heap.size, j, none⟩ (.int .i64 x)) :=
  ⟨by rw [← hd]; exact h.bd.set_ j _, (Below.heap_setCell _ _ _ _ (by have := h.ilo; simp; omega)).trans h.it, own_setCell h.own (by simp) _, h.below.setCell (by simp) _, h.ilo⟩
theorem RwSt.on {w0 : World} {ib : Nat} {v : Value} {out : List (Int × Tr)} {d : Int × Int × Int} {s : ByteArray} {pos : Nat} {W W' : World} (h : RwSt w0 ib v out d s pos W) (hb : Below W.heap.size W W') : RwSt w0 ib v out d s pos W' :=
  ⟨h.bd.below hb h.bd.lt, (hb.block _ (Array.getElem?_eq_some_iff.1 h.it).1).trans h.it, own_stay h.own (Only.of_below hb _), h.below.trans (hb.mono h.below.size), h.ilo⟩
theorem RwSt.put {w0 : World} {ib g m n c : Nat} {out : List (Int × Tr)} {d : Int × Int × Int} {s : ByteArray} {pos : Nat} {W : World} (h : RwSt w0 ib (.slice (some ⟨g, 0, none⟩) n c) out d s pos W) (hn : out.length = n) (hm : m < out.length) (t : Tr) :
    RwSt w0 ib (.slice (some ⟨g, 0, none⟩) n c) (out.set m ((out.getD m (0, tr0)).1, t)) d s pos (((((((W.setCell ⟨g, m * 8 + 1, none⟩ (.bool t.vow)).setCell ⟨g, m * 8 + 1 + 1, none⟩ (.int .i64 t.hgt)).setCell ⟨g, m * 8 + 1 + 2, none⟩ (.int .i64 t.bck)).setCell ⟨g, m * 8 + 1 + 3, none⟩ (.bool t.rnd)).setCell ⟨g, m * 8 + 1 + 4, none⟩ (.int .i64 t.plc)).setCell ⟨g, m * 8 + 1 + 5, none⟩ (.int .i64 t.mnr)).setCell ⟨g, m * 8 + 1 + 6, none⟩ (.bool t.vcd)) := by
  subst hn
  have hg := (h.own.lt g rfl).1
  have hi := iter_own h.own h.it
  have hib : ib ≠ g := fun e => hi (by rw [e]; rfl)
  have far : ∀ {W1 : World}, W1.heap[ib]? = some (.stringIter s pos) → ∀ i v, (W1.setCell ⟨g, i, none⟩ v).heap[ib]? = some (.stringIter s pos) := fun h1 i v => (Below.heap_setCell _ _ _ _ (by simpa using hib)).trans h1
  refine ⟨((((((h.bd.far (by simp; omega) _).far (by simp; omega) _).far (by simp; omega) _).far (by simp; omega) _).far (by simp; omega) _).far (by simp; omega) _).far (by simp; omega) _, far (far (far (far (far (far (far h.it _ _) _ _) _ _) _ _) _ _) _ _) _ _, ?_,
    ((((((h.below.setCell (by simp; omega) _).setCell (by simp; omega) _).setCell (by simp; omega) _).setCell (by simp; omega) _).setCell (by simp; omega) _).setCell (by simp; omega) _).setCell (by simp; omega) _, h.ilo⟩
  rw [List.length_set, ← rws_set out m hm t]
  exact own_set (own_set (own_set (own_set (own_set (own_set (own_set h.own _ _) _ _) _ _) _ _) _ _) _ _) _ _
theorem trA_eq (x y z : Int) : trV (trA x y z) = .agg #[.bool true, .int .i64 x, .int .i64 y, .bool (z == 1), .int .i64 0, .int .i64 0, .bool false] := rfl
theorem trB_eq (x y z : Int) : trV (trB x y z) = .agg #[.bool false, .int .i64 0, .int .i64 0, .bool false, .int .i64 x, .int .i64 y, .bool (z == 1)] := rfl
theorem rd_new (w : World) (t : TypeId) (cs : Array Value) (sz : Nat) (h : cs.size = sz) : Rd (w.alloc (.cells cs t)) w.heap.size (w.heap.size + 1) sz (some ⟨w.heap.size, 0, none⟩) 1 cs.toList := by
  refine ⟨by simp [h], fun _ => ⟨w.heap.size, 0, rfl, Nat.le_refl _, Nat.lt_succ_self _, fun j x hu => ?_⟩⟩
  rw [Nat.zero_add, (Blk.new w t cs).cell]
  simpa using hu
theorem info185 : (Try.prog.info? 185).map (fun i => (i.zero, i.size, i.bytes)) = some (some (.agg #[.int .i32 0, .bool false, .int .i64 0, .int .i64 0, .bool false, .int .i64 0, .int .i64 0, .bool false]), 8, 64) := by kernel_rfl

set_option maxHeartbeats 4000000 in
set_option maxRecDepth 100000 in
theorem readA_any (s : ByteArray) (w : World) (hs : s.size ≤ 1000) : Calls Try.prog 157 #[.string s, .func (.func 158) #[] #[]] w fun e w' => ∃ v, e = .returned v ∧ w'.ownsRow w.heap.size 185 8 v (readRows trA s).length (rws (readRows trA s)) ∧ Below w.heap.size w w' := by
  obtain ⟨i0, hi, hz0, hz1, hz2⟩ := info_parts info185
  have HI := Lib.hid (And.intro hi (And.intro hz0 (And.intro hz1 hz2)))
  clear hi hz0 hz1 hz2
  go_enter Try.func157, Try.ntmps157
  go_upto_region 4 with (fail)
  refine wp_abs (fun wx => Blk wx w.heap.size 121 #[.int .i64 0, .int .i64 0, .int .i64 0] ∧ Below w.heap.size w wx) ⟨Blk.new _ _ _, (Below.refl _ _).alloc (Nat.le_refl _) _⟩ ?_
  rintro w1 ⟨b0, hb⟩
  have HB := Lib.hid (And.intro b0 hb)
  have lz := b0.lt
  clear b0 hb
  go_wp2
  go_loopw [5, 7] (fun v5 v7 wr => ∃ (out : List (Int × Tr)) (d : Int × Int × Int) (k pos f : Nat), v7 = .int .i64 k ∧ Hid (RwSt w w1.heap.size v5 out d s pos wr ∧ (runesF s s.size 0).foldl (rdStep trA) ([], (0, 0, 0), 0) = (runesF s f pos).foldl (rdStep trA) (out, d, k) ∧ s.size - pos ≤ f ∧ k ≤ pos ∧ out.length ≤ k ∧ (0 < k → 0 < out.length))) (fun _ _ w' => s.size - w'.iterPos w1.heap.size)
  case atStart => exact ⟨[], (0, 0, 0), 0, 0, s.size, rfl, Lib.hid ⟨⟨HB.out.1.iter _ _, World.iter_heap _ _ _, World.ownsRow_nil _ _ _ _, HB.out.2.trans ((iter_below _ _ _).mono (by omega)), lz⟩, rfl, by omega, by omega, by simp, by omega⟩⟩
  case round =>
    obtain ⟨out, d, k, pos, f, rfl, H⟩ := hrel
    clear HB
    by_cases hp : pos < s.size
    · have hnx : ∀ ty, (Instr.next (.pointer (some ⟨w1.heap.size, 0, none⟩)) true ty).run Try.prog wr = _ := fun ty => Lib.run_next_any_at wr w1.heap.size s pos ty H.out.1.it hp
      have hd := decode_le s pos
      have hst := (H.out.1.next (pos + (Utf8.decode s pos).2))
      have hru := runesF_more s f pos hp H.out.2.2.1
      have hw1 := width_pos s pos hp
      generalize hdr : (Utf8.decode s pos).1 = r at *
      generalize hdw : (Utf8.decode s pos).2 = dw at *
      obtain ⟨f', hf', hru⟩ := hru
      have HF := Lib.hid (And.intro hf' hru)
      have HST := Lib.hid hst
      clear hru hf' hst hdr hdw
      have hkb : k ≤ 1000 := by have := H.out.2.2.2.1; omega
      have hol : out.length ≤ 1000 := by have := H.out.2.2.2.2.1; omega
      by_cases hk : k % 4 = 0
      · have hkm : (k : Int) % 4 = 0 := by omega
        have hs1 : (rdStep trA (out, d, k) r) = (out ++ [((r : Int), tr0)], d, k + 1) := by unfold rdStep; simp only; rw [if_pos hk]
        have HS1 := Lib.hid hs1
        clear hs1 hk
        go_upto_region 8 with (fail)
        refine wp_abs (RwSt w w1.heap.size u5 out d s (pos + dw)) HST.out ?_
        clear hnx HST
        intro w2 h2
        have H2 := Lib.hid h2
        clear h2
        go_wp2_with (at_builtin; go_must (refine wpList_append_rd _ rfl _ _ 182 rfl (w.heap.size + 2) 185 i0 (.agg #[.int .i32 0, .bool false, .int .i64 0, .int .i64 0, .bool false, .int .i64 0, .int .i64 0, .bool false]) 8 64 Try.underlying182 HI.out.1 HI.out.2.1 HI.out.2.2.1 HI.out.2.2.2 rfl (by decide) _ _ _ rfl (H2.out.own.alloc _) _ _ _ 1 1 _ rfl (rd_new _ _ _ _ rfl) (by simp [Value.oneCell']) (by unfold maxLen; omega) (by omega) (by have := H2.out.bd.lt; have := (Array.getElem?_eq_some_iff.1 H2.out.it).1; simp; omega) ?_; intro v4 w4 _ hown hgrow _; have HN := Lib.hid (And.intro hown hgrow); clear hown hgrow))
        have HE := Lib.hid ((H2.out.on ((Below.refl _ _).alloc (Nat.le_refl _) _)).app ((r : Int), tr0) HN.out.1 HN.out.2)
        go_roundw
        case rel => exact ⟨_, _, k + 1, pos + dw, f', by go_num, Lib.hid ⟨HE.out, by rw [H.out.2.1, HF.out.2, List.foldl_cons, HS1.out], HF.out.1, by have := H.out.2.2.2.1; omega, by have := H.out.2.2.2.2.1; simp; omega, fun _ => by simp; try omega⟩⟩
        case measure => exact Nat.lt_of_le_of_lt (Nat.le_of_eq (congrArg (s.size - ·) (iterPos_of HE.out.it))) (by rw [iterPos_of H.out.1.it]; omega)
      have hk3 : k % 4 = 1 ∨ k % 4 = 2 ∨ k % 4 = 3 := by omega
      rcases hk3 with hk | hk | hk
      · have hkm : (k : Int) % 4 = 1 := by omega
        have hs1 : (rdStep trA (out, d, k) r) = (out.set (out.length - 1) ((out.getD (out.length - 1) (0, tr0)).1, trA ((r : Int) - 48) d.2.1 d.2.2), ((r : Int) - 48, d.2.1, d.2.2), k + 1) := by unfold rdStep; simp only; rw [if_neg (by omega), if_pos (by omega)]
        have HS1 := Lib.hid hs1
        have hol0 : 0 < out.length := H.out.2.2.2.2.2 (by omega)
        clear hs1 hk
        go_upto_region 9 with (fail)
        refine wp_abs (RwSt w w1.heap.size u5 out d s (pos + dw)) HST.out ?_
        clear hnx HST
        intro w2 h2
        have c0 : w2.cell? ⟨w.heap.size, 0, none⟩ = some (.int .i64 d.1) := h2.bd.cell 0
        have f0 : w2.frozen? ⟨w.heap.size, 0, none⟩ = false := h2.bd.frozen 0
        have H2 := Lib.hid h2
        clear h2
        go_upto_region 10 with (fail)
        refine wp_abs (RwSt w w1.heap.size u5 out ((r : Int) - 48, d.2.1, d.2.2) s (pos + dw)) (H2.out.setd 0 _ rfl) ?_
        clear c0 f0 H2
        intro w3 h3
        obtain ⟨g, cap, rfl, hcap⟩ := own_some h3.own hol0
        have c0 : w3.cell? ⟨w.heap.size, 0, none⟩ = some (.int .i64 ((r : Int) - 48)) := h3.bd.cell 0
        have c1 : w3.cell? ⟨w.heap.size, 1, none⟩ = some (.int .i64 d.2.1) := h3.bd.cell 1
        have c2 : w3.cell? ⟨w.heap.size, 2, none⟩ = some (.int .i64 d.2.2) := h3.bd.cell 2
        have H3 := Lib.hid h3
        clear h3
        obtain ⟨m, hm⟩ : ∃ m, out.length = m + 1 := ⟨out.length - 1, by omega⟩
        go_wp2_with fail
        refine (trA_any ((r : Int) - 48) d.2.1 d.2.2 _).mono ?_
        rintro e w4 ⟨rfl, hb⟩
        rw [trA_eq]
        have H4 := Lib.hid (show RwSt w w1.heap.size (.slice (some ⟨g, 0, none⟩) (m + 1) cap) out _ s (pos + dw) w4 from hm ▸ H3.out.on hb)
        clear hb H3 c0 c1 c2
        have ho4 : w4.ownsRow (w.heap.size + 2) 185 8 (.slice (some ⟨g, 0, none⟩) (m + 1) cap) (m + 1) (rws out) := by have := H4.out.own; rwa [hm] at this
        have x1 := own_at ho4 (i := m * 8 + 1) (by omega)
        have x2 := own_at ho4 (i := m * 8 + 2) (by omega)
        have x3 := own_at ho4 (i := m * 8 + 3) (by omega)
        have x4 := own_at ho4 (i := m * 8 + 4) (by omega)
        have x5 := own_at ho4 (i := m * 8 + 5) (by omega)
        have x6 := own_at ho4 (i := m * 8 + 6) (by omega)
        have x7 := own_at ho4 (i := m * 8 + 7) (by omega)
        clear ho4
        obtain ⟨⟨_, x1⟩, y1⟩ := x1
        obtain ⟨⟨_, x2⟩, y2⟩ := x2
        obtain ⟨⟨_, x3⟩, y3⟩ := x3
        obtain ⟨⟨_, x4⟩, y4⟩ := x4
        obtain ⟨⟨_, x5⟩, y5⟩ := x5
        obtain ⟨⟨_, x6⟩, y6⟩ := x6
        obtain ⟨⟨_, x7⟩, y7⟩ := x7
        go_wp2
        have HE := Lib.hid (H4.out.put (m := m) (n := m + 1) hm (by omega) (trA ((r : Int) - 48) d.2.1 d.2.2))
        clear x1 x2 x3 x4 x5 x6 x7 y1 y2 y3 y4 y5 y6 y7
        go_roundw
        case rel => exact ⟨_, _, k + 1, pos + dw, f', by go_num, Lib.hid ⟨HE.out, by rw [H.out.2.1, HF.out.2, List.foldl_cons, HS1.out, hm, Nat.add_sub_cancel], HF.out.1, by have := H.out.2.2.2.1; omega, by have := H.out.2.2.2.2.1; simp; omega, fun _ => by simp; try omega⟩⟩
        case measure => exact Nat.lt_of_le_of_lt (Nat.le_of_eq (congrArg (s.size - ·) (iterPos_of HE.out.it))) (by rw [iterPos_of H.out.1.it]; omega)
      · have hkm : (k : Int) % 4 = 2 := by omega
        have hs1 : (rdStep trA (out, d, k) r) = (out.set (out.length - 1) ((out.getD (out.length - 1) (0, tr0)).1, trA d.1 ((r : Int) - 48) d.2.2), (d.1, (r : Int) - 48, d.2.2), k + 1) := by unfold rdStep; simp only; rw [if_neg (by omega), if_neg (by omega), if_pos (by omega)]
        have HS1 := Lib.hid hs1
        have hol0 : 0 < out.length := H.out.2.2.2.2.2 (by omega)
        clear hs1 hk
        go_upto_region 9 with (fail)
        refine wp_abs (RwSt w w1.heap.size u5 out d s (pos + dw)) HST.out ?_
        clear hnx HST
        intro w2 h2
        have c0 : w2.cell? ⟨w.heap.size, 1, none⟩ = some (.int .i64 d.2.1) := h2.bd.cell 1
        have f0 : w2.frozen? ⟨w.heap.size, 1, none⟩ = false := h2.bd.frozen 1
        have H2 := Lib.hid h2
        clear h2
        go_upto_region 10 with (fail)
        refine wp_abs (RwSt w w1.heap.size u5 out (d.1, (r : Int) - 48, d.2.2) s (pos + dw)) (H2.out.setd 1 _ rfl) ?_
        clear c0 f0 H2
        intro w3 h3
        obtain ⟨g, cap, rfl, hcap⟩ := own_some h3.own hol0
        have c0 : w3.cell? ⟨w.heap.size, 0, none⟩ = some (.int .i64 d.1) := h3.bd.cell 0
        have c1 : w3.cell? ⟨w.heap.size, 1, none⟩ = some (.int .i64 ((r : Int) - 48)) := h3.bd.cell 1
        have c2 : w3.cell? ⟨w.heap.size, 2, none⟩ = some (.int .i64 d.2.2) := h3.bd.cell 2
        have H3 := Lib.hid h3
        clear h3
        obtain ⟨m, hm⟩ : ∃ m, out.length = m + 1 := ⟨out.length - 1, by omega⟩
        go_wp2_with fail
        refine (trA_any d.1 ((r : Int) - 48) d.2.2 _).mono ?_
        rintro e w4 ⟨rfl, hb⟩
        rw [trA_eq]
        have H4 := Lib.hid (show RwSt w w1.heap.size (.slice (some ⟨g, 0, none⟩) (m + 1) cap) out _ s (pos + dw) w4 from hm ▸ H3.out.on hb)
        clear hb H3 c0 c1 c2
        have ho4 : w4.ownsRow (w.heap.size + 2) 185 8 (.slice (some ⟨g, 0, none⟩) (m + 1) cap) (m + 1) (rws out) := by have := H4.out.own; rwa [hm] at this
        have x1 := own_at ho4 (i := m * 8 + 1) (by omega)
        have x2 := own_at ho4 (i := m * 8 + 2) (by omega)
        have x3 := own_at ho4 (i := m * 8 + 3) (by omega)
        have x4 := own_at ho4 (i := m * 8 + 4) (by omega)
        have x5 := own_at ho4 (i := m * 8 + 5) (by omega)
        have x6 := own_at ho4 (i := m * 8 + 6) (by omega)
        have x7 := own_at ho4 (i := m * 8 + 7) (by omega)
        clear ho4
        obtain ⟨⟨_, x1⟩, y1⟩ := x1
        obtain ⟨⟨_, x2⟩, y2⟩ := x2
        obtain ⟨⟨_, x3⟩, y3⟩ := x3
        obtain ⟨⟨_, x4⟩, y4⟩ := x4
        obtain ⟨⟨_, x5⟩, y5⟩ := x5
        obtain ⟨⟨_, x6⟩, y6⟩ := x6
        obtain ⟨⟨_, x7⟩, y7⟩ := x7
        go_wp2
        have HE := Lib.hid (H4.out.put (m := m) (n := m + 1) hm (by omega) (trA d.1 ((r : Int) - 48) d.2.2))
        clear x1 x2 x3 x4 x5 x6 x7 y1 y2 y3 y4 y5 y6 y7
        go_roundw
        case rel => exact ⟨_, _, k + 1, pos + dw, f', by go_num, Lib.hid ⟨HE.out, by rw [H.out.2.1, HF.out.2, List.foldl_cons, HS1.out, hm, Nat.add_sub_cancel], HF.out.1, by have := H.out.2.2.2.1; omega, by have := H.out.2.2.2.2.1; simp; omega, fun _ => by simp; try omega⟩⟩
        case measure => exact Nat.lt_of_le_of_lt (Nat.le_of_eq (congrArg (s.size - ·) (iterPos_of HE.out.it))) (by rw [iterPos_of H.out.1.it]; omega)
      · have hkm : (k : Int) % 4 = 3 := by omega
        have hs1 : (rdStep trA (out, d, k) r) = (out.set (out.length - 1) ((out.getD (out.length - 1) (0, tr0)).1, trA d.1 d.2.1 ((r : Int) - 48)), (d.1, d.2.1, (r : Int) - 48), k + 1) := by unfold rdStep; simp only; rw [if_neg (by omega), if_neg (by omega), if_neg (by omega)]
        have HS1 := Lib.hid hs1
        have hol0 : 0 < out.length := H.out.2.2.2.2.2 (by omega)
        clear hs1 hk
        go_upto_region 9 with (fail)
        refine wp_abs (RwSt w w1.heap.size u5 out d s (pos + dw)) HST.out ?_
        clear hnx HST
        intro w2 h2
        have c0 : w2.cell? ⟨w.heap.size, 2, none⟩ = some (.int .i64 d.2.2) := h2.bd.cell 2
        have f0 : w2.frozen? ⟨w.heap.size, 2, none⟩ = false := h2.bd.frozen 2
        have H2 := Lib.hid h2
        clear h2
        go_upto_region 10 with (fail)
        refine wp_abs (RwSt w w1.heap.size u5 out (d.1, d.2.1, (r : Int) - 48) s (pos + dw)) (H2.out.setd 2 _ rfl) ?_
        clear c0 f0 H2
        intro w3 h3
        obtain ⟨g, cap, rfl, hcap⟩ := own_some h3.own hol0
        have c0 : w3.cell? ⟨w.heap.size, 0, none⟩ = some (.int .i64 d.1) := h3.bd.cell 0
        have c1 : w3.cell? ⟨w.heap.size, 1, none⟩ = some (.int .i64 d.2.1) := h3.bd.cell 1
        have c2 : w3.cell? ⟨w.heap.size, 2, none⟩ = some (.int .i64 ((r : Int) - 48)) := h3.bd.cell 2
        have H3 := Lib.hid h3
        clear h3
        obtain ⟨m, hm⟩ : ∃ m, out.length = m + 1 := ⟨out.length - 1, by omega⟩
        go_wp2_with fail
        refine (trA_any d.1 d.2.1 ((r : Int) - 48) _).mono ?_
        rintro e w4 ⟨rfl, hb⟩
        rw [trA_eq]
        have H4 := Lib.hid (show RwSt w w1.heap.size (.slice (some ⟨g, 0, none⟩) (m + 1) cap) out _ s (pos + dw) w4 from hm ▸ H3.out.on hb)
        clear hb H3 c0 c1 c2
        have ho4 : w4.ownsRow (w.heap.size + 2) 185 8 (.slice (some ⟨g, 0, none⟩) (m + 1) cap) (m + 1) (rws out) := by have := H4.out.own; rwa [hm] at this
        have x1 := own_at ho4 (i := m * 8 + 1) (by omega)
        have x2 := own_at ho4 (i := m * 8 + 2) (by omega)
        have x3 := own_at ho4 (i := m * 8 + 3) (by omega)
        have x4 := own_at ho4 (i := m * 8 + 4) (by omega)
        have x5 := own_at ho4 (i := m * 8 + 5) (by omega)
        have x6 := own_at ho4 (i := m * 8 + 6) (by omega)
        have x7 := own_at ho4 (i := m * 8 + 7) (by omega)
        clear ho4
        obtain ⟨⟨_, x1⟩, y1⟩ := x1
        obtain ⟨⟨_, x2⟩, y2⟩ := x2
        obtain ⟨⟨_, x3⟩, y3⟩ := x3
        obtain ⟨⟨_, x4⟩, y4⟩ := x4
        obtain ⟨⟨_, x5⟩, y5⟩ := x5
        obtain ⟨⟨_, x6⟩, y6⟩ := x6
        obtain ⟨⟨_, x7⟩, y7⟩ := x7
        go_wp2
        have HE := Lib.hid (H4.out.put (m := m) (n := m + 1) hm (by omega) (trA d.1 d.2.1 ((r : Int) - 48)))
        clear x1 x2 x3 x4 x5 x6 x7 y1 y2 y3 y4 y5 y6 y7
        go_roundw
        case rel => exact ⟨_, _, k + 1, pos + dw, f', by go_num, Lib.hid ⟨HE.out, by rw [H.out.2.1, HF.out.2, List.foldl_cons, HS1.out, hm, Nat.add_sub_cancel], HF.out.1, by have := H.out.2.2.2.1; omega, by have := H.out.2.2.2.2.1; simp; omega, fun _ => by simp; try omega⟩⟩
        case measure => exact Nat.lt_of_le_of_lt (Nat.le_of_eq (congrArg (s.size - ·) (iterPos_of HE.out.it))) (by rw [iterPos_of H.out.1.it]; omega)
    · have hnx : ∀ ty, (Instr.next (.pointer (some ⟨w1.heap.size, 0, none⟩)) true ty).run Try.prog wr = _ := fun ty => Lib.run_next_end_at wr w1.heap.size s pos ty H.out.1.it hp
      go_wp2
      go_ret
      refine ⟨_, rfl, ?_, H.out.1.below⟩
      have : readRows trA s = out := by unfold readRows; rw [H.out.2.1, runesF_end s f pos hp]; rfl
      rw [this]
      exact own_more H.out.1.own (by omega)
end Go.Proofs.Ytogofchpocoebaa

namespace Go.Proofs.Ytogofchpocoebaa
open Go.RowKit

set_option maxHeartbeats 4000000 in
set_option maxRecDepth 100000 in
theorem readB_any (s : ByteArray) (w : World) (hs : s.size ≤ 1000) : Calls Try.prog 157 #[.string s, .func (.func 159) #[] #[]] w fun e w' => ∃ v, e = .returned v ∧ w'.ownsRow w.heap.size 185 8 v (readRows trB s).length (rws (readRows trB s)) ∧ Below w.heap.size w w' := by
  obtain ⟨i0, hi, hz0, hz1, hz2⟩ := info_parts info185
  have HI := Lib.hid (And.intro hi (And.intro hz0 (And.intro hz1 hz2)))
  clear hi hz0 hz1 hz2
  go_enter Try.func157, Try.ntmps157
  go_upto_region 4 with (fail)
  refine wp_abs (fun wx => Blk wx w.heap.size 121 #[.int .i64 0, .int .i64 0, .int .i64 0] ∧ Below w.heap.size w wx) ⟨Blk.new _ _ _, (Below.refl _ _).alloc (Nat.le_refl _) _⟩ ?_
  rintro w1 ⟨b0, hb⟩
  have HB := Lib.hid (And.intro b0 hb)
  have lz := b0.lt
  clear b0 hb
  go_wp2
  go_loopw [5, 7] (fun v5 v7 wr => ∃ (out : List (Int × Tr)) (d : Int × Int × Int) (k pos f : Nat), v7 = .int .i64 k ∧ Hid (RwSt w w1.heap.size v5 out d s pos wr ∧ (runesF s s.size 0).foldl (rdStep trB) ([], (0, 0, 0), 0) = (runesF s f pos).foldl (rdStep trB) (out, d, k) ∧ s.size - pos ≤ f ∧ k ≤ pos ∧ out.length ≤ k ∧ (0 < k → 0 < out.length))) (fun _ _ w' => s.size - w'.iterPos w1.heap.size)
  case atStart => exact ⟨[], (0, 0, 0), 0, 0, s.size, rfl, Lib.hid ⟨⟨HB.out.1.iter _ _, World.iter_heap _ _ _, World.ownsRow_nil _ _ _ _, HB.out.2.trans ((iter_below _ _ _).mono (by omega)), lz⟩, rfl, by omega, by omega, by simp, by omega⟩⟩
  case round =>
    obtain ⟨out, d, k, pos, f, rfl, H⟩ := hrel
    clear HB
    by_cases hp : pos < s.size
    · have hnx : ∀ ty, (Instr.next (.pointer (some ⟨w1.heap.size, 0, none⟩)) true ty).run Try.prog wr = _ := fun ty => Lib.run_next_any_at wr w1.heap.size s pos ty H.out.1.it hp
      have hd := decode_le s pos
      have hst := (H.out.1.next (pos + (Utf8.decode s pos).2))
      have hru := runesF_more s f pos hp H.out.2.2.1
      have hw1 := width_pos s pos hp
      generalize hdr : (Utf8.decode s pos).1 = r at *
      generalize hdw : (Utf8.decode s pos).2 = dw at *
      obtain ⟨f', hf', hru⟩ := hru
      have HF := Lib.hid (And.intro hf' hru)
      have HST := Lib.hid hst
      clear hru hf' hst hdr hdw
      have hkb : k ≤ 1000 := by have := H.out.2.2.2.1; omega
      have hol : out.length ≤ 1000 := by have := H.out.2.2.2.2.1; omega
      by_cases hk : k % 4 = 0
      · have hkm : (k : Int) % 4 = 0 := by omega
        have hs1 : (rdStep trB (out, d, k) r) = (out ++ [((r : Int), tr0)], d, k + 1) := by unfold rdStep; simp only; rw [if_pos hk]
        have HS1 := Lib.hid hs1
        clear hs1 hk
        go_upto_region 8 with (fail)
        refine wp_abs (RwSt w w1.heap.size u5 out d s (pos + dw)) HST.out ?_
        clear hnx HST
        intro w2 h2
        have H2 := Lib.hid h2
        clear h2
        go_wp2_with (at_builtin; go_must (refine wpList_append_rd _ rfl _ _ 182 rfl (w.heap.size + 2) 185 i0 (.agg #[.int .i32 0, .bool false, .int .i64 0, .int .i64 0, .bool false, .int .i64 0, .int .i64 0, .bool false]) 8 64 Try.underlying182 HI.out.1 HI.out.2.1 HI.out.2.2.1 HI.out.2.2.2 rfl (by decide) _ _ _ rfl (H2.out.own.alloc _) _ _ _ 1 1 _ rfl (rd_new _ _ _ _ rfl) (by simp [Value.oneCell']) (by unfold maxLen; omega) (by omega) (by have := H2.out.bd.lt; have := (Array.getElem?_eq_some_iff.1 H2.out.it).1; simp; omega) ?_; intro v4 w4 _ hown hgrow _; have HN := Lib.hid (And.intro hown hgrow); clear hown hgrow))
        have HE := Lib.hid ((H2.out.on ((Below.refl _ _).alloc (Nat.le_refl _) _)).app ((r : Int), tr0) HN.out.1 HN.out.2)
        go_roundw
        case rel => exact ⟨_, _, k + 1, pos + dw, f', by go_num, Lib.hid ⟨HE.out, by rw [H.out.2.1, HF.out.2, List.foldl_cons, HS1.out], HF.out.1, by have := H.out.2.2.2.1; omega, by have := H.out.2.2.2.2.1; simp; omega, fun _ => by simp; try omega⟩⟩
        case measure => exact Nat.lt_of_le_of_lt (Nat.le_of_eq (congrArg (s.size - ·) (iterPos_of HE.out.it))) (by rw [iterPos_of H.out.1.it]; omega)
      have hk3 : k % 4 = 1 ∨ k % 4 = 2 ∨ k % 4 = 3 := by omega
      rcases hk3 with hk | hk | hk
      · have hkm : (k : Int) % 4 = 1 := by omega
        have hs1 : (rdStep trB (out, d, k) r) = (out.set (out.length - 1) ((out.getD (out.length - 1) (0, tr0)).1, trB ((r : Int) - 48) d.2.1 d.2.2), ((r : Int) - 48, d.2.1, d.2.2), k + 1) := by unfold rdStep; simp only; rw [if_neg (by omega), if_pos (by omega)]
        have HS1 := Lib.hid hs1
        have hol0 : 0 < out.length := H.out.2.2.2.2.2 (by omega)
        clear hs1 hk
        go_upto_region 9 with (fail)
        refine wp_abs (RwSt w w1.heap.size u5 out d s (pos + dw)) HST.out ?_
        clear hnx HST
        intro w2 h2
        have c0 : w2.cell? ⟨w.heap.size, 0, none⟩ = some (.int .i64 d.1) := h2.bd.cell 0
        have f0 : w2.frozen? ⟨w.heap.size, 0, none⟩ = false := h2.bd.frozen 0
        have H2 := Lib.hid h2
        clear h2
        go_upto_region 10 with (fail)
        refine wp_abs (RwSt w w1.heap.size u5 out ((r : Int) - 48, d.2.1, d.2.2) s (pos + dw)) (H2.out.setd 0 _ rfl) ?_
        clear c0 f0 H2
        intro w3 h3
        obtain ⟨g, cap, rfl, hcap⟩ := own_some h3.own hol0
        have c0 : w3.cell? ⟨w.heap.size, 0, none⟩ = some (.int .i64 ((r : Int) - 48)) := h3.bd.cell 0
        have c1 : w3.cell? ⟨w.heap.size, 1, none⟩ = some (.int .i64 d.2.1) := h3.bd.cell 1
        have c2 : w3.cell? ⟨w.heap.size, 2, none⟩ = some (.int .i64 d.2.2) := h3.bd.cell 2
        have H3 := Lib.hid h3
        clear h3
        obtain ⟨m, hm⟩ : ∃ m, out.length = m + 1 := ⟨out.length - 1, by omega⟩
        go_wp2_with fail
        refine (trB_any ((r : Int) - 48) d.2.1 d.2.2 _).mono ?_
        rintro e w4 ⟨rfl, hb⟩
        rw [trB_eq]
        have H4 := Lib.hid (show RwSt w w1.heap.size (.slice (some ⟨g, 0, none⟩) (m + 1) cap) out _ s (pos + dw) w4 from hm ▸ H3.out.on hb)
        clear hb H3 c0 c1 c2
        have ho4 : w4.ownsRow (w.heap.size + 2) 185 8 (.slice (some ⟨g, 0, none⟩) (m + 1) cap) (m + 1) (rws out) := by have := H4.out.own; rwa [hm] at this
        have x1 := own_at ho4 (i := m * 8 + 1) (by omega)
        have x2 := own_at ho4 (i := m * 8 + 2) (by omega)
        have x3 := own_at ho4 (i := m * 8 + 3) (by omega)
        have x4 := own_at ho4 (i := m * 8 + 4) (by omega)
        have x5 := own_at ho4 (i := m * 8 + 5) (by omega)
        have x6 := own_at ho4 (i := m * 8 + 6) (by omega)
        have x7 := own_at ho4 (i := m * 8 + 7) (by omega)
        clear ho4
        obtain ⟨⟨_, x1⟩, y1⟩ := x1
        obtain ⟨⟨_, x2⟩, y2⟩ := x2
        obtain ⟨⟨_, x3⟩, y3⟩ := x3
        obtain ⟨⟨_, x4⟩, y4⟩ := x4
        obtain ⟨⟨_, x5⟩, y5⟩ := x5
        obtain ⟨⟨_, x6⟩, y6⟩ := x6
        obtain ⟨⟨_, x7⟩, y7⟩ := x7
        go_wp2
        have HE := Lib.hid (H4.out.put (m := m) (n := m + 1) hm (by omega) (trB ((r : Int) - 48) d.2.1 d.2.2))
        clear x1 x2 x3 x4 x5 x6 x7 y1 y2 y3 y4 y5 y6 y7
        go_roundw
        case rel => exact ⟨_, _, k + 1, pos + dw, f', by go_num, Lib.hid ⟨HE.out, by rw [H.out.2.1, HF.out.2, List.foldl_cons, HS1.out, hm, Nat.add_sub_cancel], HF.out.1, by have := H.out.2.2.2.1; omega, by have := H.out.2.2.2.2.1; simp; omega, fun _ => by simp; try omega⟩⟩
        case measure => exact Nat.lt_of_le_of_lt (Nat.le_of_eq (congrArg (s.size - ·) (iterPos_of HE.out.it))) (by rw [iterPos_of H.out.1.it]; omega)
      · have hkm : (k : Int) % 4 = 2 := by omega
        have hs1 : (rdStep trB (out, d, k) r) = (out.set (out.length - 1) ((out.getD (out.length - 1) (0, tr0)).1, trB d.1 ((r : Int) - 48) d.2.2), (d.1, (r : Int) - 48, d.2.2), k + 1) := by unfold rdStep; simp only; rw [if_neg (by omega), if_neg (by omega), if_pos (by omega)]
        have HS1 := Lib.hid hs1
        have hol0 : 0 < out.length := H.out.2.2.2.2.2 (by omega)
        clear hs1 hk
        go_upto_region 9 with (fail)
        refine wp_abs (RwSt w w1.heap.size u5 out d s (pos + dw)) HST.out ?_
        clear hnx HST
        intro w2 h2
        have c0 : w2.cell? ⟨w.heap.size, 1, none⟩ = some (.int .i64 d.2.1) := h2.bd.cell 1
        have f0 : w2.frozen? ⟨w.heap.size, 1, none⟩ = false := h2.bd.frozen 1
        have H2 := Lib.hid h2
        clear h2
        go_upto_region 10 with (fail)
        refine wp_abs (RwSt w w1.heap.size u5 out (d.1, (r : Int) - 48, d.2.2) s (pos + dw)) (H2.out.setd 1 _ rfl) ?_
        clear c0 f0 H2
        intro w3 h3
        obtain ⟨g, cap, rfl, hcap⟩ := own_some h3.own hol0
        have c0 : w3.cell? ⟨w.heap.size, 0, none⟩ = some (.int .i64 d.1) := h3.bd.cell 0
        have c1 : w3.cell? ⟨w.heap.size, 1, none⟩ = some (.int .i64 ((r : Int) - 48)) := h3.bd.cell 1
        have c2 : w3.cell? ⟨w.heap.size, 2, none⟩ = some (.int .i64 d.2.2) := h3.bd.cell 2
        have H3 := Lib.hid h3
        clear h3
        obtain ⟨m, hm⟩ : ∃ m, out.length = m + 1 := ⟨out.length - 1, by omega⟩
        go_wp2_with fail
        refine (trB_any d.1 ((r : Int) - 48) d.2.2 _).mono ?_
        rintro e w4 ⟨rfl, hb⟩
        rw [trB_eq]
        have H4 := Lib.hid (show RwSt w w1.heap.size (.slice (some ⟨g, 0, none⟩) (m + 1) cap) out _ s (pos + dw) w4 from hm ▸ H3.out.on hb)
        clear hb H3 c0 c1 c2
        have ho4 : w4.ownsRow (w.heap.size + 2) 185 8 (.slice (some ⟨g, 0, none⟩) (m + 1) cap) (m + 1) (rws out) := by have := H4.out.own; rwa [hm] at this
        have x1 := own_at ho4 (i := m * 8 + 1) (by omega)
        have x2 := own_at ho4 (i := m * 8 + 2) (by omega)
        have x3 := own_at ho4 (i := m * 8 + 3) (by omega)
        have x4 := own_at ho4 (i := m * 8 + 4) (by omega)
        have x5 := own_at ho4 (i := m * 8 + 5) (by omega)
        have x6 := own_at ho4 (i := m * 8 + 6) (by omega)
        have x7 := own_at ho4 (i := m * 8 + 7) (by omega)
        clear ho4
        obtain ⟨⟨_, x1⟩, y1⟩ := x1
        obtain ⟨⟨_, x2⟩, y2⟩ := x2
        obtain ⟨⟨_, x3⟩, y3⟩ := x3
        obtain ⟨⟨_, x4⟩, y4⟩ := x4
        obtain ⟨⟨_, x5⟩, y5⟩ := x5
        obtain ⟨⟨_, x6⟩, y6⟩ := x6
        obtain ⟨⟨_, x7⟩, y7⟩ := x7
        go_wp2
        have HE := Lib.hid (H4.out.put (m := m) (n := m + 1) hm (by omega) (trB d.1 ((r : Int) - 48) d.2.2))
        clear x1 x2 x3 x4 x5 x6 x7 y1 y2 y3 y4 y5 y6 y7
        go_roundw
        case rel => exact ⟨_, _, k + 1, pos + dw, f', by go_num, Lib.hid ⟨HE.out, by rw [H.out.2.1, HF.out.2, List.foldl_cons, HS1.out, hm, Nat.add_sub_cancel], HF.out.1, by have := H.out.2.2.2.1; omega, by have := H.out.2.2.2.2.1; simp; omega, fun _ => by simp; try omega⟩⟩
        case measure => exact Nat.lt_of_le_of_lt (Nat.le_of_eq (congrArg (s.size - ·) (iterPos_of HE.out.it))) (by rw [iterPos_of H.out.1.it]; omega)
      · have hkm : (k : Int) % 4 = 3 := by omega
        have hs1 : (rdStep trB (out, d, k) r) = (out.set (out.length - 1) ((out.getD (out.length - 1) (0, tr0)).1, trB d.1 d.2.1 ((r : Int) - 48)), (d.1, d.2.1, (r : Int) - 48), k + 1) := by unfold rdStep; simp only; rw [if_neg (by omega), if_neg (by omega), if_neg (by omega)]
        have HS1 := Lib.hid hs1
        have hol0 : 0 < out.length := H.out.2.2.2.2.2 (by omega)
        clear hs1 hk
        go_upto_region 9 with (fail)
        refine wp_abs (RwSt w w1.heap.size u5 out d s (pos + dw)) HST.out ?_
        clear hnx HST
        intro w2 h2
        have c0 : w2.cell? ⟨w.heap.size, 2, none⟩ = some (.int .i64 d.2.2) := h2.bd.cell 2
        have f0 : w2.frozen? ⟨w.heap.size, 2, none⟩ = false := h2.bd.frozen 2
        have H2 := Lib.hid h2
        clear h2
        go_upto_region 10 with (fail)
        refine wp_abs (RwSt w w1.heap.size u5 out (d.1, d.2.1, (r : Int) - 48) s (pos + dw)) (H2.out.setd 2 _ rfl) ?_
        clear c0 f0 H2
        intro w3 h3
        obtain ⟨g, cap, rfl, hcap⟩ := own_some h3.own hol0
        have c0 : w3.cell? ⟨w.heap.size, 0, none⟩ = some (.int .i64 d.1) := h3.bd.cell 0
        have c1 : w3.cell? ⟨w.heap.size, 1, none⟩ = some (.int .i64 d.2.1) := h3.bd.cell 1
        have c2 : w3.cell? ⟨w.heap.size, 2, none⟩ = some (.int .i64 ((r : Int) - 48)) := h3.bd.cell 2
        have H3 := Lib.hid h3
        clear h3
        obtain ⟨m, hm⟩ : ∃ m, out.length = m + 1 := ⟨out.length - 1, by omega⟩
        go_wp2_with fail
        refine (trB_any d.1 d.2.1 ((r : Int) - 48) _).mono ?_
        rintro e w4 ⟨rfl, hb⟩
        rw [trB_eq]
        have H4 := Lib.hid (show RwSt w w1.heap.size (.slice (some ⟨g, 0, none⟩) (m + 1) cap) out _ s (pos + dw) w4 from hm ▸ H3.out.on hb)
        clear hb H3 c0 c1 c2
        have ho4 : w4.ownsRow (w.heap.size + 2) 185 8 (.slice (some ⟨g, 0, none⟩) (m + 1) cap) (m + 1) (rws out) := by have := H4.out.own; rwa [hm] at this
        have x1 := own_at ho4 (i := m * 8 + 1) (by omega)
        have x2 := own_at ho4 (i := m * 8 + 2) (by omega)
        have x3 := own_at ho4 (i := m * 8 + 3) (by omega)
        have x4 := own_at ho4 (i := m * 8 + 4) (by omega)
        have x5 := own_at ho4 (i := m * 8 + 5) (by omega)
        have x6 := own_at ho4 (i := m * 8 + 6) (by omega)
        have x7 := own_at ho4 (i := m * 8 + 7) (by omega)
        clear ho4
        obtain ⟨⟨_, x1⟩, y1⟩ := x1
        obtain ⟨⟨_, x2⟩, y2⟩ := x2
        obtain ⟨⟨_, x3⟩, y3⟩ := x3
        obtain ⟨⟨_, x4⟩, y4⟩ := x4
        obtain ⟨⟨_, x5⟩, y5⟩ := x5
        obtain ⟨⟨_, x6⟩, y6⟩ := x6
        obtain ⟨⟨_, x7⟩, y7⟩ := x7
        go_wp2
        have HE := Lib.hid (H4.out.put (m := m) (n := m + 1) hm (by omega) (trB d.1 d.2.1 ((r : Int) - 48)))
        clear x1 x2 x3 x4 x5 x6 x7 y1 y2 y3 y4 y5 y6 y7
        go_roundw
        case rel => exact ⟨_, _, k + 1, pos + dw, f', by go_num, Lib.hid ⟨HE.out, by rw [H.out.2.1, HF.out.2, List.foldl_cons, HS1.out, hm, Nat.add_sub_cancel], HF.out.1, by have := H.out.2.2.2.1; omega, by have := H.out.2.2.2.2.1; simp; omega, fun _ => by simp; try omega⟩⟩
        case measure => exact Nat.lt_of_le_of_lt (Nat.le_of_eq (congrArg (s.size - ·) (iterPos_of HE.out.it))) (by rw [iterPos_of H.out.1.it]; omega)
    · have hnx : ∀ ty, (Instr.next (.pointer (some ⟨w1.heap.size, 0, none⟩)) true ty).run Try.prog wr = _ := fun ty => Lib.run_next_end_at wr w1.heap.size s pos ty H.out.1.it hp
      go_wp2
      go_ret
      refine ⟨_, rfl, ?_, H.out.1.below⟩
      have : readRows trB s = out := by unfold readRows; rw [H.out.2.1, runesF_end s f pos hp]; rfl
      rw [this]
      exact own_more H.out.1.own (by omega)
end Go.Proofs.Ytogofchpocoebaa

namespace Go.Proofs.Ytogofchpocoebaa
open Go.RowKit

def vowB : ByteArray := ⟨#[97, 48, 49, 48, 101, 52, 48, 48, 105, 54, 48, 48, 111, 52, 50, 49, 117, 54, 50, 49, 121, 54, 48, 49, 195, 166, 49, 48, 48, 195, 184, 52, 48, 49, 201, 145, 48, 50, 48, 201, 148, 50, 50, 49, 201, 153, 51, 49, 48, 201, 155, 50, 48, 48]⟩
def conB : ByteArray := ⟨([98, 48, 48, 49, 100, 50, 48, 49, 102, 48, 50, 48, 103, 53, 48, 49, 104, 54, 50, 48, 106, 52, 53, 49, 107, 53, 48, 48, 108, 50, 52, 49, 109, 48, 51, 49, 110, 50, 51, 49, 112, 48, 48, 48, 114, 51, 52, 49, 115, 50, 50, 48, 116, 50, 48, 48].append [118, 48, 50, 49, 119, 48, 53, 49, 120, 53, 50, 48, 122, 50, 50, 49, 195, 176, 49, 50, 49, 197, 139, 53, 51, 49, 202, 131, 51, 50, 48, 202, 146, 51, 50, 49, 202, 148, 54, 48, 48, 202, 164, 51, 49, 49, 202, 167, 51, 49, 48, 206, 184, 49, 50, 48]).toArray⟩
theorem read_vow : readRows trA vowB = vowRows := by kernel_rfl
theorem read_con : readRows trB conB = conRows := by kernel_rfl

theorem Rd.tail {w : World} {L B n b o : Nat} {x : Int × Tr} {l : List (Int × Tr)} (h : Rd w L B 8 (some ⟨b, o, none⟩) (n + 1) (rws (x :: l))) : Rd w L B 8 (some ⟨b, o + 8, none⟩) n (rws l) := by
  obtain ⟨h1, h2⟩ := h
  have e : rws (x :: l) = rowC x ++ rws l := by simp [rws]
  rw [e, List.length_append] at h1
  have hx : (rowC x).length = 8 := rfl
  refine ⟨by omega, fun hn => ?_⟩
  obtain ⟨b', o', e', hl, hb, hc⟩ := h2 (by omega)
  injection e' with e'
  injection e' with e1 e2
  subst e1 e2
  refine ⟨b, o + 8, rfl, hl, hb, fun j u hu => ?_⟩
  have := hc (8 + j) u (by rw [e, List.getElem?_append_right (by omega), hx, show 8 + j - 8 = j by omega]; exact hu)
  rwa [Nat.add_assoc]

/-- memory while rows runs: what is left of both lists, what has been merged -/
structure MgSt (w0 : World) (B : Nat) (v1 v2 v3 : Value) (vs cs out : List (Int × Tr)) (W : World) : Prop where
  r1 : ∃ A c, v1 = .slice A vs.length c ∧ vs.length ≤ c ∧ c ≤ maxLen ∧ Rd W 0 B 8 A vs.length (rws vs)
  r2 : ∃ A c, v2 = .slice A cs.length c ∧ cs.length ≤ c ∧ c ≤ maxLen ∧ Rd W 0 B 8 A cs.length (rws cs)
  own : W.ownsRow B 185 8 v3 out.length (rws out)
  below : Below B w0 W
  bB : B ≤ W.heap.size

theorem MgSt.drew {w0 : World} {B : Nat} {v1 v2 v3 : Value} {vs cs out : List (Int × Tr)} {W : World} (h : MgSt w0 B v1 v2 v3 vs cs out W) : MgSt w0 B v1 v2 v3 vs cs out W.drew :=
  ⟨h.r1, h.r2, h.own, ⟨h.below.os, h.below.tape, h.below.output, h.below.size, h.below.block⟩, h.bB⟩
theorem MgSt.drewN {w0 : World} {B : Nat} {v1 v2 v3 : Value} {vs cs out : List (Int × Tr)} {W : World} (h : MgSt w0 B v1 v2 v3 vs cs out W) (n : Nat) : MgSt w0 B v1 v2 v3 vs cs out (W.drewN n) :=
  ⟨h.r1, h.r2, h.own, ⟨h.below.os, h.below.tape, h.below.output, h.below.size, h.below.block⟩, h.bB⟩
theorem MgSt.stay {w0 : World} {B : Nat} {v1 v2 v3 : Value} {vs cs out : List (Int × Tr)} {W W' : World} (h : MgSt w0 B v1 v2 v3 vs cs out W) (hb : Below B W W') {v3' : Value} {out' : List (Int × Tr)} (ho : W'.ownsRow B 185 8 v3' out'.length (rws out')) : MgSt w0 B v1 v2 v3' vs cs out' W' := by
  obtain ⟨A, c, e, h1, h2, h3⟩ := h.r1
  obtain ⟨A', c', e', h1', h2', h3'⟩ := h.r2
  exact ⟨⟨A, c, e, h1, h2, h3.below hb (Nat.le_refl _)⟩, ⟨A', c', e', h1', h2', h3'.below hb (Nat.le_refl _)⟩, ho, h.below.trans hb, Nat.le_trans h.bB hb.size⟩
theorem MgSt.app {w0 : World} {B : Nat} {v1 v2 v3 v4 : Value} {vs cs out : List (Int × Tr)} {W W' : World} (h : MgSt w0 B v1 v2 v3 vs cs out W) (o : Obj) (x : Int × Tr) (ho : W'.ownsRow B 185 8 v4 (out.length + 1) (rws out ++ rowC x)) (hg : (W.alloc o).grownBy W' v3.ownBlock) : MgSt w0 B v1 v2 v4 vs cs (out ++ [x]) W' := by
  refine h.stay (((Below.refl _ _).alloc h.bB o).trans ((show Only (fun k => v3.ownBlock = some k) (W.alloc o) W' from (Only.refl _ _).grown hg (fun _ hg => .inl hg)).below (by simp; have := h.bB; omega) (fun k hk hh => by have := (h.own.lt _ hh).1; omega))) ?_
  rw [rws_append, List.length_append]
  simpa [rws] using ho
theorem Below.drewB {B : Nat} {w w' : World} (h : Below B w w') : Below B w w'.drew := ⟨h.os, h.tape, h.output, h.size, h.block⟩
theorem Below.allocB {B : Nat} {w w' : World} (h : Below B w w') (hB : B ≤ w.heap.size) (o : Obj) : Below B w (w'.alloc o) := h.alloc (Nat.le_trans hB h.size) o
theorem MgSt.bel {w0 : World} {B : Nat} {v1 v2 v3 : Value} {vs cs out : List (Int × Tr)} {W W' : World} (h : MgSt w0 B v1 v2 v3 vs cs out W) (o : Obj) (hg : (W.drew.alloc o).grownBy W' v3.ownBlock) : Below B W W' :=
  (Below.allocB (Below.drewB (Below.refl B W)) h.bB o).trans ((show Only (fun k => v3.ownBlock = some k) (W.drew.alloc o) W' from (Only.refl _ _).grown hg (fun _ hg => .inl hg)).below (by simp; have := h.bB; omega) (fun k hk hh => by have := (h.own.lt _ hh).1; omega))
/-- l[1:] of rows -/
theorem slice_tail (b o n k : Nat) (hn : n ≤ k) : ∃ A' : Option Addr, (∀ wx, (Instr.slice 182 (.slice (some ⟨b, o, none⟩) (n + 1) (k + 1)) (some (.int .i64 1)) none none).run Try.prog wx = .ok (.slice A' n k) wx) ∧
    ∀ (W : World) (L B : Nat) (x : Int × Tr) (l : List (Int × Tr)), Rd W L B 8 (some ⟨b, o, none⟩) (n + 1) (rws (x :: l)) → Rd W L B 8 A' n (rws l) := by
  have h8 : (Try.prog.info? 185).map (·.size) = some 8 := by kernel_rfl
  obtain ⟨i, hi, h8'⟩ := Option.map_eq_some_iff.1 h8
  refine ⟨if k + 1 = 1 then some ⟨b, o, none⟩ else some ⟨b, o + 8, none⟩, fun wx => ?_, fun W L B x l h => ?_⟩
  · have e1 : (0 : Int) ≤ 1 ∧ (1 : Int) ≤ ((n + 1 : Nat) : Int) := by omega
    simp [Instr.slice, Instr.sliceBounds, Instr.sliceBound, run_underlying Try.underlying182, sizeOf, typeInfo, hi, h8', e1, asIntOf]
    rw [if_pos (by omega)]
    simp [Addr.add]
  · by_cases hk : k + 1 = 1
    · rw [if_pos hk]
      have hn0 : n = 0 := by omega
      subst hn0
      refine Rd.zero ?_
      have h1 := h.1
      rw [rws_len] at h1
      have h2 : l.length = 0 := by simp at h1; omega
      rw [List.eq_nil_of_length_eq_zero h2]
      rfl
    · rw [if_neg hk]
      exact h.tail
theorem MgSt.next1 {w0 : World} {B b o n c : Nat} {A' : Option Addr} {v2 v3 : Value} {x : Int × Tr} {vs cs out : List (Int × Tr)} {W : World} (h : MgSt w0 B (.slice (some ⟨b, o, none⟩) (n + 1) (c + 1)) v2 v3 (x :: vs) cs out W) (hA : ∀ (W : World) (L B : Nat) (x : Int × Tr) (l : List (Int × Tr)), Rd W L B 8 (some ⟨b, o, none⟩) (n + 1) (rws (x :: l)) → Rd W L B 8 A' n (rws l)) : MgSt w0 B (.slice A' n c) v2 v3 vs cs out W := by
  obtain ⟨A, c', e, h1, h2, h3⟩ := h.r1
  injection e with e1 e2 e3
  subst e1 e3
  simp only [List.length_cons] at e2 h1 h3
  have : n = vs.length := by omega
  subst this
  exact ⟨⟨_, c, rfl, by omega, by omega, hA _ _ _ _ _ h3⟩, h.r2, h.own, h.below, h.bB⟩
theorem MgSt.next2 {w0 : World} {B b o n c : Nat} {A' : Option Addr} {v1 v3 : Value} {x : Int × Tr} {vs cs out : List (Int × Tr)} {W : World} (h : MgSt w0 B v1 (.slice (some ⟨b, o, none⟩) (n + 1) (c + 1)) v3 vs (x :: cs) out W) (hA : ∀ (W : World) (L B : Nat) (x : Int × Tr) (l : List (Int × Tr)), Rd W L B 8 (some ⟨b, o, none⟩) (n + 1) (rws (x :: l)) → Rd W L B 8 A' n (rws l)) : MgSt w0 B v1 (.slice A' n c) v3 vs cs out W := by
  obtain ⟨A, c', e, h1, h2, h3⟩ := h.r2
  injection e with e1 e2 e3
  subst e1 e3
  simp only [List.length_cons] at e2 h1 h3
  have : n = cs.length := by omega
  subst this
  exact ⟨h.r1, ⟨_, c, rfl, by omega, by omega, hA _ _ _ _ _ h3⟩, h.own, h.below, h.bB⟩
/-- the cells of a list's first row -/
theorem Rd.first {w : World} {L B n : Nat} {A : Option Addr} {x : Int × Tr} {l : List (Int × Tr)} (h : Rd w L B 8 A (n + 1) (rws (x :: l))) : ∃ b o, A = some ⟨b, o, none⟩ ∧ b < B ∧ w.cell? ⟨b, o, none⟩ = some (.int .i32 x.1) ∧ w.cell? ⟨b, o + 1, none⟩ = some (.bool x.2.vow) ∧ w.cell? ⟨b, o + 2, none⟩ = some (.int .i64 x.2.hgt) ∧ w.cell? ⟨b, o + 3, none⟩ = some (.int .i64 x.2.bck) ∧
    w.cell? ⟨b, o + 4, none⟩ = some (.bool x.2.rnd) ∧ w.cell? ⟨b, o + 5, none⟩ = some (.int .i64 x.2.plc) ∧ w.cell? ⟨b, o + 6, none⟩ = some (.int .i64 x.2.mnr) ∧ w.cell? ⟨b, o + 7, none⟩ = some (.bool x.2.vcd) := by
  obtain ⟨b, o, e, _, hb, hc⟩ := h.2 (by omega)
  exact ⟨b, o, e, hb, hc 0 _ rfl, hc 1 _ rfl, hc 2 _ rfl, hc 3 _ rfl, hc 4 _ rfl, hc 5 _ rfl, hc 6 _ rfl, hc 7 _ rfl⟩
theorem own_cap {w : World} {base : Nat} {e : TypeId} {size : Nat} {A : Option Addr} {c n : Nat} {xs : List Value} (h : w.ownsRow base e size (.slice A n c) n xs) : n ≤ c ∧ c ≤ maxLen := by
  rcases h.2 with ⟨hv, h0⟩ | ⟨g, cap, cur, hv, _, _, h1, h2, _⟩
  · injection hv with _ h1 h2
    subst h1 h2
    exact ⟨Nat.le_refl _, by unfold maxLen; omega⟩
  · injection hv with _ _ h3
    subst h3
    exact ⟨h1, h2⟩
theorem own_in {w w' : World} {base B : Nat} {v : Value} {l : List (Int × Tr)} (h : w.ownsRow base 185 8 v l.length (rws l)) (hb : Below w.heap.size w w') (hB : w.heap.size ≤ B) : ∃ A c, v = .slice A l.length c ∧ l.length ≤ c ∧ c ≤ maxLen ∧ Rd w' 0 B 8 A l.length (rws l) := by
  obtain ⟨A, c, rfl⟩ := own_slice h
  exact ⟨A, c, rfl, (own_cap h).1, (own_cap h).2, ((own_rd h).below hb (Nat.le_refl _)).more (Nat.zero_le _) hB⟩
/-- how many elements a slice value has -/
def slen : Value → Nat
  | .slice _ n _ => n
  | _ => 0

set_option maxHeartbeats 4000000 in
set_option maxRecDepth 100000 in
theorem rows_any (w : World) : Calls Try.prog 125 #[] w fun e w' => ∃ v, e = .returned v ∧ w'.ownsRow w.heap.size 185 8 v 38 (rws rowsL) ∧ Below w.heap.size w w' := by
  obtain ⟨i0, hi, hz0, hz1, hz2⟩ := info_parts info185
  have HI := Lib.hid (And.intro hi (And.intro hz0 (And.intro hz1 hz2)))
  clear hi hz0 hz1 hz2
  go_enter Try.func125, Try.ntmps125
  go_wp2_with fail
  refine (readA_any vowB w (by decide)).mono ?_
  rintro e w1 ⟨v1, rfl, o1, hb1⟩
  rw [read_vow] at o1
  have HA := Lib.hid (And.intro o1 hb1)
  clear o1 hb1
  go_wp2_with fail
  refine (readB_any conB w1 (by decide)).mono ?_
  rintro e w2 ⟨v2, rfl, o2, hb2⟩
  rw [read_con] at o2
  have HB := Lib.hid (And.intro o2 hb2)
  clear o2 hb2
  have hM : MgSt w2 w2.heap.size v1 v2 (.slice none 0 0) vowRows conRows [] w2 :=
    ⟨own_in HA.out.1 HB.out.2 HB.out.2.size, own_in HB.out.1 (Below.refl _ _) (Nat.le_refl _), World.ownsRow_nil _ _ _ _, Below.refl _ _, Nat.le_refl _⟩
  have HM := Lib.hid hM
  clear hM
  go_wp2
  go_loopw [1, 2, 3] (fun v1 v2 v3 wr => ∃ vs cs out, Hid (MgSt w2 w2.heap.size v1 v2 v3 vs cs out wr ∧ out ++ mergeR (vs.length + cs.length) vs cs = rowsL ∧ out.length + (vs.length + cs.length) = 38 ∧ slen v1 = vs.length ∧ slen v2 = cs.length)) (fun v1 v2 _ _ => slen v1 + slen v2)
  case atStart =>
    refine ⟨vowRows, conRows, [], Lib.hid ⟨HM.out, rfl, rfl, ?_, ?_⟩⟩
    · obtain ⟨A, c, e, _⟩ := HM.out.r1; rw [e]; rfl
    · obtain ⟨A, c, e, _⟩ := HM.out.r2; rw [e]; rfl
  case round =>
    obtain ⟨vs, cs, out, H⟩ := hrel
    clear HM
    obtain ⟨A1, k1, e1, h11, h12, h13⟩ := H.out.1.r1
    obtain ⟨A2, k2, e2, h21, h22, h23⟩ := H.out.1.r2
    have H13 := Lib.hid h13
    have H23 := Lib.hid h23
    clear h13 h23
    cases vs with
    | nil =>
      cases cs with
      | nil =>
        subst e1 e2
        go_wp2
        refine bodyPost_ret (v := u3) (by simp [results, Try.results125, go_sem]) rfl ?_
        have hl : out.length = 38 := by have := H.out.2.2.1; simpa using this
        have ho : out = rowsL := by have := H.out.2.1; simpa [mergeR] using this
        subst ho
        have h3 := H.out.1.own
        rw [hl] at h3
        have z1 := HA.out.2.size
        have z2 := HB.out.2.size
        exact ⟨u3, rfl, own_more h3 (by omega), (HA.out.2.trans (HB.out.2.mono z1)).trans (H.out.1.below.mono (by omega))⟩
      | cons c cs =>
        obtain ⟨k2, rfl⟩ : ∃ k', k2 = k' + 1 := ⟨k2 - 1, by simp at h21; omega⟩
        obtain ⟨b2, o2, rfl, hb2, c0, _⟩ := H23.out.first
        subst e1 e2
        have hlen := H.out.2.2.1
        simp only [List.length_cons, List.length_nil] at h11 h21 hlen ⊢
        have hz : (((cs.length : Int) + 1) == 0) = false := by simp; omega
        go_upto_region 5 with (fail)
        go_quiet (fail)
        go_upto_region 7 with (fail)
        refine wp_abs (MgSt w2 w2.heap.size (.slice A1 0 k1) (.slice (some ⟨b2, o2, none⟩) (cs.length + 1) (k2 + 1)) u3 [] (c :: cs) out) (H.out.1.drewN _) ?_
        have hol : out.length ≤ 38 := by omega
        clear H13 H23 c0
        rintro wx hx
        obtain ⟨_, _, ee, _, _, hr⟩ := hx.r2
        injection ee with ee ee2 ee3
        clear ee2 ee3
        subst ee
        obtain ⟨b', o', ee, _, d0, d1, d2, d3, d4, d5, d6, d7⟩ := hr.first
        injection ee with ee
        injection ee with ee1 ee2
        subst ee1 ee2
        have hK : ∀ W', Below w2.heap.size wx W' → W'.cell? ⟨b2, o2, none⟩ = some (.int .i32 c.1) ∧ W'.cell? ⟨b2, o2 + 1, none⟩ = some (.bool c.2.vow) ∧ W'.cell? ⟨b2, o2 + 2, none⟩ = some (.int .i64 c.2.hgt) ∧ W'.cell? ⟨b2, o2 + 3, none⟩ = some (.int .i64 c.2.bck) ∧ W'.cell? ⟨b2, o2 + 4, none⟩ = some (.bool c.2.rnd) ∧ W'.cell? ⟨b2, o2 + 5, none⟩ = some (.int .i64 c.2.plc) ∧ W'.cell? ⟨b2, o2 + 6, none⟩ = some (.int .i64 c.2.mnr) ∧ W'.cell? ⟨b2, o2 + 7, none⟩ = some (.bool c.2.vcd) := fun W' hb => ⟨(hb.cell (p := ⟨b2, o2, none⟩) hb2).trans d0, (hb.cell (p := ⟨b2, o2 + 1, none⟩) hb2).trans d1, (hb.cell (p := ⟨b2, o2 + 2, none⟩) hb2).trans d2, (hb.cell (p := ⟨b2, o2 + 3, none⟩) hb2).trans d3, (hb.cell (p := ⟨b2, o2 + 4, none⟩) hb2).trans d4, (hb.cell (p := ⟨b2, o2 + 5, none⟩) hb2).trans d5, (hb.cell (p := ⟨b2, o2 + 6, none⟩) hb2).trans d6, (hb.cell (p := ⟨b2, o2 + 7, none⟩) hb2).trans d7⟩
        have HK := Lib.hid hK
        obtain ⟨A', hsl, hA'⟩ := slice_tail b2 o2 cs.length k2 (by omega)
        have HA' := Lib.hid hA'
        have HX := Lib.hid hx
        have hbx := hx.bB
        clear hK hA'
        clear hx hr
        go_region_held3 (fun W' => W'.cell? ⟨b2, o2, none⟩ = some (.int .i32 c.1) ∧ W'.cell? ⟨b2, o2 + 1, none⟩ = some (.bool c.2.vow) ∧ W'.cell? ⟨b2, o2 + 2, none⟩ = some (.int .i64 c.2.hgt) ∧ W'.cell? ⟨b2, o2 + 3, none⟩ = some (.int .i64 c.2.bck) ∧ W'.cell? ⟨b2, o2 + 4, none⟩ = some (.bool c.2.rnd) ∧ W'.cell? ⟨b2, o2 + 5, none⟩ = some (.int .i64 c.2.plc) ∧ W'.cell? ⟨b2, o2 + 6, none⟩ = some (.int .i64 c.2.mnr) ∧ W'.cell? ⟨b2, o2 + 7, none⟩ = some (.bool c.2.vcd)) ((refine HK.out _ ?_; (repeat (first | (with_reducible exact Below.refl _ _) | exact HE.out.2 | (refine Below.drewB ?_) | (refine Below.allocB ?_ hbx _))); done))
          ((refine step_append_rd _ (by rfl) _ _ 182 (by rfl) w2.heap.size 185 i0 (.agg #[.int .i32 0, .bool false, .int .i64 0, .int .i64 0, .bool false, .int .i64 0, .int .i64 0, .bool false]) 8 64 Try.underlying182 HI.out.1 HI.out.2.1 HI.out.2.2.1 HI.out.2.2.2 rfl (by omega) u3 out.length (rws out) (by rfl) (by exact HX.out.drew.own.alloc _) _ _ _ 1 1 _ (by rfl) (by exact rd_new _ _ _ _ rfl) (by simp [Value.oneCell']) (by unfold maxLen; omega) (by omega) (by simp; omega) ?_; intro v4 w4 _ hown hgrow _; have HE := Lib.hid (And.intro (HX.out.drew.app _ c hown hgrow) (show Below w2.heap.size wx _ from HX.out.bel _ hgrow)); clear hown hgrow))
        all_goals
          clear d0 d1 d2 d3 d4 d5 d6 d7
          go_wp2
          go_roundw
          case rel =>
            refine ⟨[], cs, out ++ [c], Lib.hid ⟨(HE.out.1).next2 HA'.out, ?_, ?_, ?_, ?_⟩⟩
            · have hm := H.out.2.1
              simp only [List.length_cons, List.length_nil] at hm ⊢
              rw [show 0 + (cs.length + 1) = (0 + cs.length) + 1 by omega, mergeR] at hm
              rw [← hm, List.append_assoc]
              rfl
            · simp only [List.length_append, List.length_cons, List.length_nil] at hlen ⊢; omega
            · rfl
            · rfl
          case measure => simp [slen]
    | cons v vs =>
      cases cs with
      | nil =>
        obtain ⟨k1, rfl⟩ : ∃ k', k1 = k' + 1 := ⟨k1 - 1, by simp at h11; omega⟩
        obtain ⟨b1, o1, rfl, hb1, c0, _⟩ := H13.out.first
        subst e1 e2
        have hlen := H.out.2.2.1
        simp only [List.length_cons, List.length_nil] at h11 h21 hlen ⊢
        have hv : decide ((0 : Int) < (vs.length : Int) + 1) = true := by simp <;> omega
        go_upto_region 5 with (fail)
        go_quiet (fail)
        go_upto_region 6 with (fail)
        refine wp_abs (MgSt w2 w2.heap.size (.slice (some ⟨b1, o1, none⟩) (vs.length + 1) (k1 + 1)) (.slice A2 0 k2) u3 (v :: vs) [] out) (H.out.1.drewN _) ?_
        have hol : out.length ≤ 38 := by omega
        clear H13 H23 c0
        rintro wx hx
        obtain ⟨_, _, ee, _, _, hr⟩ := hx.r1
        injection ee with ee ee2 ee3
        clear ee2 ee3
        subst ee
        obtain ⟨b', o', ee, _, d0, d1, d2, d3, d4, d5, d6, d7⟩ := hr.first
        injection ee with ee
        injection ee with ee1 ee2
        subst ee1 ee2
        have hK : ∀ W', Below w2.heap.size wx W' → W'.cell? ⟨b1, o1, none⟩ = some (.int .i32 v.1) ∧ W'.cell? ⟨b1, o1 + 1, none⟩ = some (.bool v.2.vow) ∧ W'.cell? ⟨b1, o1 + 2, none⟩ = some (.int .i64 v.2.hgt) ∧ W'.cell? ⟨b1, o1 + 3, none⟩ = some (.int .i64 v.2.bck) ∧ W'.cell? ⟨b1, o1 + 4, none⟩ = some (.bool v.2.rnd) ∧ W'.cell? ⟨b1, o1 + 5, none⟩ = some (.int .i64 v.2.plc) ∧ W'.cell? ⟨b1, o1 + 6, none⟩ = some (.int .i64 v.2.mnr) ∧ W'.cell? ⟨b1, o1 + 7, none⟩ = some (.bool v.2.vcd) := fun W' hb => ⟨(hb.cell (p := ⟨b1, o1, none⟩) hb1).trans d0, (hb.cell (p := ⟨b1, o1 + 1, none⟩) hb1).trans d1, (hb.cell (p := ⟨b1, o1 + 2, none⟩) hb1).trans d2, (hb.cell (p := ⟨b1, o1 + 3, none⟩) hb1).trans d3, (hb.cell (p := ⟨b1, o1 + 4, none⟩) hb1).trans d4, (hb.cell (p := ⟨b1, o1 + 5, none⟩) hb1).trans d5, (hb.cell (p := ⟨b1, o1 + 6, none⟩) hb1).trans d6, (hb.cell (p := ⟨b1, o1 + 7, none⟩) hb1).trans d7⟩
        have HK := Lib.hid hK
        obtain ⟨A', hsl, hA'⟩ := slice_tail b1 o1 vs.length k1 (by omega)
        have HA' := Lib.hid hA'
        have HX := Lib.hid hx
        have hbx := hx.bB
        clear hK hA'
        clear hx hr
        go_region_held3 (fun W' => W'.cell? ⟨b1, o1, none⟩ = some (.int .i32 v.1) ∧ W'.cell? ⟨b1, o1 + 1, none⟩ = some (.bool v.2.vow) ∧ W'.cell? ⟨b1, o1 + 2, none⟩ = some (.int .i64 v.2.hgt) ∧ W'.cell? ⟨b1, o1 + 3, none⟩ = some (.int .i64 v.2.bck) ∧ W'.cell? ⟨b1, o1 + 4, none⟩ = some (.bool v.2.rnd) ∧ W'.cell? ⟨b1, o1 + 5, none⟩ = some (.int .i64 v.2.plc) ∧ W'.cell? ⟨b1, o1 + 6, none⟩ = some (.int .i64 v.2.mnr) ∧ W'.cell? ⟨b1, o1 + 7, none⟩ = some (.bool v.2.vcd)) ((refine HK.out _ ?_; (repeat (first | (with_reducible exact Below.refl _ _) | exact HE.out.2 | (refine Below.drewB ?_) | (refine Below.allocB ?_ hbx _))); done))
          ((refine step_append_rd _ (by rfl) _ _ 182 (by rfl) w2.heap.size 185 i0 (.agg #[.int .i32 0, .bool false, .int .i64 0, .int .i64 0, .bool false, .int .i64 0, .int .i64 0, .bool false]) 8 64 Try.underlying182 HI.out.1 HI.out.2.1 HI.out.2.2.1 HI.out.2.2.2 rfl (by omega) u3 out.length (rws out) (by rfl) (by exact HX.out.drew.own.alloc _) _ _ _ 1 1 _ (by rfl) (by exact rd_new _ _ _ _ rfl) (by simp [Value.oneCell']) (by unfold maxLen; omega) (by omega) (by simp; omega) ?_; intro v4 w4 _ hown hgrow _; have HE := Lib.hid (And.intro (HX.out.drew.app _ v hown hgrow) (show Below w2.heap.size wx _ from HX.out.bel _ hgrow)); clear hown hgrow))
        all_goals
          clear d0 d1 d2 d3 d4 d5 d6 d7
          go_wp2
          go_roundw
          case rel =>
            refine ⟨vs, [], out ++ [v], Lib.hid ⟨(HE.out.1).next1 HA'.out, ?_, ?_, ?_, ?_⟩⟩
            · have hm := H.out.2.1
              simp only [List.length_cons, List.length_nil] at hm ⊢
              rw [show (vs.length + 1) + 0 = (vs.length + 0) + 1 by omega, mergeR] at hm
              rw [← hm, List.append_assoc]
              rfl
            · simp only [List.length_append, List.length_cons, List.length_nil] at hlen ⊢; omega
            · rfl
            · rfl
          case measure => simp [slen]
      | cons c cs =>
        obtain ⟨k1, rfl⟩ : ∃ k', k1 = k' + 1 := ⟨k1 - 1, by simp at h11; omega⟩
        obtain ⟨k2, rfl⟩ : ∃ k', k2 = k' + 1 := ⟨k2 - 1, by simp at h21; omega⟩
        obtain ⟨b1, o1, rfl, hb1, c0, _⟩ := H13.out.first
        obtain ⟨b2, o2, rfl, hb2, c0', _⟩ := H23.out.first
        subst e1 e2
        have hlen := H.out.2.2.1
        simp only [List.length_cons] at h11 h21 hlen ⊢
        by_cases hlt : v.1 < c.1
        · have hdl : decide (v.1 < c.1) = true := by simpa using hlt
          have hz : (((cs.length : Int) + 1) == 0) = false := by simp; omega
          have hv : decide ((0 : Int) < (vs.length : Int) + 1) = true := by simp <;> omega
          go_upto_region 5 with (fail)
          go_quiet (fail)
          go_upto_region 6 with (fail)
          refine wp_abs (MgSt w2 w2.heap.size (.slice (some ⟨b1, o1, none⟩) (vs.length + 1) (k1 + 1)) (.slice (some ⟨b2, o2, none⟩) (cs.length + 1) (k2 + 1)) u3 (v :: vs) (c :: cs) out) (H.out.1.drewN _) ?_
          have hol : out.length ≤ 38 := by omega
          clear H13 H23 c0
          rintro wx hx
          obtain ⟨_, _, ee, _, _, hr⟩ := hx.r1
          injection ee with ee ee2 ee3
          clear ee2 ee3
          subst ee
          obtain ⟨b', o', ee, _, d0, d1, d2, d3, d4, d5, d6, d7⟩ := hr.first
          injection ee with ee
          injection ee with ee1 ee2
          subst ee1 ee2
          have hK : ∀ W', Below w2.heap.size wx W' → W'.cell? ⟨b1, o1, none⟩ = some (.int .i32 v.1) ∧ W'.cell? ⟨b1, o1 + 1, none⟩ = some (.bool v.2.vow) ∧ W'.cell? ⟨b1, o1 + 2, none⟩ = some (.int .i64 v.2.hgt) ∧ W'.cell? ⟨b1, o1 + 3, none⟩ = some (.int .i64 v.2.bck) ∧ W'.cell? ⟨b1, o1 + 4, none⟩ = some (.bool v.2.rnd) ∧ W'.cell? ⟨b1, o1 + 5, none⟩ = some (.int .i64 v.2.plc) ∧ W'.cell? ⟨b1, o1 + 6, none⟩ = some (.int .i64 v.2.mnr) ∧ W'.cell? ⟨b1, o1 + 7, none⟩ = some (.bool v.2.vcd) := fun W' hb => ⟨(hb.cell (p := ⟨b1, o1, none⟩) hb1).trans d0, (hb.cell (p := ⟨b1, o1 + 1, none⟩) hb1).trans d1, (hb.cell (p := ⟨b1, o1 + 2, none⟩) hb1).trans d2, (hb.cell (p := ⟨b1, o1 + 3, none⟩) hb1).trans d3, (hb.cell (p := ⟨b1, o1 + 4, none⟩) hb1).trans d4, (hb.cell (p := ⟨b1, o1 + 5, none⟩) hb1).trans d5, (hb.cell (p := ⟨b1, o1 + 6, none⟩) hb1).trans d6, (hb.cell (p := ⟨b1, o1 + 7, none⟩) hb1).trans d7⟩
          have HK := Lib.hid hK
          obtain ⟨A', hsl, hA'⟩ := slice_tail b1 o1 vs.length k1 (by omega)
          have HA' := Lib.hid hA'
          have HX := Lib.hid hx
          have hbx := hx.bB
          clear hK hA'
          clear hx hr
          go_region_held3 (fun W' => W'.cell? ⟨b1, o1, none⟩ = some (.int .i32 v.1) ∧ W'.cell? ⟨b1, o1 + 1, none⟩ = some (.bool v.2.vow) ∧ W'.cell? ⟨b1, o1 + 2, none⟩ = some (.int .i64 v.2.hgt) ∧ W'.cell? ⟨b1, o1 + 3, none⟩ = some (.int .i64 v.2.bck) ∧ W'.cell? ⟨b1, o1 + 4, none⟩ = some (.bool v.2.rnd) ∧ W'.cell? ⟨b1, o1 + 5, none⟩ = some (.int .i64 v.2.plc) ∧ W'.cell? ⟨b1, o1 + 6, none⟩ = some (.int .i64 v.2.mnr) ∧ W'.cell? ⟨b1, o1 + 7, none⟩ = some (.bool v.2.vcd)) ((refine HK.out _ ?_; (repeat (first | (with_reducible exact Below.refl _ _) | exact HE.out.2 | (refine Below.drewB ?_) | (refine Below.allocB ?_ hbx _))); done))
            ((refine step_append_rd _ (by rfl) _ _ 182 (by rfl) w2.heap.size 185 i0 (.agg #[.int .i32 0, .bool false, .int .i64 0, .int .i64 0, .bool false, .int .i64 0, .int .i64 0, .bool false]) 8 64 Try.underlying182 HI.out.1 HI.out.2.1 HI.out.2.2.1 HI.out.2.2.2 rfl (by omega) u3 out.length (rws out) (by rfl) (by exact HX.out.drew.own.alloc _) _ _ _ 1 1 _ (by rfl) (by exact rd_new _ _ _ _ rfl) (by simp [Value.oneCell']) (by unfold maxLen; omega) (by omega) (by simp; omega) ?_; intro v4 w4 _ hown hgrow _; have HE := Lib.hid (And.intro (HX.out.drew.app _ v hown hgrow) (show Below w2.heap.size wx _ from HX.out.bel _ hgrow)); clear hown hgrow))
          all_goals
            clear d0 d1 d2 d3 d4 d5 d6 d7
            go_wp2
            go_roundw
            case rel =>
              refine ⟨vs, (c :: cs), out ++ [v], Lib.hid ⟨(HE.out.1).next1 HA'.out, ?_, ?_, ?_, ?_⟩⟩
              · have hm := H.out.2.1
                simp only [List.length_cons] at hm ⊢
                rw [show (vs.length + 1) + (cs.length + 1) = (vs.length + (cs.length + 1)) + 1 by omega, mergeR, if_pos hlt] at hm
                rw [← hm, List.append_assoc]
                rfl
              · simp only [List.length_append, List.length_cons, List.length_nil] at hlen ⊢; omega
              · rfl
              · rfl
            case measure => simp [slen]
        · have hdl : decide (v.1 < c.1) = false := by simpa using hlt
          have hz : (((cs.length : Int) + 1) == 0) = false := by simp; omega
          have hv : decide ((0 : Int) < (vs.length : Int) + 1) = true := by simp <;> omega
          go_upto_region 5 with (fail)
          go_quiet (fail)
          go_upto_region 7 with (fail)
          refine wp_abs (MgSt w2 w2.heap.size (.slice (some ⟨b1, o1, none⟩) (vs.length + 1) (k1 + 1)) (.slice (some ⟨b2, o2, none⟩) (cs.length + 1) (k2 + 1)) u3 (v :: vs) (c :: cs) out) (H.out.1.drewN _) ?_
          have hol : out.length ≤ 38 := by omega
          clear H13 H23 c0
          rintro wx hx
          obtain ⟨_, _, ee, _, _, hr⟩ := hx.r2
          injection ee with ee ee2 ee3
          clear ee2 ee3
          subst ee
          obtain ⟨b', o', ee, _, d0, d1, d2, d3, d4, d5, d6, d7⟩ := hr.first
          injection ee with ee
          injection ee with ee1 ee2
          subst ee1 ee2
          have hK : ∀ W', Below w2.heap.size wx W' → W'.cell? ⟨b2, o2, none⟩ = some (.int .i32 c.1) ∧ W'.cell? ⟨b2, o2 + 1, none⟩ = some (.bool c.2.vow) ∧ W'.cell? ⟨b2, o2 + 2, none⟩ = some (.int .i64 c.2.hgt) ∧ W'.cell? ⟨b2, o2 + 3, none⟩ = some (.int .i64 c.2.bck) ∧ W'.cell? ⟨b2, o2 + 4, none⟩ = some (.bool c.2.rnd) ∧ W'.cell? ⟨b2, o2 + 5, none⟩ = some (.int .i64 c.2.plc) ∧ W'.cell? ⟨b2, o2 + 6, none⟩ = some (.int .i64 c.2.mnr) ∧ W'.cell? ⟨b2, o2 + 7, none⟩ = some (.bool c.2.vcd) := fun W' hb => ⟨(hb.cell (p := ⟨b2, o2, none⟩) hb2).trans d0, (hb.cell (p := ⟨b2, o2 + 1, none⟩) hb2).trans d1, (hb.cell (p := ⟨b2, o2 + 2, none⟩) hb2).trans d2, (hb.cell (p := ⟨b2, o2 + 3, none⟩) hb2).trans d3, (hb.cell (p := ⟨b2, o2 + 4, none⟩) hb2).trans d4, (hb.cell (p := ⟨b2, o2 + 5, none⟩) hb2).trans d5, (hb.cell (p := ⟨b2, o2 + 6, none⟩) hb2).trans d6, (hb.cell (p := ⟨b2, o2 + 7, none⟩) hb2).trans d7⟩
          have HK := Lib.hid hK
          obtain ⟨A', hsl, hA'⟩ := slice_tail b2 o2 cs.length k2 (by omega)
          have HA' := Lib.hid hA'
          have HX := Lib.hid hx
          have hbx := hx.bB
          clear hK hA'
          clear hx hr
          go_region_held3 (fun W' => W'.cell? ⟨b2, o2, none⟩ = some (.int .i32 c.1) ∧ W'.cell? ⟨b2, o2 + 1, none⟩ = some (.bool c.2.vow) ∧ W'.cell? ⟨b2, o2 + 2, none⟩ = some (.int .i64 c.2.hgt) ∧ W'.cell? ⟨b2, o2 + 3, none⟩ = some (.int .i64 c.2.bck) ∧ W'.cell? ⟨b2, o2 + 4, none⟩ = some (.bool c.2.rnd) ∧ W'.cell? ⟨b2, o2 + 5, none⟩ = some (.int .i64 c.2.plc) ∧ W'.cell? ⟨b2, o2 + 6, none⟩ = some (.int .i64 c.2.mnr) ∧ W'.cell? ⟨b2, o2 + 7, none⟩ = some (.bool c.2.vcd)) ((refine HK.out _ ?_; (repeat (first | (with_reducible exact Below.refl _ _) | exact HE.out.2 | (refine Below.drewB ?_) | (refine Below.allocB ?_ hbx _))); done))
            ((refine step_append_rd _ (by rfl) _ _ 182 (by rfl) w2.heap.size 185 i0 (.agg #[.int .i32 0, .bool false, .int .i64 0, .int .i64 0, .bool false, .int .i64 0, .int .i64 0, .bool false]) 8 64 Try.underlying182 HI.out.1 HI.out.2.1 HI.out.2.2.1 HI.out.2.2.2 rfl (by omega) u3 out.length (rws out) (by rfl) (by exact HX.out.drew.own.alloc _) _ _ _ 1 1 _ (by rfl) (by exact rd_new _ _ _ _ rfl) (by simp [Value.oneCell']) (by unfold maxLen; omega) (by omega) (by simp; omega) ?_; intro v4 w4 _ hown hgrow _; have HE := Lib.hid (And.intro (HX.out.drew.app _ c hown hgrow) (show Below w2.heap.size wx _ from HX.out.bel _ hgrow)); clear hown hgrow))
          all_goals
            clear d0 d1 d2 d3 d4 d5 d6 d7
            go_wp2
            go_roundw
            case rel =>
              refine ⟨(v :: vs), cs, out ++ [c], Lib.hid ⟨(HE.out.1).next2 HA'.out, ?_, ?_, ?_, ?_⟩⟩
              · have hm := H.out.2.1
                simp only [List.length_cons] at hm ⊢
                rw [show (vs.length + 1) + (cs.length + 1) = ((vs.length + 1) + cs.length) + 1 by omega, mergeR, if_neg hlt] at hm
                rw [← hm, List.append_assoc]
                rfl
              · simp only [List.length_append, List.length_cons, List.length_nil] at hlen ⊢; omega
              · rfl
              · rfl
            case measure => simp [slen]
end Go.Proofs.Ytogofchpocoebaa

namespace Go.Proofs.Ytogofchpocoebaa
open Go.RowKit Go.Maps

/-- what a map of the rows l holds -/
def tabM (l : List (Int × Tr)) : Lit → Option Value
  | .int .i32 r => (tabOf l r).map trV
  | _ => none
theorem tabM_snoc (l : List (Int × Tr)) (x : Int × Tr) (k : Lit) : updV (tabM l) (.int .i32 x.1) (trV x.2) k = tabM (l ++ [x]) k := by
  by_cases h : k = .int .i32 x.1
  · subst h
    rw [updV_same]
    show _ = (tabOf (l ++ [x]) x.1).map trV
    rw [tabOf_snoc, if_pos rfl]
    rfl
  · rw [updV_other _ _ h]
    cases k with
    | int q r =>
      cases q <;> first | rfl | skip
      show (tabOf l r).map trV = (tabOf (l ++ [x]) r).map trV
      rw [tabOf_snoc, if_neg (fun e => h (by rw [e]))]
    | _ => rfl
/-- block b holds the table -/
def TabIs (w : World) (b : Nat) : Prop := MapV Try.prog w 21 b (tabM rowsL) 38
theorem lawR : Keyed Try.prog 21 := int_keyed Try.underlying21
theorem wf32 {r : Int} (h : -2147483648 ≤ r ∧ r ≤ 2147483647) : (Lit.int .i32 r).wf = true := by
  simp only [Lit.wf, Bool.and_eq_true, decide_eq_true_eq]
  have h1 : IntKind.i32.min = -2147483648 := by decide
  have h2 : IntKind.i32.max = 2147483647 := by decide
  rw [h1, h2]
  exact h
theorem keyR {r : Int} (h : -2147483648 ≤ r ∧ r ≤ 2147483647) : keyOf Try.prog 21 (.int .i32 r) = some (.int .i32 r) := Maps.keyOf_int_mk Try.underlying21 (wf32 h)
theorem zero56 (w : World) : (zeroValue 56).run Try.prog w = .ok (trV tr0) w := by kernel_rfl

/-- memory while table runs -/
structure TbSt (w0 : World) (B : Nat) (A : Option Addr) (i : Nat) (W : World) : Prop where
  mp : MapV Try.prog W 21 w0.heap.size (tabM (rowsL.take i)) i
  rd : Rd W (w0.heap.size + 1) B 8 A 38 (rws rowsL)
  below : Below w0.heap.size w0 W
  bB : B ≤ W.heap.size
  lb : w0.heap.size < B
theorem rows_small' : (rowsL.all fun x => decide (-2147483648 ≤ x.1) && decide (x.1 ≤ 2147483647)) = true := by decide +kernel

set_option maxHeartbeats 4000000 in
set_option maxRecDepth 100000 in
theorem table_any (w : World) : Calls Try.prog 113 #[] w fun e w' => ∃ b, e = .returned (.map (some b)) ∧ w.heap.size ≤ b ∧ TabIs w' b ∧ Below w.heap.size w w' := by
  have hmm := @run_makeMap Try.prog
  go_enter Try.func113, Try.ntmps113
  go_upto_region 2 with (fail)
  clear hmm
  refine wp_abs (fun wx => MapV Try.prog wx 21 w.heap.size (fun _ => none) 0 ∧ Below w.heap.size w wx) ⟨MapV.made Try.prog w 21, (Below.refl _ _).alloc (Nat.le_refl _) _⟩ ?_
  rintro w1 ⟨hm, hb⟩
  have HM := Lib.hid (And.intro hm hb)
  clear hm hb
  go_wp2_with fail
  refine (rows_any w1).mono ?_
  rintro e w2 ⟨v, rfl, ho, hb⟩
  obtain ⟨A, c, rfl⟩ := own_slice ho
  have hcap := own_cap ho
  have l1 := HM.out.1.lt
  have hT : TbSt w w2.heap.size A 0 w2 := ⟨(HM.out.1.on hb).congr (fun l => by cases l with | int q r => (cases q <;> rfl) | _ => rfl), (own_rd ho).more (by omega) (Nat.le_refl _), HM.out.2.trans (hb.mono (by omega)), Nat.le_refl _, Nat.lt_of_lt_of_le l1 hb.size⟩
  have HT := Lib.hid hT
  clear hT ho hb HM l1
  go_wp2
  go_loopw [3, 7] (fun v3 iv wr => ∃ i : Nat, i ≤ 38 ∧ iv = .int .i64 i ∧ Hid (TbSt w w2.heap.size A i wr)) (fun _ iv _ => 38 - (intOf iv).toNat)
  case atStart => exact ⟨0, by omega, rfl, HT⟩
  case round =>
    obtain ⟨i, hi, rfl, H⟩ := hrel
    clear HT
    by_cases hlt : i < 38
    · obtain ⟨b, o, hl, rfl, hL, hB, hc⟩ := Rd.flat rowC_len (by omega) H.out.rd hlt
      have hx := (List.all_eq_true.1 rows_small') _ (List.getElem_mem hl)
      have hsn : rowsL.take (i + 1) = rowsL.take i ++ [rowsL[i]] := List.take_succ_eq_append_getElem hl
      generalize rowsL[i] = x at hc hx hsn
      have HSN := Lib.hid hsn
      have hk : keyOf Try.prog 21 (.int .i32 x.1) = some (.int .i32 x.1) := keyR (by simpa using hx)
      have HK := Lib.hid hk
      have d0 : wr.cell? ⟨b, o + i * 8, none⟩ = some (.int .i32 x.1) := hc 0 _ rfl
      have d1 := hc 1 _ rfl
      have d2 := hc 2 _ rfl
      have d3 := hc 3 _ rfl
      have d4 := hc 4 _ rfl
      have d5 := hc 5 _ rfl
      have d6 := hc 6 _ rfl
      have d7 := hc 7 _ rfl
      clear hc hx hsn hk
      go_wp2_with (at_mapUpdate; refine wpList_putV _ rfl _ _ _ 164 rfl 21 56 lawR Try.underlying164 w.heap.size i _ rfl (H.out.mp.on ((Below.refl _ _).alloc (Nat.le_refl _) _)) (by unfold maxLen; omega) _ _ rfl _ rfl HK.out ?_; intro w4 hm hg; have HN := Lib.hid (And.intro hm hg); clear hm hg)
      go_roundw
      case rel =>
        have hO : Only (fun k => k = w.heap.size) wr w4 := ((Only.refl _ wr).alloc _).grown HN.out.2 (fun g e => by injection e with e; exact .inl e.symm)
        have hlb := H.out.lb
        refine ⟨i + 1, by omega, by go_num, Lib.hid ⟨HN.out.1.congr (fun l => (tabM_snoc _ x l).trans (by rw [HSN.out])), ?_, H.out.below.trans (hO.below H.out.below.size (fun k hk e => by omega)), Nat.le_trans H.out.bB hO.size, hlb⟩⟩
        exact H.out.rd.keep (fun b' o' h1 h2 => hO.cell (Nat.lt_of_lt_of_le h2 H.out.bB) (by omega))
      case measure => simp [intOf]; omega
    · obtain rfl : i = 38 := by omega
      go_wp2
      go_ret
      exact ⟨_, rfl, Nat.le_refl _, H.out.mp.congr (fun l => by rw [List.take_of_length_le (by rw [rowsL_len]; omega)]), H.out.below⟩

theorem tab_look {w : World} {b : Nat} (h : TabIs w b) {r : Int} (hr : -2147483648 ≤ r ∧ r ≤ 2147483647) :
    (Instr.lookup 164 (.map (some b)) (.int .i32 r) true).run Try.prog w = .ok (.tuple #[trV (traits r), .bool (tabF r).isSome]) w ∧ (Instr.lookup 164 (.map (some b)) (.int .i32 r) false).run Try.prog w = .ok (trV (traits r)) w := by
  have h1 := MapV.look_ok h lawR Try.underlying164 (zero56 w) (keyR hr)
  have h2 := MapV.look h lawR Try.underlying164 (zero56 w) (keyR hr)
  have e1 : tabM rowsL (.int .i32 r) = (tabF r).map trV := rfl
  rw [h1, h2, e1]
  unfold traits
  cases tabF r <;> exact ⟨rfl, rfl⟩
theorem TabIs.drew {w : World} {b : Nat} (h : TabIs w b) : TabIs w.drew b := h
theorem TabIs.drewN {w : World} {b : Nat} (h : TabIs w b) (n : Nat) : TabIs (w.drewN n) b := h
theorem TabIs.on {w w' : World} {b : Nat} (h : TabIs w b) (hb : Below w.heap.size w w') : TabIs w' b := MapV.on h hb
theorem TabIs.below {w w' : World} {b B : Nat} (h : TabIs w b) (hb : Below B w w') (hB : b < B) : TabIs w' b := MapV.below h hb hB
theorem TabIs.lt {w : World} {b : Nat} (h : TabIs w b) : b < w.heap.size := MapV.lt h
theorem TabIs.only {S : Nat → Prop} {w w' : World} {b : Nat} (h : TabIs w b) (ho : Only S w w') (hS : ¬ S b) : TabIs w' b := MapV.only h ho hS

/-- a rune's range -/
def fit32 (r : Int) : Prop := -2147483648 ≤ r ∧ r ≤ 2147483647

set_option maxHeartbeats 2000000 in
set_option maxRecDepth 100000 in
theorem is_any (b : Nat) (p : Ph) (w : World) (h : TabIs w b) (hr : fit32 p.1) : Calls Try.prog 114 #[.map (some b), .agg #[.int .i32 p.1, .bool p.2.1, .int .i32 p.2.2]] w fun e w' => e = .returned (.bool (isF p)) ∧ Below w.heap.size w w' := by
  obtain ⟨r, lg, g⟩ := p
  show Calls Try.prog 114 #[.map (some b), .agg #[.int .i32 r, .bool lg, .int .i32 g]] w _
  have hl := (tab_look (h.on ((Below.refl _ w).alloc (Nat.le_refl _) (.cells #[.int .i32 r, .bool lg, .int .i32 g] 43))) hr).1
  have ht : trV (traits r) = .agg #[.bool (traits r).vow, .int .i64 (traits r).hgt, .int .i64 (traits r).bck, .bool (traits r).rnd, .int .i64 (traits r).plc, .int .i64 (traits r).mnr, .bool (traits r).vcd] := rfl
  rw [ht] at hl
  have hv : isF (r, lg, g) = ((tabF r).isSome && (decide (g = 0) || ((traits r).vow && (decide (g = 105) || decide (g = 117))))) := rfl
  have HV := Lib.hid hv
  clear hv ht
  generalize traits r = t at *
  generalize (tabF r).isSome = ok at *
  go_enter Try.func114, Try.ntmps114
  go_wp2
  all_goals
    go_ret
    refine ⟨ret_bool ?_, ((Below.refl _ _).alloc (Nat.le_refl _) _).alloc (by simp) _⟩
    subst_vars
    rw [HV.out]
    first
      | (simp [*]; done)
      | (rw [Bool.eq_iff_iff]; simp [*])
end Go.Proofs.Ytogofchpocoebaa
