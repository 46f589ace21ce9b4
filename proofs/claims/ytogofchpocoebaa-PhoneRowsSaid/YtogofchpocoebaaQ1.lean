/- phone.read and the closures that it is handed. -/
import Derived.Test.YtogofchpocoebaaGen
import Derived.Test.YtogofchpocoebaaP1
namespace Go.Proofs.Ytogofchpocoebaa
open Go.RowKit

def trA (x y z : Int) : Tr := (true, x, y, z == 1, 0, 0, false)
def trB (x y z : Int) : Tr := (false, 0, 0, false, x, y, z == 1)
set_option maxHeartbeats 1000000 in
set_option maxRecDepth 100000 in
theorem trA_any (x y z : Int) (w : World) : Calls Try.prog 158 #[.agg #[.int .i64 x, .int .i64 y, .int .i64 z]] w fun e w' => e = .returned (trV (trA x y z)) ∧ Below w.heap.size w w' := by
  go_enter Try.func158, Try.ntmps158
  go_wp2
  refine bodyPost_ret (v := trV (trA x y z)) (by simp [results, Try.results158, go_sem, trV, trC, trA, Tr.vow, Tr.hgt, Tr.bck, Tr.rnd, Tr.plc, Tr.mnr, Tr.vcd]) rfl ?_
  exact ⟨rfl, ((Below.refl _ _).alloc (Nat.le_refl _) _).alloc (by simp) _⟩
set_option maxHeartbeats 1000000 in
set_option maxRecDepth 100000 in
theorem trB_any (x y z : Int) (w : World) : Calls Try.prog 159 #[.agg #[.int .i64 x, .int .i64 y, .int .i64 z]] w fun e w' => e = .returned (trV (trB x y z)) ∧ Below w.heap.size w w' := by
  go_enter Try.func159, Try.ntmps159
  go_wp2
  refine bodyPost_ret (v := trV (trB x y z)) (by simp [results, Try.results159, go_sem, trV, trC, trB, Tr.vow, Tr.hgt, Tr.bck, Tr.rnd, Tr.plc, Tr.mnr, Tr.vcd]) rfl ?_
  exact ⟨rfl, ((Below.refl _ _).alloc (Nat.le_refl _) _).alloc (by simp) _⟩

/-- the runes of a text from a place on -/
def runesF (s : ByteArray) : Nat → Nat → List Int
  | 0, _ => []
  | f + 1, pos => if pos < s.size then ((Utf8.decode s pos).1 : Int) :: runesF s f (pos + (Utf8.decode s pos).2) else []
theorem runesF_end (s : ByteArray) (f pos : Nat) (h : ¬ pos < s.size) : runesF s f pos = [] := by
  cases f with
  | zero => rfl
  | succ f => unfold runesF; rw [if_neg h]
theorem runesF_more (s : ByteArray) (f pos : Nat) (h : pos < s.size) (hf : s.size - pos ≤ f) : ∃ f', s.size - (pos + (Utf8.decode s pos).2) ≤ f' ∧ runesF s f pos = ((Utf8.decode s pos).1 : Int) :: runesF s f' (pos + (Utf8.decode s pos).2) := by
  cases f with
  | zero => omega
  | succ f =>
    have := width_pos s pos h
    exact ⟨f, by omega, by conv => lhs; unfold runesF; rw [if_pos h]⟩
/-- one rune more -/
def rdStep (T : Int → Int → Int → Tr) (st : List (Int × Tr) × (Int × Int × Int) × Nat) (r : Int) : List (Int × Tr) × (Int × Int × Int) × Nat :=
  if st.2.2 % 4 = 0 then (st.1 ++ [(r, tr0)], st.2.1, st.2.2 + 1)
  else
    let d := if st.2.2 % 4 = 1 then (r - 48, st.2.1.2.1, st.2.1.2.2) else if st.2.2 % 4 = 2 then (st.2.1.1, r - 48, st.2.1.2.2) else (st.2.1.1, st.2.1.2.1, r - 48)
    (st.1.set (st.1.length - 1) ((st.1.getD (st.1.length - 1) (0, tr0)).1, T d.1 d.2.1 d.2.2), d, st.2.2 + 1)
def readRows (T : Int → Int → Int → Tr) (s : ByteArray) : List (Int × Tr) := ((runesF s s.size 0).foldl (rdStep T) ([], (0, 0, 0), 0)).1

theorem rws_get (l : List (Int × Tr)) {k : Nat} (h : k < l.length) (j : Nat) (hj : j < 8) : (rws l)[k * 8 + j]? = (rowC l[k])[j]? := flat_at rowC 8 rowC_len l k h j hj
theorem rws_set (l : List (Int × Tr)) (k : Nat) (h : k < l.length) (t : Tr) : (((((((rws l).set (k * 8 + 1) (.bool t.vow)).set (k * 8 + 2) (.int .i64 t.hgt)).set (k * 8 + 3) (.int .i64 t.bck)).set (k * 8 + 4) (.bool t.rnd)).set (k * 8 + 5) (.int .i64 t.plc)).set (k * 8 + 6) (.int .i64 t.mnr)).set (k * 8 + 7) (.bool t.vcd) = rws (l.set k ((l.getD k (0, tr0)).1, t)) := by
  induction l generalizing k with
  | nil => simp at h
  | cons a l ih =>
    rcases k with _ | k
    · simp [rws, rowC, trC]
    · have := ih k (by simpa using h)
      simp only [rws, List.flatMap_cons] at this ⊢
      simp only [show ∀ i, (k + 1) * 8 + i = (k * 8 + i) + 8 by intro i; omega]
      simp only [rowC, trC, List.cons_append, List.nil_append, List.set_cons_succ, List.getD_cons_succ]
      rw [this]
      rfl

/-- memory while read runs -/
structure RwSt (w0 : World) (ib : Nat) (v : Value) (out : List (Int × Tr)) (d : Int × Int × Int) (s : ByteArray) (pos : Nat) (W : World) : Prop where
  bd : Blk W w0.heap.size 121 #[.int .i64 d.1, .int .i64 d.2.1, .int .i64 d.2.2]
  it : W.heap[ib]? = some (.stringIter s pos)
  own : W.ownsRow (w0.heap.size + 2) 185 8 v out.length (rws out)
  below : Below w0.heap.size w0 W
  ilo : w0.heap.size < ib
theorem iter_blk {W : World} {g ib : Nat} {t : TypeId} {cs : Array Value} {s : ByteArray} {pos : Nat} (h : Blk W g t cs) (hi : W.heap[ib]? = some (.stringIter s pos)) : g ≠ ib := by
  rintro rfl
  unfold Blk at h
  rw [h] at hi
  cases hi
theorem iter_own {W : World} {base ib n sz : Nat} {e : TypeId} {v : Value} {xs : List Value} {s : ByteArray} {pos : Nat} (h : W.ownsRow base e sz v n xs) (hi : W.heap[ib]? = some (.stringIter s pos)) : v.ownBlock ≠ some ib := by
  intro hv
  rcases h.2 with ⟨rfl, _⟩ | ⟨g', cap, cur, rfl, _, hg, _⟩
  · simp [Value.ownBlock] at hv
  · have : g' = ib := by simpa [Value.ownBlock] using hv
    subst this
    rw [hg] at hi
    cases hi
theorem own_iterAt {W : World} {base ib n sz : Nat} {e : TypeId} {v : Value} {xs : List Value} {s : ByteArray} {pos : Nat} (h : W.ownsRow base e sz v n xs) (hi : W.heap[ib]? = some (.stringIter s pos)) (pos' : Nat) : (W.iterAt ib s pos').ownsRow base e sz v n xs :=
  own_only (S := fun k => k = ib) h (Only.iterAt (S := fun k => k = ib) (Only.refl _ W) (.inl rfl) s pos') (fun k _ _ hk e => iter_own h hi (by rw [hk, e]))
theorem RwSt.next {w0 : World} {ib : Nat} {v : Value} {out : List (Int × Tr)} {d : Int × Int × Int} {s : ByteArray} {pos : Nat} {W : World} (h : RwSt w0 ib v out d s pos W) (pos' : Nat) : RwSt w0 ib v out d s pos' (W.iterAt ib s pos') :=
  ⟨h.bd.iterAt (iter_blk h.bd h.it) _ _, Lib.iterAt_heap _ _ _ _ _ h.it, own_iterAt h.own h.it _, h.below.trans ((Only.iterAt (S := fun k => k = ib) (Only.refl _ W) (.inl rfl) s pos').below h.below.size (fun k hk e => by have := h.ilo; omega)), h.ilo⟩
theorem RwSt.app {w0 : World} {ib : Nat} {v v' : Value} {out : List (Int × Tr)} {d : Int × Int × Int} {s : ByteArray} {pos : Nat} {W W' : World} (h : RwSt w0 ib v out d s pos W) (x : Int × Tr) (ho : W'.ownsRow (w0.heap.size + 2) 185 8 v' (out.length + 1) (rws out ++ rowC x)) (hg : W.grownBy W' v.ownBlock) : RwSt w0 ib v' (out ++ [x]) d s pos W' := by
  have hO : Only (fun k => v.ownBlock = some k) W W' := (Only.refl _ _).grown hg (fun _ hg => .inl hg)
  have hl := (Array.getElem?_eq_some_iff.1 h.it).1
  refine ⟨h.bd.only hO (fun hk => by have := (h.own.lt _ hk).1; omega), (hO.block ib hl (iter_own h.own h.it)).trans h.it, ?_, h.below.trans (hO.below h.below.size (fun k hk hh => by have := (h.own.lt _ hh).1; omega)), h.ilo⟩
  rw [rws_append, List.length_append]
  simpa [rws] using ho

theorem own_some {w : World} {base : Nat} {e : TypeId} {size n : Nat} {v : Value} {xs : List Value} (h : w.ownsRow base e size v n xs) (hn : 0 < n) : ∃ g cap, v = .slice (some ⟨g, 0, none⟩) n cap ∧ n ≤ cap := by
  rcases h.2 with ⟨_, h0⟩ | ⟨g, cap, cur, hv, _, _, hn, _⟩
  · omega
  · exact ⟨g, cap, hv, hn⟩
theorem RwSt.setd {w0 : World} {ib : Nat} {v : Value} {out : List (Int × Tr)} {d : Int × Int × Int} {s : ByteArray} {pos : Nat} {W : World} (h : RwSt w0 ib v out d s pos W) (j : Nat) (x : Int) {d' : Int × Int × Int} (hd : (#[.int .i64 d.1, .int .i64 d.2.1, .int .i64 d.2.2] : Array Value).setIfInBounds j (.int .i64 x) = #[.int .i64 d'.1, .int .i64 d'.2.1, .int .i64 d'.2.2]) :
    RwSt w0 ib v out d' s pos (W.setCell ⟨w0.heap.size, j, none⟩ (.int .i64 x)) :=
  ⟨by rw [← hd]; exact h.bd.set_ j _, (Below.heap_setCell _ _ _ _ (by have := h.ilo; simp; omega)).trans h.it, own_setCell h.own (by simp) _, h.below.setCell (by simp) _, h.ilo⟩
theorem RwSt.on {w0 : World} {ib : Nat} {v : Value} {out : List (Int × Tr)} {d : Int × Int × Int} {s : ByteArray} {pos : Nat} {W W' : World} (h : RwSt w0 ib v out d s pos W) (hb : Below W.heap.size W W') : RwSt w0 ib v out d s pos W' :=
  ⟨h.bd.below hb h.bd.lt, (hb.block _ (Array.getElem?_eq_some_iff.1 h.it).1).trans h.it, own_stay h.own (Only.of_below hb _), h.below.trans (hb.mono h.below.size), h.ilo⟩
theorem RwSt.put {w0 : World} {ib g m n c : Nat} {out : List (Int × Tr)} {d : Int × Int × Int} {s : ByteArray} {pos : Nat} {W : World} (h : RwSt w0 ib (.slice (some ⟨g, 0, none⟩) n c) out d s pos W) (hn : out.length = n) (hm : m < out.length) (t : Tr) :
    RwSt w0 ib (.slice (some ⟨g, 0, none⟩) n c) (out.set m ((out.getD m (0, tr0)).1, t)) d s pos (((((((W.setCell ⟨g, m * 8 + 1, none⟩ (.bool t.vow)).setCell ⟨g, m * 8 + 1 + 1, none⟩ (.int .i64 t.hgt)).setCell ⟨g, m * 8 + 1 + 2, none⟩ (.int .i64 t.bck)).setCell ⟨g, m * 8 + 1 + 3, none⟩ (.bool t.rnd)).setCell ⟨g, m * 8 + 1 + 4, none⟩ (.int .i64 t.plc)).setCell ⟨g, m * 8 + 1 + 5, none⟩ (.int .i64 t.mnr)).setCell ⟨g, m * 8 + 1 + 6, none⟩ (.bool t.vcd)) := by
  subst hn
  have hg := (h.own.lt g rfl).1
  have hi := iter_own h.own h.it
  have hib : ib ≠ g := fun e => hi (by rw [e]; rfl)
  have far : ∀ {W1 : World}, W1.heap[ib]? = some (.stringIter s pos) → ∀ i v, (W1.setCell ⟨g, i, none⟩ v).heap[ib]? = some (.stringIter s pos) := fun h1 i v => (Below.heap_setCell _ _ _ _ (by simpa using hib)).trans h1
  refine ⟨((((((h.bd.far (by simp; omega) _).far (by simp; omega) _).far (by simp; omega) _).far (by simp; omega) _).far (by simp; omega) _).far (by simp; omega) _).far (by simp; omega) _, far (far (far (far (far (far (far h.it _ _) _ _) _ _) _ _) _ _) _ _) _ _, ?_,
    ((((((h.below.setCell (by simp; omega) _).setCell (by simp; omega) _).setCell (by simp; omega) _).setCell (by simp; omega) _).setCell (by simp; omega) _).setCell (by simp; omega) _).setCell (by simp; omega) _, h.ilo⟩
  rw [List.length_set, ← rws_set out m hm t]
  exact own_set (own_set (own_set (own_set (own_set (own_set (own_set h.own _ _) _ _) _ _) _ _) _ _) _ _) _ _
theorem trA_eq (x y z : Int) : trV (trA x y z) = .agg #[.bool true, .int .i64 x, .int .i64 y, .bool (z == 1), .int .i64 0, .int .i64 0, .bool false] := rfl
theorem trB_eq (x y z : Int) : trV (trB x y z) = .agg #[.bool false, .int .i64 0, .int .i64 0, .bool false, .int .i64 x, .int .i64 y, .bool (z == 1)] := rfl
theorem rd_new (w : World) (t : TypeId) (cs : Array Value) (sz : Nat) (h : cs.size = sz) : Rd (w.alloc (.cells cs t)) w.heap.size (w.heap.size + 1) sz (some ⟨w.heap.size, 0, none⟩) 1 cs.toList := by
  refine ⟨by simp [h], fun _ => ⟨w.heap.size, 0, rfl, Nat.le_refl _, Nat.lt_succ_self _, fun j x hu => ?_⟩⟩
  rw [Nat.zero_add, (Blk.new w t cs).cell]
  simpa using hu
theorem info185 : (Try.prog.info? 185).map (fun i => (i.zero, i.size, i.bytes)) = some (some (.agg #[.int .i32 0, .bool false, .int .i64 0, .int .i64 0, .bool false, .int .i64 0, .int .i64 0, .bool false]), 8, 64) := by kernel_rfl

set_option maxHeartbeats 4000000 in
set_option maxRecDepth 100000 in
theorem readA_any (s : ByteArray) (w : World) (hs : s.size ≤ 1000) : Calls Try.prog 157 #[.string s, .func (.func 158) #[] #[]] w fun e w' => ∃ v, e = .returned v ∧ w'.ownsRow w.heap.size 185 8 v (readRows trA s).length (rws (readRows trA s)) ∧ Below w.heap.size w w' := by
  obtain ⟨i0, hi, hz0, hz1, hz2⟩ := info_parts info185
  have HI := Lib.hid (And.intro hi (And.intro hz0 (And.intro hz1 hz2)))
  clear hi hz0 hz1 hz2
  go_enter Try.func157, Try.ntmps157
  go_upto_region 4 with (fail)
  refine wp_abs (fun wx => Blk wx w.heap.size 121 #[.int .i64 0, .int .i64 0, .int .i64 0] ∧ Below w.heap.size w wx) ⟨Blk.new _ _ _, (Below.refl _ _).alloc (Nat.le_refl _) _⟩ ?_
  rintro w1 ⟨b0, hb⟩
  have HB := Lib.hid (And.intro b0 hb)
  have lz := b0.lt
  clear b0 hb
  go_wp2
  go_loopw [5, 7] (fun v5 v7 wr => ∃ (out : List (Int × Tr)) (d : Int × Int × Int) (k pos f : Nat), v7 = .int .i64 k ∧ Hid (RwSt w w1.heap.size v5 out d s pos wr ∧ (runesF s s.size 0).foldl (rdStep trA) ([], (0, 0, 0), 0) = (runesF s f pos).foldl (rdStep trA) (out, d, k) ∧ s.size - pos ≤ f ∧ k ≤ pos ∧ out.length ≤ k ∧ (0 < k → 0 < out.length))) (fun _ _ w' => s.size - w'.iterPos w1.heap.size)
  case atStart => exact ⟨[], (0, 0, 0), 0, 0, s.size, rfl, Lib.hid ⟨⟨HB.out.1.iter _ _, World.iter_heap _ _ _, World.ownsRow_nil _ _ _ _, HB.out.2.trans ((iter_below _ _ _).mono (by omega)), lz⟩, rfl, by omega, by omega, by simp, by omega⟩⟩
  case round =>
    obtain ⟨out, d, k, pos, f, rfl, H⟩ := hrel
    clear HB
    by_cases hp : pos < s.size
    · have hnx : ∀ ty, (Instr.next (.pointer (some ⟨w1.heap.size, 0, none⟩)) true ty).run Try.prog wr = _ := fun ty => Lib.run_next_any_at wr w1.heap.size s pos ty H.out.1.it hp
      have hd := decode_le s pos
      have hst := (H.out.1.next (pos + (Utf8.decode s pos).2))
      have hru := runesF_more s f pos hp H.out.2.2.1
      have hw1 := width_pos s pos hp
      generalize hdr : (Utf8.decode s pos).1 = r at *
      generalize hdw : (Utf8.decode s pos).2 = dw at *
      obtain ⟨f', hf', hru⟩ := hru
      have HF := Lib.hid (And.intro hf' hru)
      have HST := Lib.hid hst
      clear hru hf' hst hdr hdw
      have hkb : k ≤ 1000 := by have := H.out.2.2.2.1; omega
      have hol : out.length ≤ 1000 := by have := H.out.2.2.2.2.1; omega
      by_cases hk : k % 4 = 0
      · have hkm : (k : Int) % 4 = 0 := by omega
        have hs1 : (rdStep trA (out, d, k) r) = (out ++ [((r : Int), tr0)], d, k + 1) := by unfold rdStep; simp only; rw [if_pos hk]
        have HS1 := Lib.hid hs1
        clear hs1 hk
        go_upto_region 8 with (fail)
        refine wp_abs (RwSt w w1.heap.size u5 out d s (pos + dw)) HST.out ?_
        clear hnx HST
        intro w2 h2
        have H2 := Lib.hid h2
        clear h2
        go_wp2_with (at_builtin; go_must (refine wpList_append_rd _ rfl _ _ 182 rfl (w.heap.size + 2) 185 i0 (.agg #[.int .i32 0, .bool false, .int .i64 0, .int .i64 0, .bool false, .int .i64 0, .int .i64 0, .bool false]) 8 64 Try.underlying182 HI.out.1 HI.out.2.1 HI.out.2.2.1 HI.out.2.2.2 rfl (by decide) _ _ _ rfl (H2.out.own.alloc _) _ _ _ 1 1 _ rfl (rd_new _ _ _ _ rfl) (by simp [Value.oneCell']) (by unfold maxLen; omega) (by omega) (by have := H2.out.bd.lt; have := (Array.getElem?_eq_some_iff.1 H2.out.it).1; simp; omega) ?_; intro v4 w4 _ hown hgrow _; have HN := Lib.hid (And.intro hown hgrow); clear hown hgrow))
        have HE := Lib.hid ((H2.out.on ((Below.refl _ _).alloc (Nat.le_refl _) _)).app ((r : Int), tr0) HN.out.1 HN.out.2)
        go_roundw
        case rel => exact ⟨_, _, k + 1, pos + dw, f', by go_num, Lib.hid ⟨HE.out, by rw [H.out.2.1, HF.out.2, List.foldl_cons, HS1.out], HF.out.1, by have := H.out.2.2.2.1; omega, by have := H.out.2.2.2.2.1; simp; omega, fun _ => by simp; try omega⟩⟩
        case measure => exact Nat.lt_of_le_of_lt (Nat.le_of_eq (congrArg (s.size - ·) (iterPos_of HE.out.it))) (by rw [iterPos_of H.out.1.it]; omega)
      have hk3 : k % 4 = 1 ∨ k % 4 = 2 ∨ k % 4 = 3 := by omega
      rcases hk3 with hk | hk | hk
      · have hkm : (k : Int) % 4 = 1 := by omega
        have hs1 : (rdStep trA (out, d, k) r) = (out.set (out.length - 1) ((out.getD (out.length - 1) (0, tr0)).1, trA ((r : Int) - 48) d.2.1 d.2.2), ((r : Int) - 48, d.2.1, d.2.2), k + 1) := by unfold rdStep; simp only; rw [if_neg (by omega), if_pos (by omega)]
        have HS1 := Lib.hid hs1
        have hol0 : 0 < out.length := H.out.2.2.2.2.2 (by omega)
        clear hs1 hk
        go_upto_region 9 with (fail)
        refine wp_abs (RwSt w w1.heap.size u5 out d s (pos + dw)) HST.out ?_
        clear hnx HST
        intro w2 h2
        have c0 : w2.cell? ⟨w.heap.size, 0, none⟩ = some (.int .i64 d.1) := h2.bd.cell 0
        have f0 : w2.frozen? ⟨w.heap.size, 0, none⟩ = false := h2.bd.frozen 0
        have H2 := Lib.hid h2
        clear h2
        go_upto_region 10 with (fail)
        refine wp_abs (RwSt w w1.heap.size u5 out ((r : Int) - 48, d.2.1, d.2.2) s (pos + dw)) (H2.out.setd 0 _ rfl) ?_
        clear c0 f0 H2
        intro w3 h3
        obtain ⟨g, cap, rfl, hcap⟩ := own_some h3.own hol0
        have c0 : w3.cell? ⟨w.heap.size, 0, none⟩ = some (.int .i64 ((r : Int) - 48)) := h3.bd.cell 0
        have c1 : w3.cell? ⟨w.heap.size, 1, none⟩ = some (.int .i64 d.2.1) := h3.bd.cell 1
        have c2 : w3.cell? ⟨w.heap.size, 2, none⟩ = some (.int .i64 d.2.2) := h3.bd.cell 2
        have H3 := Lib.hid h3
        clear h3
        obtain ⟨m, hm⟩ : ∃ m, out.length = m + 1 := ⟨out.length - 1, by omega⟩
        go_wp2_with fail
        refine (trA_any ((r : Int) - 48) d.2.1 d.2.2 _).mono ?_
        rintro e w4 ⟨rfl, hb⟩
        rw [trA_eq]
        have H4 := Lib.hid (show RwSt w w1.heap.size (.slice (some ⟨g, 0, none⟩) (m + 1) cap) out _ s (pos + dw) w4 from hm ▸ H3.out.on hb)
        clear hb H3 c0 c1 c2
        have ho4 : w4.ownsRow (w.heap.size + 2) 185 8 (.slice (some ⟨g, 0, none⟩) (m + 1) cap) (m + 1) (rws out) := by have := H4.out.own; rwa [hm] at this
        have x1 := own_at ho4 (i := m * 8 + 1) (by omega)
        have x2 := own_at ho4 (i := m * 8 + 2) (by omega)
        have x3 := own_at ho4 (i := m * 8 + 3) (by omega)
        have x4 := own_at ho4 (i := m * 8 + 4) (by omega)
        have x5 := own_at ho4 (i := m * 8 + 5) (by omega)
        have x6 := own_at ho4 (i := m * 8 + 6) (by omega)
        have x7 := own_at ho4 (i := m * 8 + 7) (by omega)
        clear ho4
        obtain ⟨⟨_, x1⟩, y1⟩ := x1
        obtain ⟨⟨_, x2⟩, y2⟩ := x2
        obtain ⟨⟨_, x3⟩, y3⟩ := x3
        obtain ⟨⟨_, x4⟩, y4⟩ := x4
        obtain ⟨⟨_, x5⟩, y5⟩ := x5
        obtain ⟨⟨_, x6⟩, y6⟩ := x6
        obtain ⟨⟨_, x7⟩, y7⟩ := x7
        go_wp2
        have HE := Lib.hid (H4.out.put (m := m) (n := m + 1) hm (by omega) (trA ((r : Int) - 48) d.2.1 d.2.2))
        clear x1 x2 x3 x4 x5 x6 x7 y1 y2 y3 y4 y5 y6 y7
        go_roundw
        case rel => exact ⟨_, _, k + 1, pos + dw, f', by go_num, Lib.hid ⟨HE.out, by rw [H.out.2.1, HF.out.2, List.foldl_cons, HS1.out, hm, Nat.add_sub_cancel], HF.out.1, by have := H.out.2.2.2.1; omega, by have := H.out.2.2.2.2.1; simp; omega, fun _ => by simp; try omega⟩⟩
        case measure => exact Nat.lt_of_le_of_lt (Nat.le_of_eq (congrArg (s.size - ·) (iterPos_of HE.out.it))) (by rw [iterPos_of H.out.1.it]; omega)
      · have hkm : (k : Int) % 4 = 2 := by omega
        have hs1 : (rdStep trA (out, d, k) r) = (out.set (out.length - 1) ((out.getD (out.length - 1) (0, tr0)).1, trA d.1 ((r : Int) - 48) d.2.2), (d.1, (r : Int) - 48, d.2.2), k + 1) := by unfold rdStep; simp only; rw [if_neg (by omega), if_neg (by omega), if_pos (by omega)]
        have HS1 := Lib.hid hs1
        have hol0 : 0 < out.length := H.out.2.2.2.2.2 (by omega)
        clear hs1 hk
        go_upto_region 9 with (fail)
        refine wp_abs (RwSt w w1.heap.size u5 out d s (pos + dw)) HST.out ?_
        clear hnx HST
        intro w2 h2
        have c0 : w2.cell? ⟨w.heap.size, 1, none⟩ = some (.int .i64 d.2.1) := h2.bd.cell 1
        have f0 : w2.frozen? ⟨w.heap.size, 1, none⟩ = false := h2.bd.frozen 1
        have H2 := Lib.hid h2
        clear h2
        go_upto_region 10 with (fail)
        refine wp_abs (RwSt w w1.heap.size u5 out (d.1, (r : Int) - 48, d.2.2) s (pos + dw)) (H2.out.setd 1 _ rfl) ?_
        clear c0 f0 H2
        intro w3 h3
        obtain ⟨g, cap, rfl, hcap⟩ := own_some h3.own hol0
        have c0 : w3.cell? ⟨w.heap.size, 0, none⟩ = some (.int .i64 d.1) := h3.bd.cell 0
        have c1 : w3.cell? ⟨w.heap.size, 1, none⟩ = some (.int .i64 ((r : Int) - 48)) := h3.bd.cell 1
        have c2 : w3.cell? ⟨w.heap.size, 2, none⟩ = some (.int .i64 d.2.2) := h3.bd.cell 2
        have H3 := Lib.hid h3
        clear h3
        obtain ⟨m, hm⟩ : ∃ m, out.length = m + 1 := ⟨out.length - 1, by omega⟩
        go_wp2_with fail
        refine (trA_any d.1 ((r : Int) - 48) d.2.2 _).mono ?_
        rintro e w4 ⟨rfl, hb⟩
        rw [trA_eq]
        have H4 := Lib.hid (show RwSt w w1.heap.size (.slice (some ⟨g, 0, none⟩) (m + 1) cap) out _ s (pos + dw) w4 from hm ▸ H3.out.on hb)
        clear hb H3 c0 c1 c2
        have ho4 : w4.ownsRow (w.heap.size + 2) 185 8 (.slice (some ⟨g, 0, none⟩) (m + 1) cap) (m + 1) (rws out) := by have := H4.out.own; rwa [hm] at this
        have x1 := own_at ho4 (i := m * 8 + 1) (by omega)
        have x2 := own_at ho4 (i := m * 8 + 2) (by omega)
        have x3 := own_at ho4 (i := m * 8 + 3) (by omega)
        have x4 := own_at ho4 (i := m * 8 + 4) (by omega)
        have x5 := own_at ho4 (i := m * 8 + 5) (by omega)
        have x6 := own_at ho4 (i := m * 8 + 6) (by omega)
        have x7 := own_at ho4 (i := m * 8 + 7) (by omega)
        clear ho4
        obtain ⟨⟨_, x1⟩, y1⟩ := x1
        obtain ⟨⟨_, x2⟩, y2⟩ := x2
        obtain ⟨⟨_, x3⟩, y3⟩ := x3
        obtain ⟨⟨_, x4⟩, y4⟩ := x4
        obtain ⟨⟨_, x5⟩, y5⟩ := x5
        obtain ⟨⟨_, x6⟩, y6⟩ := x6
        obtain ⟨⟨_, x7⟩, y7⟩ := x7
        go_wp2
        have HE := Lib.hid (H4.out.put (m := m) (n := m + 1) hm (by omega) (trA d.1 ((r : Int) - 48) d.2.2))
        clear x1 x2 x3 x4 x5 x6 x7 y1 y2 y3 y4 y5 y6 y7
        go_roundw
        case rel => exact ⟨_, _, k + 1, pos + dw, f', by go_num, Lib.hid ⟨HE.out, by rw [H.out.2.1, HF.out.2, List.foldl_cons, HS1.out, hm, Nat.add_sub_cancel], HF.out.1, by have := H.out.2.2.2.1; omega, by have := H.out.2.2.2.2.1; simp; omega, fun _ => by simp; try omega⟩⟩
        case measure => exact Nat.lt_of_le_of_lt (Nat.le_of_eq (congrArg (s.size - ·) (iterPos_of HE.out.it))) (by rw [iterPos_of H.out.1.it]; omega)
      · have hkm : (k : Int) % 4 = 3 := by omega
        have hs1 : (rdStep trA (out, d, k) r) = (out.set (out.length - 1) ((out.getD (out.length - 1) (0, tr0)).1, trA d.1 d.2.1 ((r : Int) - 48)), (d.1, d.2.1, (r : Int) - 48), k + 1) := by unfold rdStep; simp only; rw [if_neg (by omega), if_neg (by omega), if_neg (by omega)]
        have HS1 := Lib.hid hs1
        have hol0 : 0 < out.length := H.out.2.2.2.2.2 (by omega)
        clear hs1 hk
        go_upto_region 9 with (fail)
        refine wp_abs (RwSt w w1.heap.size u5 out d s (pos + dw)) HST.out ?_
        clear hnx HST
        intro w2 h2
        have c0 : w2.cell? ⟨w.heap.size, 2, none⟩ = some (.int .i64 d.2.2) := h2.bd.cell 2
        have f0 : w2.frozen? ⟨w.heap.size, 2, none⟩ = false := h2.bd.frozen 2
        have H2 := Lib.hid h2
        clear h2
        go_upto_region 10 with (fail)
        refine wp_abs (RwSt w w1.heap.size u5 out (d.1, d.2.1, (r : Int) - 48) s (pos + dw)) (H2.out.setd 2 _ rfl) ?_
        clear c0 f0 H2
        intro w3 h3
        obtain ⟨g, cap, rfl, hcap⟩ := own_some h3.own hol0
        have c0 : w3.cell? ⟨w.heap.size, 0, none⟩ = some (.int .i64 d.1) := h3.bd.cell 0
        have c1 : w3.cell? ⟨w.heap.size, 1, none⟩ = some (.int .i64 d.2.1) := h3.bd.cell 1
        have c2 : w3.cell? ⟨w.heap.size, 2, none⟩ = some (.int .i64 ((r : Int) - 48)) := h3.bd.cell 2
        have H3 := Lib.hid h3
        clear h3
        obtain ⟨m, hm⟩ : ∃ m, out.length = m + 1 := ⟨out.length - 1, by omega⟩
        go_wp2_with fail
        refine (trA_any d.1 d.2.1 ((r : Int) - 48) _).mono ?_
        rintro e w4 ⟨rfl, hb⟩
        rw [trA_eq]
        have H4 := Lib.hid (show RwSt w w1.heap.size (.slice (some ⟨g, 0, none⟩) (m + 1) cap) out _ s (pos + dw) w4 from hm ▸ H3.out.on hb)
        clear hb H3 c0 c1 c2
        have ho4 : w4.ownsRow (w.heap.size + 2) 185 8 (.slice (some ⟨g, 0, none⟩) (m + 1) cap) (m + 1) (rws out) := by have := H4.out.own; rwa [hm] at this
        have x1 := own_at ho4 (i := m * 8 + 1) (by omega)
        have x2 := own_at ho4 (i := m * 8 + 2) (by omega)
        have x3 := own_at ho4 (i := m * 8 + 3) (by omega)
        have x4 := own_at ho4 (i := m * 8 + 4) (by omega)
        have x5 := own_at ho4 (i := m * 8 + 5) (by omega)
        have x6 := own_at ho4 (i := m * 8 + 6) (by omega)
        have x7 := own_at ho4 (i := m * 8 + 7) (by omega)
        clear ho4
        obtain ⟨⟨_, x1⟩, y1⟩ := x1
        obtain ⟨⟨_, x2⟩, y2⟩ := x2
        obtain ⟨⟨_, x3⟩, y3⟩ := x3
        obtain ⟨⟨_, x4⟩, y4⟩ := x4
        obtain ⟨⟨_, x5⟩, y5⟩ := x5
        obtain ⟨⟨_, x6⟩, y6⟩ := x6
        obtain ⟨⟨_, x7⟩, y7⟩ := x7
        go_wp2
        have HE := Lib.hid (H4.out.put (m := m) (n := m + 1) hm (by omega) (trA d.1 d.2.1 ((r : Int) - 48)))
        clear x1 x2 x3 x4 x5 x6 x7 y1 y2 y3 y4 y5 y6 y7
        go_roundw
        case rel => exact ⟨_, _, k + 1, pos + dw, f', by go_num, Lib.hid ⟨HE.out, by rw [H.out.2.1, HF.out.2, List.foldl_cons, HS1.out, hm, Nat.add_sub_cancel], HF.out.1, by have := H.out.2.2.2.1; omega, by have := H.out.2.2.2.2.1; simp; omega, fun _ => by simp; try omega⟩⟩
        case measure => exact Nat.lt_of_le_of_lt (Nat.le_of_eq (congrArg (s.size - ·) (iterPos_of HE.out.it))) (by rw [iterPos_of H.out.1.it]; omega)
    · have hnx : ∀ ty, (Instr.next (.pointer (some ⟨w1.heap.size, 0, none⟩)) true ty).run Try.prog wr = _ := fun ty => Lib.run_next_end_at wr w1.heap.size s pos ty H.out.1.it hp
      go_wp2
      go_ret
      refine ⟨_, rfl, ?_, H.out.1.below⟩
      have : readRows trA s = out := by unfold readRows; rw [H.out.2.1, runesF_end s f pos hp]; rfl
      rw [this]
      exact own_more H.out.1.own (by omega)
end Go.Proofs.Ytogofchpocoebaa
