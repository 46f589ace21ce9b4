/- canticleref16.Read: it computes readF. -/
import Derived.Test.YtbjfbmienlojkaaT8
namespace Go.Proofs.Ytbjfbmienlojkaa
open Go.RowKit

set_option maxHeartbeats 400000 in
theorem wrong_any (e a : Int) (w : World) : Calls Try.prog 51 #[.int .i64 e, .int .i64 a] w fun en w' => en = .returned (.tuple #[.agg #[.slice none 0 0, .slice none 0 0], .agg #[.int .i64 e, .int .i64 a]]) ∧ Below w.heap.size w w' := by
  go_enter Try.func51, Try.ntmps51
  go_wp2
  refine bodyPost_ret (v := .tuple #[.agg #[.slice none 0 0, .slice none 0 0], .agg #[.int .i64 e, .int .i64 a]]) (by simp [results, Try.results51, go_sem]) rfl ⟨rfl, ?_⟩
  exact ((Below.refl _ _).alloc (Nat.le_refl _) _).alloc (by simp) _

/-- memory while the reference's Read runs -/
structure RSt (w0 : World) (ls : List (Int × Int)) (st : List Int) (v1 v2 : Value) (w : World) : Prop where
  b0 : Blk w w0.heap.size 26 #[.slice none 0 0, .slice none 0 0]
  b1 : Blk w (w0.heap.size + 1) 29 #[.int .i64 0, .int .i64 0]
  b2 : Blk w (w0.heap.size + 1 + 1) 26 #[v1, v2]
  o1 : w.ownsRow (w0.heap.size + 3) 66 2 v1 ls.length (prs ls)
  o2 : w.ownsRow (w0.heap.size + 3) 3 1 v2 st.length (st.map (Value.int .i64))
  below : Below w0.heap.size w0 w

theorem RSt.on {w0 : World} {ls : List (Int × Int)} {st : List Int} {v1 v2 : Value} {w w' : World} (h : RSt w0 ls st v1 v2 w) (hb : Below w.heap.size w w') : RSt w0 ls st v1 v2 w' := by
  have ho : Only (fun _ => False) w w' := Only.of_below hb _
  have hz := h.below.size
  exact ⟨h.b0.only ho (by simp), h.b1.only ho (by simp), h.b2.only ho (by simp), own_only h.o1 ho (by simp), own_only h.o2 ho (by simp), h.below.trans (hb.mono hz)⟩
theorem RSt.alloc {w0 : World} {ls : List (Int × Int)} {st : List Int} {v1 v2 : Value} {w : World} (h : RSt w0 ls st v1 v2 w) (o : Obj) : RSt w0 ls st v1 v2 (w.alloc o) := h.on ((Below.refl _ _).alloc (Nat.le_refl _) _)

/-- an append onto one of the two lists, and its store -/
theorem RSt.put {w0 : World} {ls ls' : List (Int × Int)} {st st' : List Int} {v1 v2 v1' v2' : Value} {w w4 : World} (h : RSt w0 ls st v1 v2 w)
    (row : Option Nat) (hrow : ∀ k, row = some k → w0.heap.size + 3 ≤ k) (o : Obj) (hgrow : (w.alloc o).grownBy w4 row) (i : Nat) (u : Value) (hcs : #[v1, v2].setIfInBounds i u = #[v1', v2'])
    (h1 : w4.ownsRow (w0.heap.size + 3) 66 2 v1' ls'.length (prs ls')) (h2 : w4.ownsRow (w0.heap.size + 3) 3 1 v2' st'.length (st'.map (Value.int .i64))) :
    RSt w0 ls' st' v1' v2' (w4.setCell ⟨w0.heap.size + 1 + 1, i, none⟩ u) := by
  have hs := h.b2.lt
  have ho : Only (fun k => w0.heap.size + 3 ≤ k) w w4 := ((Only.refl _ w).alloc o).grown hgrow (fun k hk => .inl (hrow k hk))
  have hne : ∀ k, k < w0.heap.size + 3 → ¬ (fun k => w0.heap.size + 3 ≤ k) k := fun k hk => by simp; omega
  refine ⟨(h.b0.only ho (hne _ (by omega))).far (by simp; omega) _, (h.b1.only ho (hne _ (by omega))).far (by simp) _, ?_, own_setCell h1 (by simp) _, own_setCell h2 (by simp) _,
    (h.below.trans (ho.below (by have := h.below.size; omega) (by intro k hk; simp; omega))).setCell (by simp; omega) _⟩
  have := (h.b2.only ho (hne _ (by omega))).set_ i u
  rw [hcs] at this
  exact this
theorem RSt.mid {w0 : World} {ls : List (Int × Int)} {st : List Int} {v1 v2 : Value} {w w4 : World} (h : RSt w0 ls st v1 v2 w)
    (row : Option Nat) (hrow : ∀ k, row = some k → w0.heap.size + 3 ≤ k) (o : Obj) (hgrow : (w.alloc o).grownBy w4 row) : Blk w4 (w0.heap.size + 1 + 1) 26 #[v1, v2] := by
  have hs := h.b2.lt
  have ho : Only (fun k => w0.heap.size + 3 ≤ k) w w4 := ((Only.refl _ w).alloc o).grown hgrow (fun k hk => .inl (hrow k hk))
  exact h.b2.only ho (by simp)

/-- the last class that the loop over the letters finds -/
def clsF : List UInt8 → Int → UInt8 → Int → Int
  | [], _, _, cur => cur
  | c :: t, k, x, cur => clsF t (k + 1) x (if c = x then k else cur)
def smallC (c : UInt8) : UInt8 := if 65 ≤ c ∧ c ≤ 90 then c - 65 + 97 else c
def refCls (c : UInt8) : Int := clsF lettersB.data.toList 0 (smallC c) (if c = 120 then -1 else -2)
def isUp (c : UInt8) : Bool := decide (65 ≤ c ∧ c ≤ 90)
theorem refCls_small : ∀ n : Fin 256, ((UInt8.ofNat n.val).toNat = 120 ∨ 0 ≤ smallOf (UInt8.ofNat n.val).toNat) → refCls (UInt8.ofNat n.val) = smallOf (UInt8.ofNat n.val).toNat ∧ isUp (UInt8.ofNat n.val) = false := by decide +kernel
theorem refCls_great : ∀ n : Fin 256, ¬ ((UInt8.ofNat n.val).toNat = 120 ∨ 0 ≤ smallOf (UInt8.ofNat n.val).toNat) → 0 ≤ greatOf (UInt8.ofNat n.val).toNat → refCls (UInt8.ofNat n.val) = greatOf (UInt8.ofNat n.val).toNat ∧ isUp (UInt8.ofNat n.val) = true := by decide +kernel
theorem refCls_none : ∀ n : Fin 256, ¬ ((UInt8.ofNat n.val).toNat = 120 ∨ 0 ≤ smallOf (UInt8.ofNat n.val).toNat) → ¬ 0 ≤ greatOf (UInt8.ofNat n.val).toNat → refCls (UInt8.ofNat n.val) = -2 := by decide +kernel
theorem refCls_ge : ∀ n : Fin 256, -2 ≤ refCls (UInt8.ofNat n.val) ∧ refCls (UInt8.ofNat n.val) ≤ 25 ∧ (refCls (UInt8.ofNat n.val) = -2 → ¬ ((UInt8.ofNat n.val).toNat = 120 ∨ 0 ≤ smallOf (UInt8.ofNat n.val).toNat) ∧ ¬ 0 ≤ greatOf (UInt8.ofNat n.val).toNat) := by decide +kernel
theorem fin_u8 {p : UInt8 → Prop} (h : ∀ n : Fin 256, p (UInt8.ofNat n.val)) (c : UInt8) : p c := by
  have := h ⟨c.toNat, c.toNat_lt⟩
  simpa using this
theorem rst_init (w : World) : RSt w [] [] (.slice none 0 0) (.slice none 0 0) (((w.alloc (.cells #[.slice none 0 0, .slice none 0 0] 26)).alloc (.cells #[.int .i64 0, .int .i64 0] 29)).alloc (.cells #[.slice none 0 0, .slice none 0 0] 26)) := by
  refine ⟨((Blk.new w _ _).alloc _).alloc _, ?_, ?_, World.ownsRow_nil _ _ _ _, World.ownsRow_nil _ _ _ _, (((Below.refl _ _).alloc (Nat.le_refl _) _).alloc (by simp) _).alloc (by simp; omega) _⟩
  · simpa using (Blk.new (w.alloc (.cells #[.slice none 0 0, .slice none 0 0] 26)) 29 #[.int .i64 0, .int .i64 0]).alloc (.cells #[.slice none 0 0, .slice none 0 0] 26)
  · simpa using Blk.new ((w.alloc (.cells #[.slice none 0 0, .slice none 0 0] 26)).alloc (.cells #[.int .i64 0, .int .i64 0] 29)) 26 #[.slice none 0 0, .slice none 0 0]

/-- a store into an owned row of one-cell elements -/
theorem own_put {w : World} {base : Nat} {e : TypeId} {g c n i : Nat} {xs : List Value} (h : w.ownsRow base e 1 (.slice (some ⟨g, 0, none⟩) n c) n xs) (hi : i < n) (u : Value) : (w.setCell ⟨g, i, none⟩ u).ownsRow base e 1 (.slice (some ⟨g, 0, none⟩) n c) n (xs.set i u) := by
  refine ⟨by simpa using h.1, .inr ?_⟩
  rcases h.2 with ⟨h0, _⟩ | ⟨g', cap, cur, hv, hb, hg, hnc, hcm, hcs, htk⟩
  · cases h0
  · injection hv with hv1 hv2 hv3
    injection hv1 with hv1
    injection hv1 with hv1
    subst hv1 hv3
    refine ⟨g, c, cur.setIfInBounds i u, rfl, hb, heap_setCell_same w g i cur e u hg, hnc, hcm, by simpa using hcs, ?_⟩
    rw [Array.toList_setIfInBounds, List.take_set, htk]


theorem run_index_at (s : ByteArray) (i : Nat) (p : UInt8) (h : s.data.toList[i]? = some p) (z : Int) (hz : z = i) (w : World) : (Instr.index 9 (.string s) (.int .i64 z)).run Try.prog w = .ok (.int .u8 p.toNat) w := by
  subst hz
  have h' : s[i]? = some p := by
    rw [Array.getElem?_toList] at h
    rw [Array.getElem?_eq_some_iff] at h
    obtain ⟨hi, hh⟩ := h
    have hi' : i < s.size := hi
    rw [getElem?_pos s i hi']
    exact congrArg some hh
  simp [Instr.index, run_underlying Try.underlying9, asIntOf, go_sem, h']

theorem cls_ge (c : UInt8) : -2 ≤ refCls c ∧ refCls c ≤ 25 ∧ (refCls c = -2 → ¬ (c.toNat = 120 ∨ 0 ≤ smallOf c.toNat) ∧ ¬ 0 ≤ greatOf c.toNat) :=
  fin_u8 (p := fun c => -2 ≤ refCls c ∧ refCls c ≤ 25 ∧ (refCls c = -2 → ¬ (c.toNat = 120 ∨ 0 ≤ smallOf c.toNat) ∧ ¬ 0 ≤ greatOf c.toNat)) refCls_ge c
theorem cls_none (c : UInt8) : ¬ (c.toNat = 120 ∨ 0 ≤ smallOf c.toNat) → ¬ 0 ≤ greatOf c.toNat → refCls c = -2 :=
  fin_u8 (p := fun c => ¬ (c.toNat = 120 ∨ 0 ≤ smallOf c.toNat) → ¬ 0 ≤ greatOf c.toNat → refCls c = -2) refCls_none c
theorem cls_small (c : UInt8) : (c.toNat = 120 ∨ 0 ≤ smallOf c.toNat) → refCls c = smallOf c.toNat ∧ isUp c = false :=
  fin_u8 (p := fun c => (c.toNat = 120 ∨ 0 ≤ smallOf c.toNat) → refCls c = smallOf c.toNat ∧ isUp c = false) refCls_small c
theorem cls_great (c : UInt8) : ¬ (c.toNat = 120 ∨ 0 ≤ smallOf c.toNat) → 0 ≤ greatOf c.toNat → refCls c = greatOf c.toNat ∧ isUp c = true :=
  fin_u8 (p := fun c => ¬ (c.toNat = 120 ∨ 0 ≤ smallOf c.toNat) → 0 ≤ greatOf c.toNat → refCls c = greatOf c.toNat ∧ isUp c = true) refCls_great c
theorem some_slice {w0 : World} {ls : List (Int × Int)} {st : List Int} {n : Int} {v1 v2 : Value} {w : World} (h : RSt w0 ls (st ++ [n]) v1 v2 w) : ∃ g C, RSt w0 ls (st ++ [n]) v1 (.slice (some ⟨g, 0, none⟩) (st.length + 1) C) w := by
  have h2 := h.o2
  have hl : (st ++ [n]).length = st.length + 1 := by simp
  rw [hl] at h2
  rcases h2.2 with ⟨_, h0⟩ | ⟨g, cap, cur, hv, _⟩
  · omega
  · subst hv
    exact ⟨g, cap, h⟩
theorem last_cell {w : World} {base g m C : Nat} {st : List Int} {n : Int} (h : w.ownsRow base 3 1 (.slice (some ⟨g, 0, none⟩) m C) (st ++ [n]).length ((st ++ [n]).map (Value.int .i64))) :
    w.cell? ⟨g, st.length, none⟩ = some (.int .i64 n) ∧ w.frozen? ⟨g, st.length, none⟩ = false := by
  constructor
  · have := h.cells (g := g) rfl st.length (.int .i64 n) (by simp)
    have hadd : (⟨g, 0, none⟩ : Addr).add st.length = ⟨g, st.length, none⟩ := by unfold Addr.add; split <;> simp_all
    rw [hadd] at this
    exact this
  · rcases h.2 with ⟨h0, _⟩ | ⟨g', cap, cur, hv, _, hg, _⟩
    · cases h0
    · injection hv with hv1
      injection hv1 with hv1
      injection hv1 with hv1
      subst hv1
      exact (show Blk w g 3 cur from hg).frozen _
theorem RSt.bump {w0 : World} {ls : List (Int × Int)} {st : List Int} {n : Int} {v1 : Value} {g C : Nat} {w : World} (h : RSt w0 ls (st ++ [n]) v1 (.slice (some ⟨g, 0, none⟩) (st.length + 1) C) w) (m : Int) :
    RSt w0 ls (st ++ [m]) v1 (.slice (some ⟨g, 0, none⟩) (st.length + 1) C) (w.setCell ⟨g, st.length, none⟩ (.int .i64 m)) := by
  have hl : ∀ m : Int, (st ++ [m]).length = st.length + 1 := fun m => by simp
  have h2 := h.o2
  have hg : w0.heap.size + 3 ≤ g := (h2.lt g rfl).1
  have hp := own_put (i := st.length) (by rw [hl] at h2; exact h2) (by omega) (.int .i64 m)
  refine ⟨h.b0.far (by simp; omega) _, h.b1.far (by simp; omega) _, h.b2.far (by simp; omega) _, ?_, ?_, h.below.setCell (by simp; omega) _⟩
  · have hne : ∀ k, v1.ownBlock = some k → k ≠ g := by
      intro k hk hkg
      rcases own_ne h.o1 h.o2 (by decide) with h0 | h0
      · rw [h0] at hk; cases hk
      · exact h0 (by rw [hk, hkg]; rfl)
    exact own_only (S := fun k => k = g) h.o1 (Only.setCell (S := fun k => k = g) (p := ⟨g, st.length, none⟩) (Only.refl _ w) (.inl rfl) _) (fun k _ _ hk hkg => hne k hk hkg)
  · rw [hl]
    have he : ((st ++ [n]).map (Value.int .i64)).set st.length (.int .i64 m) = (st ++ [m]).map (Value.int .i64) := by
      simp [List.map_append, List.set_append]
    rw [he] at hp
    exact hp
theorem smallC_up (c : UInt8) (h1 : 65 ≤ c.toNat) (h2 : c.toNat ≤ 90) : ((smallC c).toNat : Int) = (c.toNat : Int) - 65 + 97 := by
  have key : ∀ n : Fin 256, 65 ≤ (UInt8.ofNat n.val).toNat → (UInt8.ofNat n.val).toNat ≤ 90 → ((smallC (UInt8.ofNat n.val)).toNat : Int) = ((UInt8.ofNat n.val).toNat : Int) - 65 + 97 := by decide +kernel
  exact fin_u8 (p := fun c => 65 ≤ c.toNat → c.toNat ≤ 90 → ((smallC c).toNat : Int) = (c.toNat : Int) - 65 + 97) key c h1 h2
theorem smallC_not (c : UInt8) (h : ¬ (65 ≤ c.toNat ∧ c.toNat ≤ 90)) : smallC c = c := by
  unfold smallC
  rw [if_neg (by simp only [UInt8.le_iff_toNat_le]; exact h)]
theorem isUp_of (c : UInt8) (h1 : 65 ≤ c.toNat) (h2 : c.toNat ≤ 90) : isUp c = true := by
  unfold isUp
  rw [decide_eq_true (by simp only [UInt8.le_iff_toNat_le]; exact ⟨h1, h2⟩)]
theorem isUp_not (c : UInt8) (h : ¬ (65 ≤ c.toNat ∧ c.toNat ≤ 90)) : isUp c = false := by
  unfold isUp
  rw [decide_eq_false (by simp only [UInt8.le_iff_toNat_le]; exact h)]
end Go.Proofs.Ytbjfbmienlojkaa
