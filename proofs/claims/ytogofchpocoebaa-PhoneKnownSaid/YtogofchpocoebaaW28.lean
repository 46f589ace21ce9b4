/- The closure of SyllableKnown: a text's runes as phones. -/
import Derived.Test.YtogofchpocoebaaW14
import Derived.Test.YtogofchpocoebaaW7
import Derived.Deep.DeepMust
namespace Go.Proofs.Ytogofchpocoebaa
open Go.RowKit Go.Maps

/-- the runes of a text from a place on, as phones -/
def rwGo (s : ByteArray) : Nat → Nat → List Ph
  | 0, _ => []
  | f + 1, a => if a < s.size then (((Utf8.decode s a).1 : Int), false, 0) :: rwGo s f (a + (Utf8.decode s a).2) else []
def rwF (s : ByteArray) : List Ph := rwGo s (s.size + 1) 0
theorem rw_done {s : ByteArray} {f p : Nat} (h : ¬ p < s.size) : rwGo s f p = [] := by
  cases f with
  | zero => rfl
  | succ f => show (if p < s.size then _ else _) = _; rw [if_neg h]
theorem rw_more {s : ByteArray} {f p : Nat} (h : p < s.size) : rwGo s (f + 1) p = (((Utf8.decode s p).1 : Int), false, 0) :: rwGo s f (p + (Utf8.decode s p).2) := by
  show (if p < s.size then _ else _) = _
  rw [if_pos h]
/-- memory while it runs -/
structure RpSt (w0 : World) (ib : Nat) (v : Value) (out : List Ph) (s : ByteArray) (pos : Nat) (W : World) : Prop where
  it : W.heap[ib]? = some (.stringIter s pos)
  own : W.ownsRow w0.heap.size 43 3 v out.length (phs out)
  below : Below w0.heap.size w0 W
  ilo : w0.heap.size ≤ ib
theorem RpSt.next {w0 : World} {ib : Nat} {v : Value} {out : List Ph} {s : ByteArray} {pos : Nat} {W : World} (h : RpSt w0 ib v out s pos W) (pos' : Nat) : RpSt w0 ib v out s pos' (W.iterAt ib s pos') :=
  ⟨Lib.iterAt_heap _ _ _ _ _ h.it, own_iterAt h.own h.it _, h.below.trans ((Only.iterAt (S := fun k => k = ib) (Only.refl _ W) (.inl rfl) s pos').below h.below.size (fun k hk e => by have := h.ilo; omega)), h.ilo⟩
theorem RpSt.on {w0 : World} {ib : Nat} {v : Value} {out : List Ph} {s : ByteArray} {pos : Nat} {W W' : World} (h : RpSt w0 ib v out s pos W) (hb : Below W.heap.size W W') : RpSt w0 ib v out s pos W' :=
  ⟨(hb.block ib (Array.getElem?_eq_some_iff.1 h.it).1).trans h.it, own_stay h.own (Only.of_below hb _), h.below.trans (hb.mono h.below.size), h.ilo⟩
theorem RpSt.app {w0 : World} {ib m : Nat} {v v' : Value} {out : List Ph} {s : ByteArray} {pos : Nat} {W W' : World} (h : RpSt w0 ib v out s pos W) (hm : out.length = m) (y : Ph) (ho : W'.ownsRow w0.heap.size 43 3 v' (m + 1) (phs out ++ phC y)) (hg : W.grownBy W' v.ownBlock) : RpSt w0 ib v' (out ++ [y]) s pos W' := by
  subst hm
  have hO : Only (fun k => v.ownBlock = some k) W W' := (Only.refl _ _).grown hg (fun _ hg => .inl hg)
  refine ⟨(hO.block ib (Array.getElem?_eq_some_iff.1 h.it).1 (fun hs => iter_own h.own h.it hs)).trans h.it, ?_, h.below.trans (hO.below h.below.size fun k hk hs => by have := (h.own.lt _ hs).1; omega), h.ilo⟩
  rw [phs_append, List.length_append]
  simpa [phs] using ho

set_option maxHeartbeats 8000000 in
set_option maxRecDepth 100000 in
theorem row_any (s : ByteArray) (w : World) (hz : s.size ≤ 1000) : Calls Try.prog 89 #[.string s] w fun e w' => ∃ v, e = .returned v ∧ w'.ownsRow w.heap.size 43 3 v (rwF s).length (phs (rwF s)) ∧ Below w.heap.size w w' := by
  obtain ⟨i0, hi, hz0, hz1, hz2⟩ := info_parts info43a
  have HI := Lib.hid (And.intro hi (And.intro hz0 (And.intro hz1 hz2)))
  clear hi hz0 hz1 hz2
  obtain ⟨T, hT⟩ : ∃ T, rwF s = T := ⟨_, rfl⟩
  rw [hT]
  have HT := Lib.hid (show rwGo s (s.size + 1) 0 = T from hT)
  clear hT
  go_enter Try.func89, Try.ntmps89
  go_wp2
  go_loopw [3, 5] (fun v3 _ wr => ∃ (out : List Ph) (pos f : Nat), out.length ≤ pos ∧ Hid (out ++ rwGo s f pos = T ∧ s.size - pos < f) ∧ Hid (RpSt w w.heap.size v3 out s pos wr)) (fun _ _ w' => s.size - w'.iterPos w.heap.size)
  case atStart => exact ⟨[], 0, s.size + 1, Nat.le_refl _, Lib.hid ⟨by rw [← HT.out]; rfl, by omega⟩, Lib.hid ⟨World.iter_heap _ _ _, World.ownsRow_nil _ _ _ _, iter_below _ _ _, Nat.le_refl _⟩⟩
  case round =>
    obtain ⟨out, pos, f, hle, HQ, HR⟩ := hrel
    obtain ⟨A3, c3, e3⟩ := own_slice HR.out.own
    subst e3
    by_cases hp : pos < s.size
    · have hnx : ∀ ty, (Instr.next (.pointer (some ⟨w.heap.size, 0, none⟩)) true ty).run Try.prog wr = _ := fun ty => Lib.run_next_any_at wr w.heap.size s pos ty HR.out.it hp
      obtain ⟨g, rfl⟩ : ∃ g, f = g + 1 := ⟨f - 1, by have := HQ.out.2; omega⟩
      have hst := rw_more (s := s) (f := g) hp
      have hw1 := width_pos s pos hp
      have hnn := HR.out.next (pos + (Utf8.decode s pos).2)
      generalize hdr : (Utf8.decode s pos).1 = r at *
      generalize hdw : (Utf8.decode s pos).2 = dw at *
      have HST := Lib.hid hst
      have HN := Lib.hid hnn
      clear hst hdr hdw hnn
      have hsz := HR.out.below.size
      have hib := (Array.getElem?_eq_some_iff.1 HR.out.it).1
      go_upto_region 5 with (fail)
      refine wp_abs (RpSt w w.heap.size (.slice A3 out.length c3) out s (pos + dw)) HN.out ?_
      clear hnx HN
      intro w2 h2
      have hsz2 := h2.below.size
      have H2 := Lib.hid h2
      clear h2
      go_wp2_with (at_builtin; go_must (refine wpList_append_rd _ rfl _ _ 22 rfl w.heap.size 43 i0 (.agg #[.int .i32 0, .bool false, .int .i32 0]) 3 12 Try.underlying22 HI.out.1 HI.out.2.1 HI.out.2.2.1 HI.out.2.2.2 rfl (by decide) _ _ _ rfl (H2.out.own.alloc _) _ _ _ 1 1 _ rfl (rd_new_eq rfl rfl) (by simp [Value.oneCell']) (by unfold maxLen; omega) (by omega) (by simp; omega) ?_; intro v9 w9 _ hown hgrow _; have HE := Lib.hid ((H2.out.on ((Below.refl _ _).alloc (Nat.le_refl _) _)).app rfl (((r : Nat) : Int), false, 0) hown hgrow); clear hown hgrow))
      go_roundw
      case rel => exact ⟨out ++ [(((r : Nat) : Int), false, 0)], pos + dw, g, by simp; omega, Lib.hid ⟨by have h1 := HQ.out.1; rw [HST.out] at h1; rw [← h1]; simp, by have := HQ.out.2; omega⟩, HE⟩
      case measure => exact Nat.lt_of_le_of_lt (Nat.le_of_eq (congrArg (s.size - ·) (iterPos_of HE.out.it))) (by rw [iterPos_of HR.out.it]; omega)
    · have hnx : ∀ ty, (Instr.next (.pointer (some ⟨w.heap.size, 0, none⟩)) true ty).run Try.prog wr = _ := fun ty => Lib.run_next_end_at wr w.heap.size s pos ty HR.out.it hp
      have HO := Lib.hid (show out = T by have := HQ.out.1; rw [rw_done hp, List.append_nil] at this; exact this)
      go_wp2
      go_ret
      exact ⟨_, rfl, by rw [← HO.out]; exact HR.out.own, HR.out.below⟩
end Go.Proofs.Ytogofchpocoebaa
