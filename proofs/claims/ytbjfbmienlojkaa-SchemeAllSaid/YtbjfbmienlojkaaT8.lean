import Derived.Test.YtbjfbmienlojkaaT7
namespace Go.Proofs.Ytbjfbmienlojkaa
open Go.RowKit

/-- what Read hands back -/
def ResPost (w0 : World) (top : Res) (e : Ending) (w' : World) : Prop :=
  Below w0.heap.size w0 w' ∧ match top with
    | .ok ls st => ∃ A1 C1 A2 C2, e = .returned (.tuple #[.agg #[.slice A1 ls.length C1, .slice A2 st.length C2], .agg #[.int .i64 0, .int .i64 0]]) ∧
        w'.ownsRow w0.heap.size 66 2 (.slice A1 ls.length C1) ls.length (prs ls) ∧ w'.ownsRow w0.heap.size 3 1 (.slice A2 st.length C2) st.length (st.map (Value.int .i64))
    | .bad er at_ => e = .returned (.tuple #[.agg #[.slice none 0 0, .slice none 0 0], .agg #[.int .i64 er, .int .i64 at_]])

set_option maxHeartbeats 1000000 in
set_option maxRecDepth 100000 in
theorem pass4 (w0 : World) (s : ByteArray) (top : Res) (m : Nat) (a : Act) (w : World) (h : J4 w0 s top m a w) :
    ∃ rest, findLabel scope15 4 = some rest ∧ rest.wp Try.prog (Exit.jumps (fun l' a' w' => ∃ m', m' < m ∧ JJ w0 s top l' m' a' w') (bodyPost Try.prog Try.f15 (ResPost w0 top))) a w := by
  refine ⟨_, rfl, ?_⟩
  obtain ⟨pos, n, ls, st, v1, v2, r, cls, e, spot, ⟨rest, hst⟩, ⟨sp, hsp, hm, ht⟩, hls, hstl, hn, hpos, f, rfl⟩ := h
  subst hsp
  have HM := Lib.hid hm
  have HT := Lib.hid ht
  clear hm ht
  have H := Lib.hid hst
  have b10 : w.cell? ⟨w0.heap.size + 1, 0, none⟩ = some (.slice none 0 0) := hst.b1.cell 0
  have b11 : w.cell? ⟨w0.heap.size + 1, 1, none⟩ = some (.slice none 0 0) := hst.b1.cell 1
  have b20 : w.cell? ⟨w0.heap.size + 1 + 1, 0, none⟩ = some (.int .i64 0) := hst.b2.cell 0
  have b21 : w.cell? ⟨w0.heap.size + 1 + 1, 1, none⟩ = some (.int .i64 0) := hst.b2.cell 1
  have f10 := hst.b1.frozen 0
  have f11 := hst.b1.frozen 1
  have f20 := hst.b2.frozen 0
  have f21 := hst.b2.frozen 1
  clear hst
  go_wp2
  simp only [Exit.jumps]
  refine bodyPost_ret (v := .tuple #[.agg #[.slice none 0 0, .slice none 0 0], .agg #[.int .i64 e, .int .i64 sp]]) (by simp [results, Try.results15, go_sem, b10, b11, b20, b21]) rfl ⟨?_, ?_⟩
  · exact (((H.out.below.setCell (by simp) _).setCell (by simp) _).setCell (by simp; omega) _).setCell (by simp; omega) _
  · rw [HT.out]

/-- memory at the end: the lists lie in s, the results' boxes are zero -/
structure FinSt (w0 : World) (v1 v2 : Value) (ls : List (Int × Int)) (st : List Int) (w : World) : Prop where
  b1 : Blk w (w0.heap.size + 1) 26 #[.slice none 0 0, .slice none 0 0]
  b2 : Blk w (w0.heap.size + 1 + 1) 29 #[.int .i64 0, .int .i64 0]
  b3 : Blk w (w0.heap.size + 1 + 1 + 1) 26 #[v1, v2]
  o1 : w.ownsRow (w0.heap.size + 6) 66 2 v1 ls.length (prs ls)
  o2 : w.ownsRow (w0.heap.size + 6) 3 1 v2 st.length (st.map (Value.int .i64))
  below : Below w0.heap.size w0 w
theorem St.fin {w0 : World} {s rest : ByteArray} {ls : List (Int × Int)} {st : List Int} {v1 v2 : Value} {r : Int} {w : World} (h : St w0 s rest ls st v1 v2 r w) : FinSt w0 v1 v2 ls st w := ⟨h.b1, h.b2, h.b3, h.o1, h.o2, h.below⟩

set_option maxHeartbeats 1000000 in
set_option maxRecDepth 100000 in
theorem pass2 (w0 : World) (s : ByteArray) (hs : s.size ≤ 65536) (top : Res) (m : Nat) (a : Act) (w : World) (h : J2 w0 s top m a w) :
    ∃ rest, findLabel scope15 2 = some rest ∧ rest.wp Try.prog (Exit.jumps (fun l' a' w' => ∃ m', m' < m ∧ JJ w0 s top l' m' a' w') (bodyPost Try.prog Try.f15 (ResPost w0 top))) a w := by
  refine ⟨_, rfl, ?_⟩
  obtain ⟨pos, n, ls, st, v1, v2, r, cls, e, spot, hst, ⟨he, hpe, hsp, hm, ht⟩, hls, hstl, hn, hpos, f, rfl⟩ := h
  subst hsp he
  have HM := Lib.hid hm
  have HT := Lib.hid ht
  clear hm ht
  have H := Lib.hid hst
  obtain ⟨A1, C1, rfl⟩ := own_slice hst.o1
  obtain ⟨A2, C2, rfl⟩ := own_slice hst.o2
  have d1 : w.cell? ⟨w0.heap.size + 1 + 1 + 1, 1, none⟩ = some (.slice A2 st.length C2) := hst.b3.cell 1
  have HPE := Lib.hid hpe
  clear hst hpe
  by_cases hn0 : 0 < n
  · have htop : top = .ok ls (st ++ [(n : Int)]) := by rw [HT.out]; simp only [rdF]; rw [if_pos hn0]
    have HT2 := Lib.hid htop
    clear htop
    have hinfo : (Try.prog.info? 3).map (fun i => (i.zero, i.size, i.bytes)) = some (some (.int .i64 0), 1, 8) := by kernel_rfl
    obtain ⟨i0, hi, hz0, hz1, hz2⟩ := info_parts hinfo
    clear hinfo
    go_wp2_with (at_builtin; refine wpList_append_own _ rfl _ _ 24 rfl (w0.heap.size + 6) 3 i0 (.int .i64 0) 1 8 Try.underlying24 hi hz0 hz1 hz2 rfl (by decide) _ _ _ rfl (H.out.o2.alloc _) ⟨w.heap.size, 0, none⟩ 1 1 [.int .i64 n] rfl rfl ?c1 ?c2 ?c3 ?c4 ?c5 ?_)
    case c1 =>
      intro j u hj
      match j, hj with
      | 0, hj => simp at hj; subst hj; simp [Addr.add]
    case c2 => intro u hu; simp at hu; subst hu; rfl
    case c3 => unfold maxLen; omega
    case c4 => omega
    case c5 => have := H.out.b5.lt; simp; omega
    · intro v' w4 hown' hgrow _
      have hrow : ∀ k, (Value.slice A2 st.length C2).ownBlock = some k → w0.heap.size + 6 ≤ k := fun k hk => (H.out.o2.lt k hk).1
      have hmid := H.out.mid _ hrow _ hgrow
      have g1 : w4.cell? ⟨w0.heap.size + 1 + 1 + 1, 1, none⟩ = some (.slice A2 st.length C2) := hmid.cell 1
      have g2 : w4.frozen? ⟨w0.heap.size + 1 + 1 + 1, 1, none⟩ = false := hmid.frozen 1
      have H4 := Lib.hid (H.out.put (ls' := ls) (st' := st ++ [(n : Int)]) _ hrow _ hgrow 1 v' rfl ((H.out.o1.alloc _).kept hgrow (own_ne H.out.o1 H.out.o2 (by decide))) (by simpa using hown')).fin
      obtain ⟨A3, C3, rfl⟩ := own_slice hown'
      clear hown' hgrow hmid hrow hi hz0 hz1 hz2
      go_wp2_with (refine list_abs (FinSt w0 _ _ _ _) H4.out ?_)
      intro w5 h5
      clear d1 g1 g2
      have b10 : w5.cell? ⟨w0.heap.size + 1, 0, none⟩ = some (.slice none 0 0) := h5.b1.cell 0
      have b11 : w5.cell? ⟨w0.heap.size + 1, 1, none⟩ = some (.slice none 0 0) := h5.b1.cell 1
      have b20 : w5.cell? ⟨w0.heap.size + 1 + 1, 0, none⟩ = some (.int .i64 0) := h5.b2.cell 0
      have b21 : w5.cell? ⟨w0.heap.size + 1 + 1, 1, none⟩ = some (.int .i64 0) := h5.b2.cell 1
      have b30 : w5.cell? ⟨w0.heap.size + 1 + 1 + 1, 0, none⟩ = some (.slice A1 ls.length C1) := h5.b3.cell 0
      have b31 : w5.cell? ⟨w0.heap.size + 1 + 1 + 1, 1, none⟩ = some (.slice A3 (st.length + 1) C3) := h5.b3.cell 1
      have f10 := h5.b1.frozen 0
      have f11 := h5.b1.frozen 1
      have f20 := h5.b2.frozen 0
      have f21 := h5.b2.frozen 1
      have H5 := Lib.hid h5
      clear h5 H4
      go_wp2
      simp only [Exit.jumps]
      refine bodyPost_ret (v := .tuple #[.agg #[.slice A1 ls.length C1, .slice A3 (st.length + 1) C3], .agg #[.int .i64 0, .int .i64 0]]) (by simp [results, Try.results15, go_sem, b10, b11, b20, b21]) rfl ⟨?_, ?_⟩
      · exact (((H5.out.below.setCell (by simp) _).setCell (by simp) _).setCell (by simp; omega) _).setCell (by simp; omega) _
      · rw [HT2.out]
        have e1 : (st ++ [(n : Int)]).length = st.length + 1 := by simp
        refine ⟨A1, C1, A3, C3, by rw [e1], ?_, ?_⟩
        · exact own_more (own_setCell (own_setCell (own_setCell (own_setCell H5.out.o1 (by simp) _) (by simp) _) (by simp) _) (by simp) _) (by omega)
        · have h2 := H5.out.o2
          rw [e1] at h2 ⊢
          exact own_more (own_setCell (own_setCell (own_setCell (own_setCell h2 (by simp) _) (by simp) _) (by simp) _) (by simp) _) (by omega)
  · have htop : top = .bad 160 pos := by rw [HT.out]; simp only [rdF]; rw [if_neg hn0]
    have HT2 := Lib.hid htop
    have b10 : w.cell? ⟨w0.heap.size + 1, 0, none⟩ = some (.slice none 0 0) := H.out.b1.cell 0
    have b11 : w.cell? ⟨w0.heap.size + 1, 1, none⟩ = some (.slice none 0 0) := H.out.b1.cell 1
    have b20 : w.cell? ⟨w0.heap.size + 1 + 1, 0, none⟩ = some (.int .i64 0) := H.out.b2.cell 0
    have b21 : w.cell? ⟨w0.heap.size + 1 + 1, 1, none⟩ = some (.int .i64 0) := H.out.b2.cell 1
    have f10 := H.out.b1.frozen 0
    have f11 := H.out.b1.frozen 1
    have f20 := H.out.b2.frozen 0
    have f21 := H.out.b2.frozen 1
    clear htop d1
    go_wp2
    go_step3
    go_wp2
    simp only [Exit.jumps]
    refine bodyPost_ret (v := .tuple #[.agg #[.slice none 0 0, .slice none 0 0], .agg #[.int .i64 160, .int .i64 pos]]) (by simp [results, Try.results15, go_sem, b10, b11, b20, b21]) rfl ⟨?_, ?_⟩
    · exact (((H.out.below.setCell (by simp) _).setCell (by simp) _).setCell (by simp; omega) _).setCell (by simp; omega) _
    · rw [HT2.out]

theorem use_line {b c : Code} (hb : findLabel scope15 1 = some (.seq .skip b)) (hc : findLabel scope15 1 = some (.seq .skip c)) : b = c := by
  rw [hb] at hc
  injection hc with hc
  injection hc

theorem at_line (w0 : World) (s : ByteArray) (hs : s.size ≤ 65536) (top : Res) (m1 : Nat) {c : Code} {a : Act} {w : World} {Q Q' : Exit → Act → World → Prop} (hJ : J1 w0 s top m1 a w)
    (hc : findLabel scope15 1 = some (.seq .skip c)) (hq : ∀ e a w, Exit.jumps (fun l' a' w' => ∃ m', m' < m1 ∧ JJ w0 s top l' m' a' w') Q e a w → Q' e a w) : c.wp Try.prog Q' a w := by
  obtain ⟨b, hb, hw⟩ := line_wp w0 s hs top Q _ _ _ hJ
  rw [← use_line hb hc]
  exact wp_mono hw hq

theorem pass1 (w0 : World) (s : ByteArray) (hs : s.size ≤ 65536) (top : Res) (Q : Exit → Act → World → Prop) (m : Nat) (a : Act) (w : World) (h : J1 w0 s top m a w) :
    ∃ rest, findLabel scope15 1 = some rest ∧ rest.wp Try.prog (Exit.jumps (fun l' a' w' => ∃ m', m' < m ∧ JJ w0 s top l' m' a' w') Q) a w := by
  obtain ⟨b, hb, hw⟩ := line_wp w0 s hs top Q m a w h
  exact ⟨_, hb, wp_seq (wp_skip hw)⟩

set_option maxHeartbeats 1000000 in
set_option maxRecDepth 100000 in
theorem pass0 (w0 : World) (s : ByteArray) (hs : s.size ≤ 65536) (top : Res) (Q : Exit → Act → World → Prop) (m : Nat) (a : Act) (w : World) (h : J0 w0 s top m a w) :
    ∃ rest, findLabel scope15 0 = some rest ∧ rest.wp Try.prog (Exit.jumps (fun l' a' w' => ∃ m', m' < m ∧ JJ w0 s top l' m' a' w') Q) a w := by
  refine ⟨_, rfl, ?_⟩
  obtain ⟨pos, n, ls, st, v1, v2, r, cls, e, spot, hst, ⟨he, hm, ht⟩, hls, hstl, hn, hpos, f, rfl⟩ := h
  subst he
  have HM := Lib.hid hm
  have HT := Lib.hid ht
  have H := Lib.hid hst
  clear hm ht hst
  go_wp2
  rename_i K hK
  refine wp_label ?_
  simp only [Exit.then]
  apply hK
  refine at_line (Q := Q) w0 s hs top (3 * (s.size - pos) + 1) ⟨pos, 0, ls, st, v1, v2, r, cls, 160, _, H.out, ⟨rfl, rfl, HT.out⟩, hls, hstl, by omega, hpos, ex_frame rfl⟩ rfl ?_
  intro e1 a1 w1 hq
  cases e1 with
  | goto l =>
    obtain ⟨m', hlt, hj⟩ := hq
    exact ⟨m', by rw [HM.out]; omega, hj⟩
  | _ => exact hq

theorem pass_any (w0 : World) (s : ByteArray) (hs : s.size ≤ 65536) (top : Res) (m l : Nat) (a : Act) (w : World) (h : JJ w0 s top l m a w) :
    ∃ rest, findLabel scope15 l = some rest ∧ rest.wp Try.prog (Exit.jumps (fun l' a' w' => ∃ m', m' < m ∧ JJ w0 s top l' m' a' w') (bodyPost Try.prog Try.f15 (ResPost w0 top))) a w := by
  match l, h with
  | 0, h => exact pass0 w0 s hs top _ m a w h
  | 1, h => exact pass1 w0 s hs top _ m a w h
  | 2, h => exact pass2 w0 s hs top m a w h
  | 3, h => exact great_wp w0 s hs top _ m a w h
  | 4, h => exact pass4 w0 s top m a w h

theorem st_init (w : World) (s : ByteArray) : St w s (s.extract 0 s.size) [] [] (.slice none 0 0) (.slice none 0 0) 32
    ((((((w.alloc (.cells #[.string s] 9)).alloc (.cells #[.slice none 0 0, .slice none 0 0] 26)).alloc (.cells #[.int .i64 0, .int .i64 0] 29)).alloc (.cells #[.slice none 0 0, .slice none 0 0] 26)).alloc (.cells #[.string s] 9)).alloc (.cells #[.int .i32 32] 21)) := by
  have he : s.extract 0 s.size = s := by simp
  rw [he]
  refine ⟨?_, ?_, ?_, ?_, ?_, ?_, World.ownsRow_nil _ _ _ _, World.ownsRow_nil _ _ _ _, ?_⟩
  · exact (((((Blk.new w _ _).alloc _).alloc _).alloc _).alloc _).alloc _
  · have := ((((Blk.new (w.alloc (.cells #[.string s] 9)) 26 #[.slice none 0 0, .slice none 0 0]).alloc (.cells #[.int .i64 0, .int .i64 0] 29)).alloc (.cells #[.slice none 0 0, .slice none 0 0] 26)).alloc (.cells #[.string s] 9)).alloc (.cells #[.int .i32 32] 21)
    simpa using this
  · have := (((Blk.new ((w.alloc (.cells #[.string s] 9)).alloc (.cells #[.slice none 0 0, .slice none 0 0] 26)) 29 #[.int .i64 0, .int .i64 0]).alloc (.cells #[.slice none 0 0, .slice none 0 0] 26)).alloc (.cells #[.string s] 9)).alloc (.cells #[.int .i32 32] 21)
    simpa using this
  · have := ((Blk.new (((w.alloc (.cells #[.string s] 9)).alloc (.cells #[.slice none 0 0, .slice none 0 0] 26)).alloc (.cells #[.int .i64 0, .int .i64 0] 29)) 26 #[.slice none 0 0, .slice none 0 0]).alloc (.cells #[.string s] 9)).alloc (.cells #[.int .i32 32] 21)
    simpa using this
  · have := (Blk.new ((((w.alloc (.cells #[.string s] 9)).alloc (.cells #[.slice none 0 0, .slice none 0 0] 26)).alloc (.cells #[.int .i64 0, .int .i64 0] 29)).alloc (.cells #[.slice none 0 0, .slice none 0 0] 26)) 9 #[.string s]).alloc (.cells #[.int .i32 32] 21)
    simpa using this
  · have := Blk.new (((((w.alloc (.cells #[.string s] 9)).alloc (.cells #[.slice none 0 0, .slice none 0 0] 26)).alloc (.cells #[.int .i64 0, .int .i64 0] 29)).alloc (.cells #[.slice none 0 0, .slice none 0 0] 26)).alloc (.cells #[.string s] 9)) 21 #[.int .i32 32]
    simpa using this
  · exact ((((((Below.refl _ _).alloc (Nat.le_refl _) _).alloc (by simp) _).alloc (by simp; omega) _).alloc (by simp; omega) _).alloc (by simp; omega) _).alloc (by simp; omega) _

set_option maxHeartbeats 1000000 in
set_option maxRecDepth 100000 in
/-- scheme.Read: every text. -/
theorem read_any (s : ByteArray) (w : World) (hm : s.size ≤ maxLen) : Calls Try.prog 15 #[.string s] w (ResPost w (readF s)) := by
  have hmf : ∀ (fn : Fn) (first cap : Array Value) (w : World), (Instr.makeFunc fn first cap).run Try.prog w = .ok (.func fn first cap) w := fun _ _ _ _ => rfl
  unfold maxLen at hm
  rcases Nat.lt_or_ge 65536 s.size with hbig | hs
  · have hr : readF s = .bad 3 65536 := by unfold readF; rw [if_pos hbig]
    have HR := Lib.hid hr
    clear hr
    go_enter Try.func15, Try.ntmps15
    go_wp2
    go_step3
    go_wp2
    simp only [Exit.noGoto]
    refine bodyPost_ret (v := .tuple #[.agg #[.slice none 0 0, .slice none 0 0], .agg #[.int .i64 3, .int .i64 65536]]) (by simp [results, Try.results15, go_sem]) rfl ⟨?_, ?_⟩
    · exact (((Below.refl _ _).alloc (Nat.le_refl _) _).alloc (by simp) _).alloc (by simp; omega) _
    · rw [HR.out]
  rcases Nat.eq_zero_or_pos s.size with h0 | h0
  · have hr : readF s = .ok [] [] := by unfold readF; rw [if_neg (by omega), if_pos h0]
    have HR := Lib.hid hr
    have hl := str_eq s h0
    clear hr
    have H0 := Lib.hid h0
    clear h0
    go_enter Try.func15, Try.ntmps15
    go_wp2
    go_step3
    go_wp2
    simp only [Exit.noGoto]
    refine bodyPost_ret (v := .tuple #[.agg #[.slice none 0 0, .slice none 0 0], .agg #[.int .i64 0, .int .i64 0]]) (by simp [results, Try.results15, go_sem]) rfl ⟨?_, ?_⟩
    · exact ((((((Below.refl _ _).alloc (Nat.le_refl _) _).alloc (by simp) _).alloc (by simp; omega) _).alloc (by simp; omega) _).alloc (by simp; omega) _).alloc (by simp; omega) _
    · rw [HR.out]
      exact ⟨none, 0, none, 0, rfl, World.ownsRow_nil _ _ _ _, World.ownsRow_nil _ _ _ _⟩
  · have hr : readF s = rdF (s.data.toList.drop 0) 0 0 [] [] := by unfold readF; rw [if_neg (by omega), if_neg (by omega)]; rfl
    have HR := Lib.hid hr
    have hl1 := (str_ne s h0).1
    have hl2 := (str_ne s h0).2
    clear hr
    go_enter Try.func15, Try.ntmps15
    go_wp2
    refine wp_scope_labels (JJ w s (readF s)) ?_ (fun m l a w' h => pass_any w s hs (readF s) m l a w' h)
    go_wp2
    go_step3
    go_wp2
    rename_i K hK
    refine wp_label ?_
    simp only [Exit.then]
    apply hK
    refine at_line (Q := bodyPost Try.prog Try.f15 (ResPost w (readF s))) w s hs (readF s) (3 * (s.size - 0) + 1) ⟨0, 0, [], [], .slice none 0 0, .slice none 0 0, 32, 0, 160, _, st_init w s, ⟨rfl, rfl, HR.out⟩, by simp, by simp, by omega, by omega, ex_frame rfl⟩ rfl ?_
    intro e1 a1 w1 hq
    cases e1 with
    | goto l =>
      obtain ⟨m', hlt, hj⟩ := hq
      exact ⟨m', hj⟩
    | _ => exact hq
end Go.Proofs.Ytbjfbmienlojkaa
