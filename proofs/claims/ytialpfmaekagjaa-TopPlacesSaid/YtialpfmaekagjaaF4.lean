/- fold.units: a text's units where each piece is a letter of the fixed text. -/
import Derived.Test.YtialpfmaekagjaaF3
import Derived.Maps.OwnIn
import Derived.OwnWalkIn
import Derived.LoopIn
namespace Go.Proofs.Ytialpfmaekagjaa
open Go.RowKit Go.Maps Go.WideMaps
attribute [local go_sem] Oper.semAt_some

def okU (p : Pc) : Bool := !p.2.2.2 && freeR.contains p.2.2.1
def fuC (p : Pc) : List Value := [.int .i64 p.1, .int .u8 0, .int .i32 p.2.2.1, .slice none 0 0, .slice none 0 0]
def fuCs (l : List Pc) : List Value := l.flatMap fuC
theorem fuCs_len (l : List Pc) : (fuCs l).length = l.length * 5 := by
  induction l with
  | nil => rfl
  | cons a l ih => simp only [fuCs, List.flatMap_cons, List.length_append, List.length_cons] at ih ⊢; rw [ih]; simp [fuC]; omega
theorem fuCs_at (l : List Pc) (k : Nat) (h : k < l.length) (j : Nat) (hj : j < 5) : (fuCs l)[k * 5 + j]? = (fuC l[k])[j]? := by
  induction l generalizing k with
  | nil => simp at h
  | cons a l ih =>
    rcases k with _ | k
    · simp only [fuCs, List.flatMap_cons, List.getElem_cons_zero, Nat.zero_mul, Nat.zero_add]
      exact List.getElem?_append_left (by simp [fuC]; omega)
    · have := ih k (by simpa using h)
      simp only [fuCs, List.flatMap_cons, List.getElem_cons_succ] at this ⊢
      rw [← this, List.getElem?_append_right (by simp [fuC]; omega)]
      congr 1
      simp [fuC]
      omega
theorem fuCs_append (l : List Pc) (p : Pc) : fuCs (l ++ [p]) = fuCs l ++ fuC p := by simp [fuCs]
theorem info99 : (Try.prog.info? 99).map (fun i => (i.zero, i.size, i.bytes)) = some (some (.agg #[.int .i64 0, .int .u8 0, .int .i32 0, .slice none 0 0, .slice none 0 0]), 5, 64) := by kernel_rfl

/-- memory while units runs -/
structure FuSt (w0 : World) (T mb : Nat) (sm : Lit → Option Value) (k : Nat) (s : ByteArray) (d : List Pc) (S : Nat → Prop) (W : World) : Prop where
  bs : Blk W w0.heap.size 9 #[.string s]
  b4 : Blk W T 101 #[.map (some mb)]
  b5 : ∃ X C, Blk W (T + 1) 75 #[.slice X d.length C] ∧ W.ownsRow (T + 3) 99 5 (.slice X d.length C) d.length (fuCs d) ∧ (∀ g, (Value.slice X d.length C).ownBlock = some g → S g)
  bp : Blk W (T + 2) 9 #[.string s]
  mp : MapV Try.prog W 21 mb sm k
  below : Below w0.heap.size w0 W
  lt : w0.heap.size < T
  lm : w0.heap.size < mb ∧ mb < T
theorem FuSt.only {w0 W W' : World} {T mb k : Nat} {sm : Lit → Option Value} {s : ByteArray} {d : List Pc} {S S1 : Nat → Prop} (h : FuSt w0 T mb sm k s d S W) (ho : Only S1 W W') (hS : ∀ b, S1 b → T + 3 ≤ b ∧ ¬ S b) : FuSt w0 T mb sm k s d S W' := by
  obtain ⟨X, C, h1, h2, h3⟩ := h.b5
  have l1 := h.lt
  have l2 := h.lm
  exact ⟨h.bs.only ho (fun hs => by have := hS _ hs; omega), h.b4.only ho (fun hs => by have := hS _ hs; omega), ⟨X, C, h1.only ho (fun hs => by have := hS _ hs; omega), own_only h2 ho (fun g _ _ hg hs => (hS g hs).2 (h3 g hg)), h3⟩, h.bp.only ho (fun hs => by have := hS _ hs; omega), h.mp.only ho (fun hs => by have := hS _ hs; omega), h.below.trans (ho.below h.below.size (fun b hb hs => by have := hS _ hs; omega)), l1, l2⟩
theorem FuSt.on {w0 W W' : World} {T mb k : Nat} {sm : Lit → Option Value} {s : ByteArray} {d : List Pc} {S : Nat → Prop} (h : FuSt w0 T mb sm k s d S W) (hb : Below W.heap.size W W') : FuSt w0 T mb sm k s d S W' :=
  h.only (S1 := fun _ => False) (Only.of_below hb _) (fun _ h => h.elim)

theorem rd_new (w : World) (t : TypeId) (cs : Array Value) (sz : Nat) (h : cs.size = sz) : Rd (w.alloc (.cells cs t)) w.heap.size (w.heap.size + 1) sz (some ⟨w.heap.size, 0, none⟩) 1 cs.toList := by
  refine ⟨by simp [h], fun _ => ⟨w.heap.size, 0, rfl, Nat.le_refl _, Nat.lt_succ_self _, fun j x hu => ?_⟩⟩
  rw [Nat.zero_add, (Blk.new w t cs).cell]
  simpa using hu
theorem FuSt.step {w0 w7 w8 : World} {T mb k : Nat} {sm : Lit → Option Value} {s : ByteArray} {d : List Pc} {S S' : Nat → Prop} {p : Pc} {v' : Value} (h : FuSt w0 T mb sm k s d S w7) (ho : Only S w7 w8) (hSb : ∀ b, S b → T + 3 ≤ b)
    (hown : w8.ownsRow (T + 3) 99 5 v' (d.length + 1) (fuCs d ++ fuC p)) (hS' : ∀ g, v'.ownBlock = some g → S' g) :
    FuSt w0 T mb sm k s (d ++ [p]) S' (w8.setCell ⟨T + 1, 0, none⟩ v') ∧ Blk w8 (T + 1) 75 #[.slice (Classical.choose h.b5) d.length (Classical.choose (Classical.choose_spec h.b5))] := by
  have hspec := Classical.choose_spec (Classical.choose_spec h.b5)
  have l1 := h.lt
  have l2 := h.lm
  have hb5 := hspec.1.only ho (fun hs => by have := hSb _ hs; omega)
  refine ⟨?_, hb5⟩
  obtain ⟨X', C', e⟩ := own_slice hown
  subst e
  refine ⟨(h.bs.only ho (fun hs => by have := hSb _ hs; omega)).far (by simp; omega) _, (h.b4.only ho (fun hs => by have := hSb _ hs; omega)).far (by simp) _, ⟨X', C', ?_, ?_, ?_⟩, (h.bp.only ho (fun hs => by have := hSb _ hs; omega)).far (by simp) _, (h.mp.only ho (fun hs => by have := hSb _ hs; omega)).heap (Below.heap_setCell _ _ _ _ (by simp; omega)), (h.below.trans (ho.below h.below.size (fun b hb hs => by have := hSb _ hs; omega))).setCell (by simp; omega) _, l1, l2⟩
  · have := hb5.set_ 0 (.slice X' (d.length + 1) C')
    rw [List.length_append]
    simpa using this
  · rw [fuCs_append, List.length_append]
    exact own_setCell hown (by simp) _
  · intro g hg
    rw [List.length_append] at hg
    exact hS' g hg

set_option maxHeartbeats 8000000 in
theorem units_any (s : ByteArray) (w : World) (hs : s.size ≤ 70000) (hok : (pcs s).all okU = true) : Calls Try.prog 29 #[.string s] w fun e w' => ∃ X C, e = .returned (.slice X (pcs s).length C) ∧ w'.ownsRow w.heap.size 99 5 (.slice X (pcs s).length C) (pcs s).length (fuCs (pcs s)) ∧ Below w.heap.size w w' := by
  obtain ⟨i0, hi, hz0, hz1, hz2⟩ := info_parts info99
  have HI := Lib.hid (And.intro hi (And.intro hz0 (And.intro hz1 hz2)))
  clear hi hz0 hz1 hz2
  have HZ := Lib.hid (And.intro hs (And.intro (List.all_eq_true.1 hok) (Nat.le_trans (pcsGo_len s (s.size + 1) 0) (show s.size + 1 ≤ 70001 by omega))))
  clear hok hs
  refine calls_of_wp_marks Try.func29 rfl ?_
  simp only [Try.ntmps29, List.size_toArray, List.length_cons, List.length_nil, Nat.reduceAdd, Nat.reduceSub, Array.replicate_succ, Array.replicate_zero, List.push_toArray, List.append_toArray, List.nil_append, List.cons_append]
  go_wp2
  refine wp_scope_labels (fun _ _ _ _ => False) ?first (fun _ _ _ _ h => h.elim)
  go_wp2_with fail
  refine (tables_any _).mono ?_
  rintro e w1 ⟨jb, mb, sm, k, rfl, hmb, hm, hfree, hb⟩
  have hsb : Blk w1 w.heap.size 9 #[.string s] := (Blk.new w 9 _).below hb (by simp)
  have hbe : Below w.heap.size w w1 := ((Below.refl _ w).alloc (Nat.le_refl _) _).trans (hb.mono (by simp))
  have hml := hm.lt
  have hmw : w.heap.size < mb := by simp at hmb; omega
  have H1 := Lib.hid (And.intro hsb (And.intro hbe (And.intro hm (And.intro hfree (And.intro hmw hml)))))
  clear hsb hbe hm hfree hmb hml hmw hb
  go_wp2
  rename_i K hK
  refine wp_label ?_
  simp only [Exit.then]
  apply hK
  clear hK
  go_upto_region 3 with (fail)
  refine wp_abs (fun wx => Blk wx w.heap.size 9 #[.string s] ∧ Blk wx w1.heap.size 101 #[.map (some mb)] ∧ Blk wx (w1.heap.size + 1) 75 #[.slice none 0 0] ∧ MapV Try.prog wx 21 mb sm k ∧ Below w.heap.size w wx ∧ wx.heap.size = w1.heap.size + 2) ⟨(H1.out.1.alloc _).alloc _, (Blk.new w1 101 _).alloc _, blk_new_eq (by simp), (H1.out.2.2.1.on (((Below.refl _ w1).alloc (Nat.le_refl _) _).alloc (by simp) _)), H1.out.2.1.trans ((((Below.refl _ w1).alloc (Nat.le_refl _) _).alloc (by simp) _).mono H1.out.2.1.size), by simp⟩ ?_
  rintro w2 ⟨g1, g2, g3, g4, g5, g6⟩
  have cs : w2.cell? ⟨w.heap.size, 0, none⟩ = some (.string s) := g1.cell 0
  have H2 := Lib.hid (And.intro g1 (And.intro g2 (And.intro g3 (And.intro g4 (And.intro g5 g6)))))
  clear g1 g2 g3 g4 g5 g6
  go_wp2_with fail
  refine (pieces_call s w2).mono ?_
  rintro e w3 ⟨rfl, hw3⟩
  have hs3 : w3.heap.size = w1.heap.size + 3 := by rw [hw3]; have := H2.out.2.2.2.2.2; simp; omega
  have hS : FuSt w w1.heap.size mb sm k s [] (fun _ => False) w3 := by
    rw [hw3]
    have hz := H2.out.2.2.2.2.2
    exact ⟨H2.out.1.alloc _, H2.out.2.1.alloc _, ⟨none, 0, H2.out.2.2.1.alloc _, World.ownsRow_nil _ _ _ _, fun g hg => by simp [Value.ownBlock] at hg⟩, by rw [← hz]; exact Blk.new _ _ _, H2.out.2.2.2.1.on ((Below.refl _ _).alloc (Nat.le_refl _) _), H2.out.2.2.2.2.1.alloc H2.out.2.2.2.2.1.size _, by have := H1.out.1.lt; omega, H1.out.2.2.2.2⟩
  have hps : w2.heap.size = w1.heap.size + 2 := H2.out.2.2.2.2.2
  have HS := Lib.hid hS
  have HS3 := Lib.hid hs3
  have HFR := Lib.hid H1.out.2.2.2.1
  rw [hps]
  clear hS hw3 H1 H2 hs3 cs hps
  generalize w1.heap.size = T at *
  go_wp2
  refine wp_rangeE (gf := 35) (lb := #[.pointer (some ⟨T + 2, 0, none⟩)]) (pcs s) (fun p => #[pcV p]) (C := fun b => b = T + 2) 33 pcC ?F rfl (enters_of Try.func35 (by kernel_rfl) rfl)
    (fun W hb _ => pieces_gives s (T + 2) W (HS.out.bp.below hb HS.out.bp.lt) HZ.out.1) (fun b e => by rw [e]; exact HS.out.bp.lt) (fun p => rfl)
    (fun r S W' => ∃ d, d ++ r = pcs s ∧ FuSt w T mb sm k s d S W')
    (fun r S A A' ⟨d, h2, h3⟩ ho => ⟨d, h2, h3.only ho (fun b hb => ⟨by have := HS3.out; omega, hb.2⟩)⟩) ⟨[], rfl, HS.out⟩
    ?assign ?body ?done
  case assign =>
    rintro l p W
    simp only [List.zip_toArray, List.zip_cons_cons, List.zip_nil_right, List.foldl_toArray', List.foldl_cons, List.foldl_nil]
    rw [show pcV p = .agg #[.int .i64 p.1, .int .i64 p.2.1, .int .i32 p.2.2.1, .bool p.2.2.2] from rfl]
    gi_wp2
    obtain ⟨pb, hpb⟩ : ∃ pb, pb = W.heap.size := ⟨_, rfl⟩
    rw [← hpb]
    refine ⟨rfl, ?_⟩
    exact rfl
  case body =>
    rintro l' p r S pb W' hsu ⟨d, hd, hS⟩ hP hSb hpb
    have hpo : okU p = true := HZ.out.2.1 p (hsu.subset (List.mem_cons_self ..))
    unfold okU at hpo
    rw [Bool.and_eq_true] at hpo
    have hmem : p.2.2.1 ∈ freeR := by simpa using hpo.2
    have hbr : p.2.2.2 = false := by simpa using hpo.1
    have hk1 : kindF p.2.2.1 = 1 := by
      have h2 := hmem
      simp only [freeR, List.mem_cons, List.not_mem_nil, or_false] at h2
      rcases h2 with h | h | h | h | h | h <;> (rw [h]; decide +kernel)
    have hr0 : 0 ≤ p.2.2.1 ∧ p.2.2.1 ≤ 2147483647 := by
      have h2 := hmem
      simp only [freeR, List.mem_cons, List.not_mem_nil, or_false] at h2
      omega
    have hdn : d.length ≤ 70000 := by
      have h1 := HZ.out.2.2
      have h2 := congrArg List.length hd
      rw [List.length_append, List.length_cons] at h2
      unfold pcs at h2
      omega
    have hnk : sm (.int .i32 p.2.2.1) = none := HFR.out _ (pairs_free hmem)
    obtain ⟨X, C, hO, hown, hSo⟩ := hS.b5
    have hl3 := HS3.out
    have p0 : W'.cell? ⟨pb, 0, none⟩ = some (.int .i64 p.1) := hP.cell 0
    have p2 : W'.cell? ⟨pb, 2, none⟩ = some (.int .i32 p.2.2.1) := hP.cell 2
    have p3 : W'.cell? ⟨pb, 3, none⟩ = some (.bool false) := by rw [← hbr]; exact hP.cell 3
    have c4 : W'.cell? ⟨T, 0, none⟩ = some (.map (some mb)) := hS.b4.cell 0
    have co : W'.cell? ⟨T + 1, 0, none⟩ = some (.slice X d.length C) := hO.cell 0
    have HR := Lib.hid (And.intro hS (And.intro hP (And.intro hO (And.intro hown (And.intro hSo (And.intro hSb (And.intro hd (And.intro hk1 (And.intro hr0 (And.intro hnk hpb))))))))))
    clear hO hSo hpo hmem hk1 hnk hd
    have wf : ∀ k, Fence.wide.fn k := fun _ => trivial
    have wd : Fence.wide.depth = none := rfl
    rcases Nat.eq_zero_or_pos d.length with hd0 | hd0
    · have hdl1 : ¬ (0 : Int) < (d.length : Int) := by omega
      have hdl2 : decide ((0 : Int) < (d.length : Int)) = false := decide_eq_false hdl1
      have HD0 := Lib.hid hd0
      clear hd0
      obtain ⟨wx, hwx⟩ : ∃ wx, wx = W' := ⟨_, rfl⟩
      subst hwx
      have HX := Lib.hid (show FuSt w T mb sm k s d S wx ∧ Blk wx pb 33 (pcC p) ∧ kindF p.2.2.1 = 1 ∧ (0 ≤ p.2.2.1 ∧ p.2.2.1 ≤ 2147483647) ∧ Only (fun _ => False) wx wx ∧ sm (.int .i32 p.2.2.1) = none from ⟨HR.out.1, HR.out.2.1, HR.out.2.2.2.2.2.2.2.1, HR.out.2.2.2.2.2.2.2.2.1, Only.refl _ _, HR.out.2.2.2.2.2.2.2.2.2.1⟩)
      have p0x : wx.cell? ⟨pb, 0, none⟩ = some (.int .i64 p.1) := HX.out.2.1.cell 0
      have p2x : wx.cell? ⟨pb, 2, none⟩ = some (.int .i32 p.2.2.1) := HX.out.2.1.cell 2
      gi_wp2_with fail
      refine (CallsIn.inRound l' (callsIn_wide.2 (fletter_any p.1 0 p.2.2.1 (.slice none 0 0) (.slice none 0 0) .u8 rfl rfl _ HX.out.2.2.2.1.1 HX.out.2.2.1))).mono ?_
      rintro e w5 ⟨rfl, hb5⟩
      have hub : Blk w5 wx.heap.size 99 #[.int .i64 p.1, .int .u8 0, .int .i32 p.2.2.1, .slice none 0 0, .slice none 0 0] := (Blk.new wx 99 _).below hb5 (by simp)
      have hbx : Below wx.heap.size wx w5 := ((Below.refl _ wx).alloc (Nat.le_refl _) _).trans (hb5.mono (by simp))
      have HY := Lib.hid (And.intro (HX.out.1.on hbx) (And.intro (HX.out.2.1.below hbx HX.out.2.1.lt) (And.intro hub (HX.out.2.2.2.2.1.trans (Only.of_below hbx (fun _ => False))))))
      have hzx : wx.heap.size ≤ wx.heap.size := HX.out.2.2.2.2.1.size
      clear hb5 hub hbx
      obtain ⟨ub, hube⟩ : ∃ ub, ub = wx.heap.size := ⟨_, rfl⟩
      have q2 : w5.cell? ⟨pb, 2, none⟩ = some (.int .i32 p.2.2.1) := HY.out.2.1.cell 2
      have q4 : w5.cell? ⟨T, 0, none⟩ = some (.map (some mb)) := HY.out.1.b4.cell 0
      gi_wp2_with fail
      refine (CallsIn.inRound l' (callsIn_wide.2 (parted_free mb k sm p.2.2.1 w5 HY.out.1.mp HX.out.2.2.2.1 HX.out.2.2.2.2.2))).mono ?_
      rintro e w6 ⟨tb, rfl, htb, hbk, hb6⟩
      have HW := Lib.hid (And.intro (HY.out.1.on hb6) (And.intro (HY.out.2.2.1.below hb6 HY.out.2.2.1.lt) (And.intro (HY.out.2.2.2.trans (Only.of_below hb6 (fun _ => False))) (And.intro hbk htb))))
      have x2 : w6.cell? ⟨wx.heap.size, 2, none⟩ = some (.int .i32 p.2.2.1) := HW.out.2.1.cell 2
      have g2 : w6.frozen? ⟨wx.heap.size, 2, none⟩ = false := HW.out.2.1.frozen 2
      have t0 : w6.cell? ⟨tb, 0, none⟩ = some (.int .i32 p.2.2.1) := hbk.cell 0
      clear hb6 hbk htb q2 q4
      gi_wp2_with fail
      have hSub : ¬ S wx.heap.size := fun h => by have := (HR.out.2.2.2.2.2.1 _ h).2; have := HR.out.2.1.lt; omega
      have hub3 : T + 3 ≤ wx.heap.size := by have := HR.out.2.1.lt; have := HR.out.2.2.2.2.2.2.2.2.2.2; omega
      have ho7 : Only (fun b => b = wx.heap.size) w6 (w6.setCell ⟨wx.heap.size, 2, none⟩ (.int .i32 p.2.2.1)) := (Only.refl (fun b => b = wx.heap.size) w6).setCell (.inl rfl) _
      have HV := Lib.hid (show FuSt w T mb sm k s d S (w6.setCell ⟨wx.heap.size, 2, none⟩ (.int .i32 p.2.2.1)) ∧ Blk (w6.setCell ⟨wx.heap.size, 2, none⟩ (.int .i32 p.2.2.1)) wx.heap.size 99 #[.int .i64 p.1, .int .u8 0, .int .i32 p.2.2.1, .slice none 0 0, .slice none 0 0] ∧ Only (fun _ => False) wx (w6.setCell ⟨wx.heap.size, 2, none⟩ (.int .i32 p.2.2.1)) from
        ⟨HW.out.1.only ho7 (fun b e => by subst e; exact ⟨hub3, hSub⟩), HW.out.2.1.set_ 2 _, ((only_sub HW.out.2.2.1 (T := fun b => b = wx.heap.size) (fun b h => h.elim)).trans ho7).weak (fun b hb e => by have e : b = wx.heap.size := e; omega)⟩)
      clear x2 g2 t0 ho7
      refine wpIn_abs (fun w7 => FuSt w T mb sm k s d S w7 ∧ Blk w7 wx.heap.size 99 #[.int .i64 p.1, .int .u8 0, .int .i32 p.2.2.1, .slice none 0 0, .slice none 0 0] ∧ Only (fun _ => False) wx w7) HV.out ?_
      clear HV
      rintro w7 ⟨k1, k2, k3⟩
      have HV := Lib.hid (And.intro k1 (And.intro k2 k3))
      clear k1 k2 k3
      gi_loopw [74] (fun v74 wr => v74 = .int .i64 0 ∧ wr = w7) (fun _ _ => 0)
      case atStart => exact ⟨rfl, rfl⟩
      case round =>
        obtain ⟨rfl, rfl⟩ := hrel
        obtain ⟨X7, C7, hO7, hown7, hSo7⟩ := HV.out.1.b5
        have c7 : wr.cell? ⟨T + 1, 0, none⟩ = some (.slice X7 d.length C7) := hO7.cell 0
        have b0 : wr.cell? ⟨wx.heap.size, 0, none⟩ = some (.int .i64 p.1) := HV.out.2.1.cell 0
        have b1 : wr.cell? ⟨wx.heap.size, 1, none⟩ = some (.int .u8 0) := HV.out.2.1.cell 1
        have b2 : wr.cell? ⟨wx.heap.size, 2, none⟩ = some (.int .i32 p.2.2.1) := HV.out.2.1.cell 2
        have b3 : wr.cell? ⟨wx.heap.size, 3, none⟩ = some (.slice none 0 0) := HV.out.2.1.cell 3
        have b4 : wr.cell? ⟨wx.heap.size, 4, none⟩ = some (.slice none 0 0) := HV.out.2.1.cell 4
        have HOW := Lib.hid (And.intro hown7 hSo7)
        have hwz : T + 3 ≤ wr.heap.size := by have := HV.out.2.1.lt; omega
        have HO7 := Lib.hid hO7
        clear hO7 hown7 hSo7
        gi_wp2_with (gi_at_builtin; go_must (refine wpListIn_append_own_at _ rfl _ _ 75 rfl (T + 3) 99 i0 (.agg #[.int .i64 0, .int .u8 0, .int .i32 0, .slice none 0 0, .slice none 0 0]) 5 64 Try.underlying75 HI.out.1 HI.out.2.1 HI.out.2.2.1 HI.out.2.2.2 rfl (by decide) _ _ _ rfl (HOW.out.1.alloc _) ⟨wr.heap.size, 0, none⟩ 1 1 (fuC p) rfl rfl (Rd.at_add (rd_new wr 99 #[.int .i64 p.1, .int .u8 0, .int .i32 p.2.2.1, .slice none 0 0, .slice none 0 0] 5 rfl)) (by simp [fuC, Value.oneCell']) (by unfold maxLen; omega) (by omega) (by simp; omega) ?_; intro v' w8 hown8 hgrow _ hsame; obtain ⟨X9, C9, e9⟩ := own_slice hown8; subst e9; have HG := Lib.hid (And.intro hown8 (And.intro hgrow hsame)); have f8 : w8.frozen? ⟨T + 1, 0, none⟩ = false := (HO7.out.only ((Only.refl _ wr).alloc _ |>.grown hgrow (fun g hg => .inl (HOW.out.2 g hg))) (fun hs => by have := HR.out.2.2.2.2.2.1 _ hs; omega)).frozen 0; have c8 : w8.cell? ⟨T + 1, 0, none⟩ = some (.slice X7 d.length C7) := (HO7.out.only ((Only.refl _ wr).alloc _ |>.grown hgrow (fun g hg => .inl (HOW.out.2 g hg))) (fun hs => by have := HR.out.2.2.2.2.2.1 _ hs; omega)).cell 0; clear hown8 hgrow hsame))
        have hl3' := HS3.out
        have hSb' := HR.out.2.2.2.2.2.1
        have ho8 : Only S wr w8 := ((Only.refl _ wr).alloc _).grown HG.out.2.1 (fun g hg => .inl (HOW.out.2 g hg))
        have hzw := HV.out.2.2.size
        have hS' : ∀ g, (Value.slice X9 (d.length + 1) C9).ownBlock = some g → (S g ∨ (wx.heap.size ≤ g ∧ g < w8.heap.size)) := fun g hg => by
          have hlt := (HG.out.1.lt g hg).2
          rcases HG.out.2.2 with h | h
          · rw [h] at hg
            exact .inl (HOW.out.2 g hg)
          · rw [h] at hg
            injection hg with hg
            exact .inr ⟨by rw [← hg]; simp; omega, hlt⟩
        have hst := HV.out.1.step (S' := fun b => S b ∨ (wx.heap.size ≤ b ∧ b < w8.heap.size)) ho8 (fun b h => by have := hSb' b h; omega) HG.out.1 hS'
        refine ⟨((only_sub HV.out.2.2 (fun b h => h.elim)).trans (only_sub ho8 (fun b h => .inr h))).setCell (.inl (.inl ⟨by show T + 1 < w3.heap.size; omega, by show ¬ T + 1 = T + 2; omega⟩)) _, fun b => S b ∨ (wx.heap.size ≤ b ∧ b < w8.heap.size), ⟨d ++ [p], by rw [← HR.out.2.2.2.2.2.2.1]; simp, hst.1⟩, fun b h => h.imp id (fun h => ⟨h.1, by simpa using h.2⟩)⟩
    · have hX : ∃ g, X = some ⟨g, 0, none⟩ := by
        obtain ⟨g, cap, he, _⟩ := (show ∃ g cap, (Value.slice X d.length C) = .slice (some ⟨g, 0, none⟩) d.length cap ∧ True from by
          rcases hown.2 with ⟨_, h0⟩ | ⟨g, cap, cur, hv, _⟩
          · omega
          · exact ⟨g, cap, hv, trivial⟩)
        injection he with he
        exact ⟨g, he⟩
      obtain ⟨g, rfl⟩ := hX
      obtain ⟨b', o', hA, _, _, hcs⟩ := (own_rd hown).2 hd0
      injection hA with hA
      injection hA with hA1 hA2
      subst hA1 hA2
      have hlast : d.length - 1 < d.length := by omega
      obtain ⟨q, hq⟩ : ∃ q, d[d.length - 1] = q := ⟨_, rfl⟩
      have hqs : okU q = true := HZ.out.2.1 q (by rw [← HR.out.2.2.2.2.2.2.1, ← hq]; exact List.mem_append_left _ (List.getElem_mem hlast))
      have hqm : q.2.2.1 ∈ freeR := by
        unfold okU at hqs
        rw [Bool.and_eq_true] at hqs
        simpa using hqs.2
      have hqk : kindF q.2.2.1 = 1 := by
        have h2 := hqm
        simp only [freeR, List.mem_cons, List.not_mem_nil, or_false] at h2
        rcases h2 with h | h | h | h | h | h <;> (rw [h]; decide +kernel)
      have hq0 : 0 ≤ q.2.2.1 := by
        have h2 := hqm
        simp only [freeR, List.mem_cons, List.not_mem_nil, or_false] at h2
        omega
      have hat : ∀ j, j < 5 → ∀ u, (fuC q)[j]? = some u → W'.cell? ⟨g, (d.length - 1) * 5 + j, none⟩ = some u := fun j hj u hu => by
        have h := hcs ((d.length - 1) * 5 + j) u (by rw [fuCs_at d _ hlast j hj, hq]; exact hu)
        rwa [Nat.zero_add] at h
      have y0 : W'.cell? ⟨g, (d.length - 1) * 5, none⟩ = some (.int .i64 q.1) := hat 0 (by omega) _ rfl
      have y1 : W'.cell? ⟨g, (d.length - 1) * 5 + 1, none⟩ = some (.int .u8 0) := hat 1 (by omega) _ rfl
      have y2 : W'.cell? ⟨g, (d.length - 1) * 5 + 2, none⟩ = some (.int .i32 q.2.2.1) := hat 2 (by omega) _ rfl
      have y3 : W'.cell? ⟨g, (d.length - 1) * 5 + 3, none⟩ = some (.slice none 0 0) := hat 3 (by omega) _ rfl
      have y4 : W'.cell? ⟨g, (d.length - 1) * 5 + 4, none⟩ = some (.slice none 0 0) := hat 4 (by omega) _ rfl
      clear hat hcs hqm hqs hq hlast hown
      gi_wp2_with fail
      refine (CallsIn.inRound l' (callsIn_wide.2 (fletter_any q.1 0 q.2.2.1 (.slice none 0 0) (.slice none 0 0) .u8 rfl rfl _ hq0 hqk))).mono ?_
      rintro e wx ⟨rfl, hbw⟩
      have HX := Lib.hid (show FuSt w T mb sm k s d S wx ∧ Blk wx pb 33 (pcC p) ∧ kindF p.2.2.1 = 1 ∧ (0 ≤ p.2.2.1 ∧ p.2.2.1 ≤ 2147483647) ∧ Only (fun _ => False) W' wx ∧ sm (.int .i32 p.2.2.1) = none from ⟨HR.out.1.on hbw, HR.out.2.1.below hbw HR.out.2.1.lt, HR.out.2.2.2.2.2.2.2.1, HR.out.2.2.2.2.2.2.2.2.1, Only.of_below hbw _, HR.out.2.2.2.2.2.2.2.2.2.1⟩)
      have p0x : wx.cell? ⟨pb, 0, none⟩ = some (.int .i64 p.1) := HX.out.2.1.cell 0
      have p2x : wx.cell? ⟨pb, 2, none⟩ = some (.int .i32 p.2.2.1) := HX.out.2.1.cell 2
      clear hbw y0 y1 y2 y3 y4 hqk hq0 p0 p2 p3 c4 co
      gi_wp2_with fail
      refine (CallsIn.inRound l' (callsIn_wide.2 (kind_any p.2.2.1 _))).mono ?_
      rintro e wx' ⟨rfl, ew⟩
      have ew' := ew.symm
      clear ew
      subst ew'
      rw [HX.out.2.2.1]
      gi_wp2_with fail
      refine (CallsIn.inRound l' (callsIn_wide.2 (fletter_any p.1 0 p.2.2.1 (.slice none 0 0) (.slice none 0 0) .u8 rfl rfl _ HX.out.2.2.2.1.1 HX.out.2.2.1))).mono ?_
      rintro e w5 ⟨rfl, hb5⟩
      have hub : Blk w5 wx.heap.size 99 #[.int .i64 p.1, .int .u8 0, .int .i32 p.2.2.1, .slice none 0 0, .slice none 0 0] := (Blk.new wx 99 _).below hb5 (by simp)
      have hbx : Below wx.heap.size wx w5 := ((Below.refl _ wx).alloc (Nat.le_refl _) _).trans (hb5.mono (by simp))
      have HY := Lib.hid (And.intro (HX.out.1.on hbx) (And.intro (HX.out.2.1.below hbx HX.out.2.1.lt) (And.intro hub (HX.out.2.2.2.2.1.trans (Only.of_below hbx (fun _ => False))))))
      have hzx : W'.heap.size ≤ wx.heap.size := HX.out.2.2.2.2.1.size
      clear hb5 hub hbx
      obtain ⟨ub, hube⟩ : ∃ ub, ub = wx.heap.size := ⟨_, rfl⟩
      have q2 : w5.cell? ⟨pb, 2, none⟩ = some (.int .i32 p.2.2.1) := HY.out.2.1.cell 2
      have q4 : w5.cell? ⟨T, 0, none⟩ = some (.map (some mb)) := HY.out.1.b4.cell 0
      gi_wp2_with fail
      refine (CallsIn.inRound l' (callsIn_wide.2 (parted_free mb k sm p.2.2.1 w5 HY.out.1.mp HX.out.2.2.2.1 HX.out.2.2.2.2.2))).mono ?_
      rintro e w6 ⟨tb, rfl, htb, hbk, hb6⟩
      have HW := Lib.hid (And.intro (HY.out.1.on hb6) (And.intro (HY.out.2.2.1.below hb6 HY.out.2.2.1.lt) (And.intro (HY.out.2.2.2.trans (Only.of_below hb6 (fun _ => False))) (And.intro hbk htb))))
      have x2 : w6.cell? ⟨wx.heap.size, 2, none⟩ = some (.int .i32 p.2.2.1) := HW.out.2.1.cell 2
      have g2 : w6.frozen? ⟨wx.heap.size, 2, none⟩ = false := HW.out.2.1.frozen 2
      have t0 : w6.cell? ⟨tb, 0, none⟩ = some (.int .i32 p.2.2.1) := hbk.cell 0
      clear hb6 hbk htb q2 q4
      gi_wp2_with fail
      have hSub : ¬ S wx.heap.size := fun h => by have := (HR.out.2.2.2.2.2.1 _ h).2; have := HR.out.2.1.lt; omega
      have hub3 : T + 3 ≤ wx.heap.size := by have := HR.out.2.1.lt; have := HR.out.2.2.2.2.2.2.2.2.2.2; omega
      have ho7 : Only (fun b => b = wx.heap.size) w6 (w6.setCell ⟨wx.heap.size, 2, none⟩ (.int .i32 p.2.2.1)) := (Only.refl (fun b => b = wx.heap.size) w6).setCell (.inl rfl) _
      have HV := Lib.hid (show FuSt w T mb sm k s d S (w6.setCell ⟨wx.heap.size, 2, none⟩ (.int .i32 p.2.2.1)) ∧ Blk (w6.setCell ⟨wx.heap.size, 2, none⟩ (.int .i32 p.2.2.1)) wx.heap.size 99 #[.int .i64 p.1, .int .u8 0, .int .i32 p.2.2.1, .slice none 0 0, .slice none 0 0] ∧ Only (fun _ => False) W' (w6.setCell ⟨wx.heap.size, 2, none⟩ (.int .i32 p.2.2.1)) from
        ⟨HW.out.1.only ho7 (fun b e => by subst e; exact ⟨hub3, hSub⟩), HW.out.2.1.set_ 2 _, ((only_sub HW.out.2.2.1 (T := fun b => b = wx.heap.size) (fun b h => h.elim)).trans ho7).weak (fun b hb e => by have e : b = wx.heap.size := e; omega)⟩)
      clear x2 g2 t0 ho7
      refine wpIn_abs (fun w7 => FuSt w T mb sm k s d S w7 ∧ Blk w7 wx.heap.size 99 #[.int .i64 p.1, .int .u8 0, .int .i32 p.2.2.1, .slice none 0 0, .slice none 0 0] ∧ Only (fun _ => False) W' w7) HV.out ?_
      clear HV
      rintro w7 ⟨k1, k2, k3⟩
      have HV := Lib.hid (And.intro k1 (And.intro k2 k3))
      clear k1 k2 k3
      gi_loopw [74] (fun v74 wr => v74 = .int .i64 0 ∧ wr = w7) (fun _ _ => 0)
      case atStart => exact ⟨rfl, rfl⟩
      case round =>
        obtain ⟨rfl, rfl⟩ := hrel
        obtain ⟨X7, C7, hO7, hown7, hSo7⟩ := HV.out.1.b5
        have c7 : wr.cell? ⟨T + 1, 0, none⟩ = some (.slice X7 d.length C7) := hO7.cell 0
        have b0 : wr.cell? ⟨wx.heap.size, 0, none⟩ = some (.int .i64 p.1) := HV.out.2.1.cell 0
        have b1 : wr.cell? ⟨wx.heap.size, 1, none⟩ = some (.int .u8 0) := HV.out.2.1.cell 1
        have b2 : wr.cell? ⟨wx.heap.size, 2, none⟩ = some (.int .i32 p.2.2.1) := HV.out.2.1.cell 2
        have b3 : wr.cell? ⟨wx.heap.size, 3, none⟩ = some (.slice none 0 0) := HV.out.2.1.cell 3
        have b4 : wr.cell? ⟨wx.heap.size, 4, none⟩ = some (.slice none 0 0) := HV.out.2.1.cell 4
        have HOW := Lib.hid (And.intro hown7 hSo7)
        have hwz : T + 3 ≤ wr.heap.size := by have := HV.out.2.1.lt; omega
        have HO7 := Lib.hid hO7
        clear hO7 hown7 hSo7
        gi_wp2_with (gi_at_builtin; go_must (refine wpListIn_append_own_at _ rfl _ _ 75 rfl (T + 3) 99 i0 (.agg #[.int .i64 0, .int .u8 0, .int .i32 0, .slice none 0 0, .slice none 0 0]) 5 64 Try.underlying75 HI.out.1 HI.out.2.1 HI.out.2.2.1 HI.out.2.2.2 rfl (by decide) _ _ _ rfl (HOW.out.1.alloc _) ⟨wr.heap.size, 0, none⟩ 1 1 (fuC p) rfl rfl (Rd.at_add (rd_new wr 99 #[.int .i64 p.1, .int .u8 0, .int .i32 p.2.2.1, .slice none 0 0, .slice none 0 0] 5 rfl)) (by simp [fuC, Value.oneCell']) (by unfold maxLen; omega) (by omega) (by simp; omega) ?_; intro v' w8 hown8 hgrow _ hsame; obtain ⟨X9, C9, e9⟩ := own_slice hown8; subst e9; have HG := Lib.hid (And.intro hown8 (And.intro hgrow hsame)); have f8 : w8.frozen? ⟨T + 1, 0, none⟩ = false := (HO7.out.only ((Only.refl _ wr).alloc _ |>.grown hgrow (fun g hg => .inl (HOW.out.2 g hg))) (fun hs => by have := HR.out.2.2.2.2.2.1 _ hs; omega)).frozen 0; have c8 : w8.cell? ⟨T + 1, 0, none⟩ = some (.slice X7 d.length C7) := (HO7.out.only ((Only.refl _ wr).alloc _ |>.grown hgrow (fun g hg => .inl (HOW.out.2 g hg))) (fun hs => by have := HR.out.2.2.2.2.2.1 _ hs; omega)).cell 0; clear hown8 hgrow hsame))
        have hl3' := HS3.out
        have hSb' := HR.out.2.2.2.2.2.1
        have ho8 : Only S wr w8 := ((Only.refl _ wr).alloc _).grown HG.out.2.1 (fun g hg => .inl (HOW.out.2 g hg))
        have hzw := HV.out.2.2.size
        have hS' : ∀ g, (Value.slice X9 (d.length + 1) C9).ownBlock = some g → (S g ∨ (W'.heap.size ≤ g ∧ g < w8.heap.size)) := fun g hg => by
          have hlt := (HG.out.1.lt g hg).2
          rcases HG.out.2.2 with h | h
          · rw [h] at hg
            exact .inl (HOW.out.2 g hg)
          · rw [h] at hg
            injection hg with hg
            exact .inr ⟨by rw [← hg]; simp; omega, hlt⟩
        have hst := HV.out.1.step (S' := fun b => S b ∨ (W'.heap.size ≤ b ∧ b < w8.heap.size)) ho8 (fun b h => by have := hSb' b h; omega) HG.out.1 hS'
        refine ⟨((only_sub HV.out.2.2 (fun b h => h.elim)).trans (only_sub ho8 (fun b h => .inr h))).setCell (.inl (.inl ⟨by show T + 1 < w3.heap.size; omega, by show ¬ T + 1 = T + 2; omega⟩)) _, fun b => S b ∨ (W'.heap.size ≤ b ∧ b < w8.heap.size), ⟨d ++ [p], by rw [← HR.out.2.2.2.2.2.2.1]; simp, hst.1⟩, fun b h => h.imp id (fun h => ⟨h.1, by simpa using h.2⟩)⟩
  case done =>
    rintro S W' hSb hBW ⟨d, hd, hS⟩ hmk
    rw [List.append_nil] at hd
    subst hd
    obtain ⟨X, C, hO, hown, hSo⟩ := hS.b5
    have co : W'.cell? ⟨T + 1, 0, none⟩ = some (.slice X (pcs s).length C) := hO.cell 0
    have HK := Lib.hid (And.intro hS (And.intro hown (And.intro hmk (And.intro hSo hSb))))
    clear hS hO hown hmk hSo hSb
    go_wp2
    dsimp only [Exit.jumps]
    refine leaves_one (D := w3.heap.size) HK.out.2.2.1 ?_
    intro w' ho
    have hl := HS3.out
    have hlt := HK.out.1.lt
    refine ⟨.slice X (pcs s).length C, by simp [results, Try.results29, go_sem], X, C, rfl, ?_, HK.out.1.below.trans (ho.below HK.out.1.below.size (fun b hb e => by have e : b = w3.heap.size := e; omega))⟩
    exact own_more (own_only HK.out.2.1 ho (fun g _ _ hg e => by have := HK.out.2.2.2.2 g (HK.out.2.2.2.1 g hg); have e : g = w3.heap.size := e; omega)) (by omega)
end Go.Proofs.Ytialpfmaekagjaa
