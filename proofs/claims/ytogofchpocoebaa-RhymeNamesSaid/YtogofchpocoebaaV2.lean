/- rhyme.vowel, of; the reference's only. -/
import Derived.Test.YtogofchpocoebaaS6
import Derived.Test.YtogofchpocoebaaY9
import Derived.Test.YtogofchpocoebaaMem
import Derived.OwnWalkIn
import Derived.Deep.DeepMust
namespace Go.Proofs.Ytogofchpocoebaa
open Go.RowKit Go.Maps
attribute [local go_sem] Oper.semAt_some

theorem leaves_marks2 {P : Program} {fn : Func} {tmps : Array Value} {R : Ending → World → Prop} {B : Nat} {S : Nat → Prop} : ∀ {ds : List Deferred} {w : World}, Marks B ds w → (∀ d ∈ ds, ∀ r, d.target = .collected r → S r) →
    (∀ w', Only S w w' → ∃ v, (results fn tmps).run P w' = .ok v w' ∧ R (.returned v) w') → LeavesInM Fence.wide 0 P fn tmps R ds .returning w := by
  intro ds
  induction ds with
  | nil => intro w _ _ h; exact h w (Only.refl _ _)
  | cons d ds ih =>
    rintro w ⟨r, h1, h2, h3, h4, h5⟩ hS h
    refine ⟨by simp, .inl ⟨r, _, h1, run_takeDeferred h3, ih ?_ (fun d hd r hr => hS d (List.mem_cons_of_mem _ hd) r hr) ?_⟩⟩
    · refine h5.keep fun r' hb hd ⟨d', hd', ht⟩ => (World.putObj_heap_other ?_).trans hd
      intro e
      subst e
      exact h4 d' hd' ht
    · exact fun w' hb => h w' (((only_putObj _ _ _).weak (fun k _ e => by subst e; exact hS d (List.mem_cons_self ..) _ h1)).trans hb)
theorem own_ge' {w : World} {base : Nat} {e : TypeId} {sz n : Nat} {v : Value} {xs : List Value} {k : Nat} (h : w.ownsRow base e sz v n xs) (hk : v.ownBlock = some k) : base ≤ k := by
  rcases h.2 with ⟨hv, _⟩ | ⟨g, cap, cur, hv, hb, _⟩
  · rw [hv] at hk; cases hk
  · rw [hv] at hk
    simp only [Value.ownBlock, Option.some.injEq] at hk
    omega

theorem vowel15_any (p : Ph) (w : World) (h : fit32 p.1) : Calls Try.prog 163 #[.agg #[.int .i32 p.1, .bool p.2.1, .int .i32 p.2.2]] w fun e w' => e = .returned (.bool (vowF p)) ∧ Below w.heap.size w w' := by
  have HV := Lib.hid (show vowF p = (traits p.1).vow from rfl)
  go_enter Try.func163, Try.ntmps163
  go_wp2_with fail
  refine (Of_any p.1 _ h).mono ?_
  rintro e w1 ⟨rfl, hb⟩
  have H1 := Lib.hid (((Below.refl _ w).alloc (Nat.le_refl _) _).trans (hb.mono (by simp)))
  clear hb
  rw [show trV (traits p.1) = .agg #[.bool (traits p.1).vow, .int .i64 (traits p.1).hgt, .int .i64 (traits p.1).bck, .bool (traits p.1).rnd, .int .i64 (traits p.1).plc, .int .i64 (traits p.1).mnr, .bool (traits p.1).vcd] from rfl]
  generalize traits p.1 = t at *
  go_wp2
  go_ret
  exact ⟨ret_bool HV.out.symm, H1.out.trans (((Below.refl _ _).alloc (Nat.le_refl _) _).mono H1.out.size)⟩

/-- memory while of runs -/
structure OfSt (w0 : World) (v : Bool) (sb : Nat) (s : ByteArray) (B2 : Nat) (out : List Ph) (W : World) : Prop where
  bv : Blk W (w0.heap.size + 1) 4 #[.bool v]
  bo : ∃ X C, Blk W (w0.heap.size + 2) 22 #[.slice X out.length C] ∧ W.ownsRow (max B2 (w0.heap.size + 3)) 43 3 (.slice X out.length C) out.length (phs out)
  bs : Blk W sb 9 #[.string s]
  below : Below w0.heap.size w0 W
  ls : w0.heap.size + 3 ≤ sb
theorem OfSt.only {w0 : World} {v : Bool} {sb B2 : Nat} {s : ByteArray} {out : List Ph} {W W' : World} {S : Nat → Prop} (h : OfSt w0 v sb s B2 out W) (ho : Only S W W') (hS : ∀ b, S b → sb < b ∧ b < B2) : OfSt w0 v sb s B2 out W' := by
  obtain ⟨X, C, h1, h2⟩ := h.bo
  have l := h.ls
  refine ⟨h.bv.only ho (fun hs => by have := hS _ hs; omega), ⟨X, C, h1.only ho (fun hs => by have := hS _ hs; omega), own_only h2 ho (fun k _ _ hk hs => by have := hS _ hs; have := own_ge' h2 hk; omega)⟩, h.bs.only ho (fun hs => by have := hS _ hs; omega), h.below.trans (ho.below h.below.size (fun b hb hs => by have := hS _ hs; omega)), h.ls⟩
theorem OfSt.on {w0 : World} {v : Bool} {sb B2 : Nat} {s : ByteArray} {out : List Ph} {W W' : World} (h : OfSt w0 v sb s B2 out W) (hb : Below W.heap.size W W') : OfSt w0 v sb s B2 out W' :=
  h.only (S := fun _ => False) (Only.of_below hb _) (fun _ h => h.elim)

theorem of_step {w0 W2 w5 : World} {v : Bool} {sb B2 : Nat} {s : ByteArray} {out : List Ph} {p : Ph} {X : Option Addr} {C : Nat} {v' : Value} {o : Obj} (hS : OfSt w0 v sb s B2 out W2) (hO : Blk W2 (w0.heap.size + 2) 22 #[.slice X out.length C]) (hown2 : W2.ownsRow (max B2 (w0.heap.size + 3)) 43 3 (.slice X out.length C) out.length (phs out))
    (hown5 : w5.ownsRow (max B2 (w0.heap.size + 3)) 43 3 v' (out.length + 1) (phs out ++ phC p)) (hgrow : (W2.alloc o).grownBy w5 (Value.slice X out.length C).ownBlock) (hB : sb < B2) (_hB2 : B2 ≤ W2.heap.size) :
    Blk w5 (w0.heap.size + 2) 22 #[.slice X out.length C] ∧ OfSt w0 v sb s B2 (out ++ [p]) (w5.setCell ⟨w0.heap.size + 2, 0, none⟩ v') ∧ Only (fun b => B2 ≤ b) W2 w5 := by
  have hl := hS.ls
  have hge : ∀ k, (Value.slice X out.length C).ownBlock = some k → B2 ≤ k := fun k hk => by have := own_ge' hown2 hk; omega
  have ho : Only (fun b => B2 ≤ b) W2 w5 := ((Only.refl (fun b => B2 ≤ b) W2).alloc o).grown hgrow (fun g hg => .inl (hge g hg))
  have hO5 : Blk w5 (w0.heap.size + 2) 22 #[.slice X out.length C] := hO.only ho (by omega)
  obtain ⟨X', C', e⟩ := own_slice hown5
  subst e
  refine ⟨hO5, ⟨(hS.bv.only ho (by omega)).far (by simp) _, ⟨X', C', ?_, ?_⟩, (hS.bs.only ho (by omega)).far (by simp; omega) _, (hS.below.trans (ho.below hS.below.size (fun b hb h => by have := hS.below.size; omega))).setCell (by simp) _, hl⟩, ho⟩
  · have := hO5.set_ 0 (.slice X' (out.length + 1) C')
    rw [List.length_append]
    simpa using this
  · rw [phs_append, List.length_append]
    exact own_far hown5 (fun h => by have := own_ge' hown5 h; simp at this; omega) _

set_option maxHeartbeats 8000000 in
set_option maxRecDepth 100000 in
theorem of_any (x : Sd) (v : Bool) (BB : Nat) (w : World) (hx : SdIn w BB x) (hBB : BB ≤ w.heap.size) (hf : Form x.l x.ss) :
    Calls Try.prog 136 #[.agg #[.slice x.A x.n x.c, .slice x.D x.m x.d], .bool v] w fun e w' => ∃ X C, e = .returned (.slice X (onlyF v (tailF x.l x.ss)).length C) ∧ w'.ownsRow w.heap.size 43 3 (.slice X (onlyF v (tailF x.l x.ss)).length C) (onlyF v (tailF x.l x.ss)).length (phs (onlyF v (tailF x.l x.ss))) ∧ Below w.heap.size w w' := by
  obtain ⟨i0, hi, hz0, hz1, hz2⟩ := info_parts info43
  have HI := Lib.hid (And.intro hi (And.intro hz0 (And.intro hz1 hz2)))
  clear hi hz0 hz1 hz2
  obtain ⟨hall, _, h128, _⟩ := form_parts hf
  have HX := Lib.hid (And.intro hx hf)
  have htx := texts_len _ hall
  have hev := ev_tail hall
  have HT := Lib.hid (show ∀ p ∈ tailF x.l x.ss, fitP p from fun p hp => hx.fit p (List.mem_of_mem_drop hp))
  clear hx hf hall
  refine calls_of_wp_marks Try.func136 rfl ?_
  simp only [Try.ntmps136, List.size_toArray, List.length_cons, List.length_nil, Nat.reduceAdd, Nat.reduceSub, Array.replicate_succ, Array.replicate_zero, List.push_toArray, List.append_toArray, List.nil_append, List.cons_append]
  go_upto_region 2 with (fail)
  refine wp_abs (fun wx => Blk wx w.heap.size 25 #[.slice x.A x.n x.c, .slice x.D x.m x.d] ∧ Blk wx (w.heap.size + 1) 4 #[.bool v] ∧ Blk wx (w.heap.size + 2) 22 #[.slice none 0 0] ∧ Below w.heap.size w wx) ⟨((Blk.new _ _ _).alloc _).alloc _, (blk_new_eq (by simp)).alloc _, blk_new_eq (by simp), (((Below.refl _ _).alloc (Nat.le_refl _) _).alloc (by simp) _).alloc (by simp; omega) _⟩ ?_
  rintro w1 ⟨hB0, hB1, hB2, hb⟩
  have c0 : w1.cell? ⟨w.heap.size, 0, none⟩ = some (.slice x.A x.n x.c) := hB0.cell 0
  have c1 : w1.cell? ⟨w.heap.size, 1, none⟩ = some (.slice x.D x.m x.d) := hB0.cell 1
  have L1 := hB2.lt
  have H1 := Lib.hid (And.intro hB1 (And.intro hB2 hb))
  clear hB0 hB1 hB2 hb
  go_wp2_with fail
  refine (key_any x BB w1 (HX.out.1.below H1.out.2.2 hBB) (Nat.le_trans hBB H1.out.2.2.size) HX.out.2).mono ?_
  rintro e w2 ⟨rfl, hb⟩
  have H2 := Lib.hid (And.intro (H1.out.1.below hb H1.out.1.lt) (And.intro (H1.out.2.1.below hb H1.out.2.1.lt) (H1.out.2.2.trans (hb.mono H1.out.2.2.size))))
  have L2 := Nat.lt_of_lt_of_le L1 hb.size
  clear hb c0 c1 H1
  generalize htt : tailF x.l x.ss = t at *
  go_wp2_with fail
  refine (each_call (bts (texts t)) w2).mono ?_
  rintro e w3 ⟨rfl, hw3⟩
  have hs3 : w3.heap.size = w2.heap.size + 1 := by rw [hw3]; simp
  have hS : ∀ B2, OfSt w v w2.heap.size (bts (texts t)) B2 [] w3 := fun B2 => by
    rw [hw3]
    exact ⟨H2.out.1.alloc _, ⟨none, 0, H2.out.2.1.alloc _, World.ownsRow_nil _ _ _ _⟩, Blk.new _ _ _, H2.out.2.2.alloc H2.out.2.2.size _, by omega⟩
  have HS := Lib.hid hS
  clear hS hw3 H2
  generalize w2.heap.size = sb at *
  have hev' : (evL (bts (texts t)).data.toList).1.map (·.1) = t := hev
  have hen : (evL (bts (texts t)).data.toList).1.length = t.length := by have := congrArg List.length hev'; simpa using this
  have hxa : ∀ B k args W, EvX (bts (texts t)).data.toList B k args W → ∃ (hk : k < t.length) (y z : Int), args = #[.agg #[.int .i64 y, .int .i64 z], .agg #[.int .i32 t[k].1, .bool t[k].2.1, .int .i32 t[k].2.2]] := by
    rintro B k args W ⟨hk, rfl⟩
    have hk2 : k < t.length := by omega
    have e : (evL (bts (texts t)).data.toList).1[k].1 = t[k] := by
      have := List.getElem_map (·.1) (l := (evL (bts (texts t)).data.toList).1) (i := k) (h := by simpa using hk)
      rw [← this]
      simp only [hev']
    exact ⟨hk2, _, _, by rw [e]⟩
  have HXA := Lib.hid hxa
  have HEN := Lib.hid hen
  have HTT := Lib.hid htt
  clear hxa hen hev hev' htt
  have hzt : (bts (texts t)).size ≤ maxLen := by rw [bts_size]; unfold maxLen; omega
  have HZ := Lib.hid hzt
  clear hzt
  go_wp2
  refine wp_range2 (gf := 128) (lb := #[.pointer (some ⟨sb, 0, none⟩)]) (N := t.length) (X := EvX (bts (texts t)).data.toList) (C := fun b => b = sb) rfl (enters_of Try.func128 (by kernel_rfl) rfl)
    (fun W hb _ => by have := each_gives2 (bts (texts t)) sb W ((HS.out 0).bs.below hb (HS.out 0).bs.lt) HZ.out; rw [HEN.out] at this; exact this) (fun b e => by rw [e]; exact (HS.out 0).bs.lt) ?hX
    (fun B2 k W => OfSt w v sb (bts (texts t)) B2 (onlyF v (t.take k)) W) (fun _ _ _ _ => False)
    (fun B2 k A A' h ho => h.only ho (fun b hb => ⟨by omega, hb.2⟩)) (fun c B2 k A A' h ho => h.elim) (fun B2 => HS.out B2)
    (fun B2 k args a' W => ∃ (pb : Nat) (hk : k < t.length) (y z : Int), args = #[.agg #[.int .i64 y, .int .i64 z], .agg #[.int .i32 t[k].1, .bool t[k].2.1, .int .i32 t[k].2.2]] ∧ OfSt w v sb (bts (texts t)) B2 (onlyF v (t.take k)) W ∧ Blk W pb 43 #[.int .i32 t[k].1, .bool t[k].2.1, .int .i32 t[k].2.2] ∧ B2 ≤ pb ∧ a' = { tmps := #[.agg #[.slice x.A x.n x.c, .slice x.D x.m x.d], .bool v, .pointer (some ⟨w.heap.size, 0, none⟩), .pointer (some ⟨w.heap.size + 1, 0, none⟩), .slice none 0 0, .pointer (some ⟨w.heap.size + 1 + 1, 0, none⟩), undef, .pointer (some ⟨pb, 0, none⟩), .agg #[.slice x.A x.n x.c, .slice x.D x.m x.d], .string (bts (texts t)), .func (.func 128) #[] #[.pointer (some ⟨sb, 0, none⟩)], .agg #[.int .i64 y, .int .i64 z], .agg #[.int .i32 t[k].1, .bool t[k].2.1, .int .i32 t[k].2.2], undef, undef, undef, undef, undef, undef, undef, undef, undef], defers := [] })
    ?hAx ?assign ?body ?done ?stop
  case hX =>
    rintro k args W h
    obtain ⟨hk, y, z, rfl⟩ := HXA.out _ _ _ _ h
    rfl
  case assign =>
    rintro B2 l k args W hk hI hx hB2 hsz
    obtain ⟨hkl, y, z, rfl⟩ := HXA.out _ _ _ _ hx
    have HJ := Lib.hid hI
    clear hI hx
    simp only [List.zip_toArray, List.zip_cons_cons, List.zip_nil_right, List.foldl_toArray', List.foldl_cons, List.foldl_nil]
    gi_wp2
    refine ⟨(Only.refl _ _).alloc _, W.heap.size, hkl, y, z, rfl, HJ.out.on ((Below.refl _ _).alloc (Nat.le_refl _) _), Blk.new _ _ _, hsz, rfl⟩
  case hAx =>
    rintro B2 k args a' A A' ⟨pb, hk, y, z, h1, h2, h3, h4, h5⟩ ho _ hB2 _
    exact ⟨pb, hk, y, z, h1, h2.only ho (fun b hb => by omega), h3.only ho (by omega), h4, h5⟩
  case body =>
    rintro B2 l k args a₁ W hk ⟨pb, hkl, y, z, rfl, hS, hP, hpb, rfl⟩ hB2 hsz
    obtain ⟨X, C, hO, hown⟩ := hS.bo
    have cv : W.cell? ⟨w.heap.size + 1, 0, none⟩ = some (.bool v) := hS.bv.cell 0
    have co : W.cell? ⟨w.heap.size + 1 + 1, 0, none⟩ = some (.slice X (onlyF v (t.take k)).length C) := hO.cell 0
    have fo : W.frozen? ⟨w.heap.size + 1 + 1, 0, none⟩ = false := hO.frozen 0
    have p0 : W.cell? ⟨pb, 0, none⟩ = some (.int .i32 t[k].1) := hP.cell 0
    have p1 : W.cell? ⟨pb, 1, none⟩ = some (.bool t[k].2.1) := hP.cell 1
    have p2 : W.cell? ⟨pb, 2, none⟩ = some (.int .i32 t[k].2.2) := hP.cell 2
    have hsn : onlyF v (t.take (k + 1)) = onlyF v (t.take k) ++ (if vowF t[k] == v then [t[k]] else []) := by
      rw [List.take_succ_eq_append_getElem hkl, only_snoc]
    have hfit := HT.out _ (List.getElem_mem hkl)
    have hlen : (onlyF v (t.take k)).length ≤ 128 := by
      have h1 := List.length_filter_le (fun p => vowF p == v) (t.take k)
      have h2 := List.length_take_le k t
      have h3 : (onlyF v (t.take k)).length ≤ (t.take k).length := h1
      omega
    generalize onlyF v (t.take k) = out at *
    generalize t[k] = p at *
    have wf : ∀ k, Fence.wide.fn k := fun _ => trivial
    have wd : Fence.wide.depth = none := rfl
    have HR := Lib.hid (And.intro hS (And.intro hP (And.intro hO hown)))
    have HN := Lib.hid hsn
    have HFT := Lib.hid hfit
    clear hS hP hO hown hsn hfit
    gi_wp2
    have Xcv := Bel.cell cv
    have Xp0 := Bel.cell p0
    have Xp1 := Bel.cell p1
    have Xp2 := Bel.cell p2
    clear cv co fo p0 p1 p2
    refine wpIn_bel_round (by kernel_rfl) (by kernel_rfl) (by kernel_rfl) ?_
    repeat (gi_big_quiet_step (fail))
    gi_big_quiet_want
    gi_big_quiet_op
    refine ⟨.bool (vowF p), fun x => ?_, ?_⟩
    · exact callsIn_wide.2 ((vowel15_any p x.1 HFT.out.1).mono (fun e w' h => ⟨h.1, x.next h.2⟩))
    go_big_quiet_on
    repeat (gi_big_quiet_step (fail))
    refine wpQuietIn_nil ?_
    intro _ hw'
    obtain ⟨xW, hw''⟩ := hw'
    subst hw''
    clear Xcv Xp0 Xp1 Xp2
    have hS2 := HR.out.1.on xW.2
    obtain hO2 := HR.out.2.2.1.below xW.2 HR.out.2.2.1.lt
    have hown2 := own_stay HR.out.2.2.2 (Only.of_below xW.2 _)
    have hP2 := HR.out.2.1.below xW.2 HR.out.2.1.lt
    have hz2 := xW.2.size
    have hoo : Only (fun b => (b < w3.heap.size ∧ ¬ b = sb) ∨ B2 ≤ b) W xW.1 := Only.of_below xW.2 _
    have hfr := HR.out.1.ls
    generalize xW.1 = W2 at *
    have co : W2.cell? ⟨w.heap.size + 1 + 1, 0, none⟩ = some (.slice X out.length C) := hO2.cell 0
    have fo : W2.frozen? ⟨w.heap.size + 1 + 1, 0, none⟩ = false := hO2.frozen 0
    have p0 : W2.cell? ⟨pb, 0, none⟩ = some (.int .i32 p.1) := hP2.cell 0
    have p1 : W2.cell? ⟨pb, 1, none⟩ = some (.bool p.2.1) := hP2.cell 1
    have p2 : W2.cell? ⟨pb, 2, none⟩ = some (.int .i32 p.2.2) := hP2.cell 2
    have HR2 := Lib.hid (And.intro hS2 (And.intro hO2 hoo))
    clear hS2 hO2 hP2 hoo HR
    cases hvb : (vowF p == v) with
    | false =>
      have HV := Lib.hid hvb
      gi_wp2
      refine ⟨HR2.out.2.2, ?_⟩
      show OfSt w v sb (bts (texts t)) B2 (onlyF v (t.take (k + 1))) W2
      rw [HN.out, HV.out]
      simpa using HR2.out.1
    | true =>
      have HV := Lib.hid hvb
      have HOW := Lib.hid hown2
      gi_wp2_with (gi_at_builtin; go_must (refine wpListIn_append_own _ rfl _ _ 22 rfl (max B2 (w.heap.size + 3)) 43 i0 (.agg #[.int .i32 0, .bool false, .int .i32 0]) 3 12 Try.underlying22 HI.out.1 HI.out.2.1 HI.out.2.2.1 HI.out.2.2.2 rfl (by decide) _ _ _ rfl (HOW.out.alloc _) ⟨W2.heap.size, 0, none⟩ 1 1 (phC p) rfl rfl (Rd.at_add (rd_new W2 43 #[.int .i32 p.1, .bool p.2.1, .int .i32 p.2.2] 3 rfl)) (by simp [phC, Value.oneCell']) (by unfold maxLen; omega) (by omega) (by simp; omega) ?_; intro v' w5 hown5 hgrow _; obtain ⟨X9, C9, e9⟩ := own_slice hown5; subst e9; have H5 := Lib.hid (of_step HR2.out.1 HR2.out.2.1 HOW.out hown5 hgrow (by omega) (by omega)); clear hown5 hgrow; have c5 := H5.out.1.cell 0; have f5 := H5.out.1.frozen 0))
      refine ⟨(HR2.out.2.2.trans (H5.out.2.2.weak (fun b _ hb => .inr hb))).setCell (.inl (.inl ⟨by show w.heap.size + 1 + 1 < w3.heap.size; omega, by show ¬ w.heap.size + 1 + 1 = sb; omega⟩)) _, ?_⟩
      show OfSt w v sb (bts (texts t)) B2 (onlyF v (t.take (k + 1))) _
      rw [HN.out, HV.out, if_pos rfl]
      exact H5.out.2.1
  case done =>
    rintro B2 W hS hmk
    have hS : OfSt w v sb (bts (texts t)) B2 (onlyF v (t.take t.length)) W := hS
    rw [List.take_length] at hS
    obtain ⟨X, C, hO, hown⟩ := hS.bo
    have co : W.cell? ⟨w.heap.size + 1 + 1, 0, none⟩ = some (.slice X (onlyF v t).length C) := hO.cell 0
    have HW := Lib.hid (And.intro hS (And.intro hown hmk))
    clear hS hO hown hmk
    go_wp2
    refine leaves_marks2 (B := w3.heap.size) (S := fun b => b = w3.heap.size) ⟨w3.heap.size, rfl, Nat.le_refl _, HW.out.2.2, fun d hd => by simp at hd, trivial⟩ (fun d hd r hr => by
      rw [List.mem_singleton] at hd
      subst hd
      injection hr with hr
      exact hr.symm) ?_
    intro w' ho
    refine ⟨.slice X (onlyF v t).length C, by simp [results, Try.results136, go_sem], X, C, by rw [HTT.out], ?_, ?_⟩
    · rw [HTT.out]
      have hlt := (Array.getElem?_eq_some_iff.1 HW.out.2.2).1
      refine own_lower (own_only HW.out.2.1 ho (fun k _ _ hkk hs => ?_)) (by omega)
      subst hs
      have hd := HW.out.2.1.2
      rcases hd with ⟨hv, _⟩ | ⟨g, cap, cur, hv, _, hg, _⟩
      · rw [hv] at hkk; cases hkk
      · rw [hv] at hkk
        simp only [Value.ownBlock, Option.some.injEq] at hkk
        subst hkk
        rw [HW.out.2.2] at hg
        cases hg
    · exact HW.out.1.below.trans (ho.below HW.out.1.below.size (fun b hb hs => by omega))
  case stop =>
    rintro B2 c k W _ _ h
    exact h.elim
end Go.Proofs.Ytogofchpocoebaa
