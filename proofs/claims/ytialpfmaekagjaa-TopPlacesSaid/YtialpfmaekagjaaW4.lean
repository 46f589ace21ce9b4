/- word.Scan: what it hands over, one behind another. -/
import Derived.Test.YtialpfmaekagjaaW3
namespace Go.Proofs.Ytialpfmaekagjaa
open Go.RowKit
attribute [local go_sem] Oper.semAt_some

theorem scan_call (s : ByteArray) (w : World) : Calls Try.prog 27 #[.string s] w fun e w' => e = .returned (.func (.func 37) #[] #[.pointer (some ⟨w.heap.size, 0, none⟩)]) ∧ w' = w.alloc (.cells #[.string s] 9) := by
  go_enter Try.func27, Try.ntmps27
  go_wp2
  go_ret
  exact ⟨rfl, rfl⟩

def scanGo : Sc → List Pc → List Tok
  | s, [] => endF s
  | s, p :: r => if (fitF s p).1 == 2 then scanGo (fitF s p).2 r else if (fitF s p).1 == 1 then scanGo { (fitF s p).2 with tt := p.1 + p.2.1 } r else endF (fitF s p).2 ++ scanGo (begF (fitF s p).2 p) r
def sc0 : Sc := ⟨0, 0, 0, 0, none⟩
theorem fitF_code (s : Sc) (p : Pc) : (fitF s p).1 = 0 ∨ (fitF s p).1 = 1 ∨ (fitF s p).1 = 2 := by
  unfold fitF
  split
  · split
    · exact .inr (.inl rfl)
    · split
      · exact .inr (.inr rfl)
      · exact .inl rfl
  · split
    · split
      · exact .inr (.inl rfl)
      · exact .inl rfl
    · exact .inl rfl
theorem fitF_ok {s : Sc} (p : Pc) (h : okSt s = true) : okSt (fitF s p).2 = true := by
  unfold fitF
  split
  · split
    · rfl
    · split
      · rfl
      · exact h
  · split
    · split <;> exact h
    · exact h
theorem begF_ok (s : Sc) (p : Pc) : okSt (begF s p) = true := by
  unfold begF
  split
  · rfl
  · split <;> rfl

/-- memory while Scan runs -/
structure SnSt (W0 : World) (l sb usb : Nat) (s : ByteArray) (sc : Sc) (W : World) : Prop where
  by_ : Blk W W0.heap.size 84 #[.func (.yield l) #[] #[]]
  bc : Blk W (W0.heap.size + 1) 89 (scC sc)
  bs : Blk W sb 9 #[.string s]
  bp : Blk W usb 9 #[.string s]
  l1 : sb < W0.heap.size
  l2 : usb = W0.heap.size + 2
theorem SnSt.only {W0 : World} {l sb usb : Nat} {s : ByteArray} {sc : Sc} {W W' : World} {S : Nat → Prop} (h : SnSt W0 l sb usb s sc W) (ho : Only S W W') (hS : ∀ b, S b → usb < b ∨ (b < W0.heap.size ∧ b ≠ sb)) : SnSt W0 l sb usb s sc W' :=
  ⟨h.by_.only ho (fun hs => by have := hS _ hs; have := h.l2; omega), h.bc.only ho (fun hs => by have := hS _ hs; have := h.l2; omega), h.bs.only ho (fun hs => by have := hS _ hs; have := h.l2; have := h.l1; omega), h.bp.only ho (fun hs => by have := hS _ hs; have := h.l2; omega), h.l1, h.l2⟩
theorem SnSt.to {W0 : World} {l sb usb : Nat} {s : ByteArray} {sc sc' : Sc} {W W' : World} (h : SnSt W0 l sb usb s sc W) (ho : Only (fun b => b = W0.heap.size + 1) W W') (hB : Blk W' (W0.heap.size + 1) 89 (scC sc')) : SnSt W0 l sb usb s sc' W' :=
  ⟨h.by_.only ho (by omega), hB, h.bs.only ho (by have := h.l1; omega), h.bp.only ho (by have := h.l2; omega), h.l1, h.l2⟩
theorem sc_tt (s : Sc) (w : World) (scb : Nat) (x : Int) (h : Blk w scb 89 (scC s)) : Blk (w.setCell ⟨scb, 3, none⟩ (.int .i64 x)) scb 89 (scC { s with tt := x }) := by
  have he : (scC s).setIfInBounds 3 (.int .i64 x) = scC { s with tt := x } := by
    obtain ⟨a, b, c, d, e, h1, h2⟩ := scC_held s
    rw [h1]
    unfold scC
    dsimp only
    rw [h2]
    simp
  rw [← he]
  exact h.set_ 3 _

set_option maxHeartbeats 8000000 in
theorem scan_gives (s : ByteArray) (sb : Nat) (W : World) (hsb : Blk W sb 9 #[.string s]) (hz : s.size ≤ 70000) (hok : (pcs s).all okP = true) (hok2 : (pcs s).all okK = true) :
    GivesT Try.prog 37 #[.pointer (some ⟨sb, 0, none⟩)] ((scanGo sc0 (pcs s)).map tkA) (fun b => b = sb) W := by
  intro l J hJ hY h0
  show Calls Try.prog 37 #[.func (.yield l) #[] #[], .pointer (some ⟨sb, 0, none⟩)] W _
  have HJ := Lib.hid (And.intro hJ h0)
  have HY := Lib.hid (show YieldsT Try.prog W (fun b => b = sb) l J from hY)
  have HZ := Lib.hid (And.intro hz (And.intro hok (List.all_eq_true.1 hok2)))
  have hlt := hsb.lt
  have HB := Lib.hid hsb
  clear hJ hY h0 hz hok hsb hok2
  refine calls_of_wp_marks Try.func37 rfl ?_
  simp only [Try.ntmps37, List.size_toArray, List.length_cons, List.length_nil, Nat.reduceAdd, Nat.reduceSub, Array.replicate_succ, Array.replicate_zero, List.push_toArray, List.append_toArray, List.nil_append, List.cons_append]
  go_upto_region 2 with (fail)
  refine wp_abs (fun wx => Blk wx W.heap.size 84 #[.func (.yield l) #[] #[]] ∧ Blk wx (W.heap.size + 1) 89 (scC sc0) ∧ Below W.heap.size W wx ∧ wx.heap.size = W.heap.size + 2) ⟨(Blk.new W 84 _).alloc _, blk_new_eq (by simp), (((Below.refl _ _).alloc (Nat.le_refl _) _).alloc (by simp) _), by simp⟩ ?_
  rintro w1 ⟨hB0, hB1, hb, hz1⟩
  have cs : w1.cell? ⟨sb, 0, none⟩ = some (.string s) := (HB.out.below hb hlt).cell 0
  have H1 := Lib.hid (And.intro hB0 (And.intro hB1 hb))
  have HZ1 := Lib.hid hz1
  clear hB0 hB1 hb hz1
  go_wp2_with fail
  refine (units_call s w1).mono ?_
  rintro e w3 ⟨rfl, hw3⟩
  have hs3 : w3.heap.size = W.heap.size + 3 := by rw [hw3]; have := HZ1.out; simp; omega
  have hb3 : Below W.heap.size W w3 := by rw [hw3]; exact H1.out.2.2.alloc H1.out.2.2.size _
  have hS : SnSt W l sb w1.heap.size s sc0 w3 := by
    rw [hw3]
    exact ⟨H1.out.1.alloc _, H1.out.2.1.alloc _, (HB.out.below H1.out.2.2 hlt).alloc _, Blk.new _ _ _, hlt, HZ1.out⟩
  have hJ0 : J ((scanGo sc0 (pcs s)).map tkA) (fun _ => False) w3 := HJ.out.1 _ _ _ _ HJ.out.2 (Only.of_below hb3 _)
  have HS := Lib.hid (And.intro hS hJ0)
  have HS3 := Lib.hid hs3
  clear hS hw3 H1 hJ0 hb3 cs hs3
  generalize w1.heap.size = usb at *
  go_wp2
  refine wp_rangeE (gf := 49) (lb := #[.pointer (some ⟨usb, 0, none⟩)]) (pcs s) (fun p => #[uV p]) (C := fun b => b = usb) 87 (fun p => uC (some p)) ?F rfl (enters_of Try.func49 (by kernel_rfl) rfl)
    (fun W hb _ => units_gives s usb W (HS.out.1.bp.below hb HS.out.1.bp.lt) HZ.out.1 HZ.out.2.1) (fun b e => by rw [e]; exact HS.out.1.bp.lt) (fun p => rfl)
    (fun r S W' => ∃ sc : Sc, okSt sc = true ∧ SnSt W l sb usb s sc W' ∧ J ((scanGo sc r).map tkA) S W')
    (fun r S A A' ⟨u, h2, h3, h⟩ ho => ⟨u, h2, h3.only ho (fun b hb => .inl (by have := HZ1.out; have := HS3.out; omega)), HJ.out.1 _ _ _ _ h (ho.weak (fun b _ hb => ⟨by have := HS3.out; omega, hb.2⟩))⟩) ⟨sc0, rfl, HS.out.1, HS.out.2⟩
    ?assign ?body ?done
  case assign =>
    rintro l p W
    simp only [List.zip_toArray, List.zip_cons_cons, List.zip_nil_right, List.foldl_toArray', List.foldl_cons, List.foldl_nil]
    rw [show uV p = .agg #[.int .i64 (kd p), .int .i32 p.2.2.1, .int .i64 p.1, .int .i64 (p.1 + p.2.1), .bool true] from rfl]
    gi_wp2
    obtain ⟨pb, hpb⟩ : ∃ pb, pb = W.heap.size := ⟨_, rfl⟩
    rw [← hpb]
    refine ⟨rfl, ?_⟩
    exact rfl
  case body =>
    rintro l' p r S pb W' hsu ⟨sc, hok, hS, hj⟩ hP hSb hpb
    have hsz := hP.lt
    have hpk : okK p = true := HZ.out.2.2 p (hsu.subset (List.mem_cons_self ..))
    have cy : W'.cell? ⟨W.heap.size, 0, none⟩ = some (.func (.yield l) #[] #[]) := hS.by_.cell 0
    have p0 : W'.cell? ⟨pb, 0, none⟩ = some (.int .i64 (kd p)) := hP.cell 0
    have p1 : W'.cell? ⟨pb, 1, none⟩ = some (.int .i32 p.2.2.1) := hP.cell 1
    have p2 : W'.cell? ⟨pb, 2, none⟩ = some (.int .i64 p.1) := hP.cell 2
    have p3 : W'.cell? ⟨pb, 3, none⟩ = some (.int .i64 (p.1 + p.2.1)) := hP.cell 3
    have p4 : W'.cell? ⟨pb, 4, none⟩ = some (.bool true) := hP.cell 4
    have HR := Lib.hid (And.intro hS (And.intro hj (And.intro hP (And.intro hok hpk))))
    have HSB := Lib.hid (And.intro hSb hpb)
    clear hS hj hP hok hpk hSb hpb
    have wf : ∀ k, Fence.wide.fn k := fun _ => trivial
    have wd : Fence.wide.depth = none := rfl
    gi_wp2_with fail
    refine wpIn_scope_at 0 { tmps := #[.func (.yield l) #[] #[], .pointer (some ⟨sb, 0, none⟩), .pointer (some ⟨W.heap.size, 0, none⟩), .pointer (some ⟨W.heap.size + 1, 0, none⟩), .pointer (some ⟨pb, 0, none⟩), .string s, .func (.func 49) #[] #[.pointer (some ⟨usb, 0, none⟩)], .agg #[.int .i64 (kd p), .int .i32 p.2.2.1, .int .i64 p.1, .int .i64 (p.1 + p.2.1), .bool true], .agg #[.int .i64 (kd p), .int .i32 p.2.2.1, .int .i64 p.1, .int .i64 (p.1 + p.2.1), .bool true], .int .i64 1, .bool false, .bool false, .bool true, .bool true, undef, undef, undef, undef, undef, undef, undef, undef, undef, undef, undef, undef, undef], defers := [] } (fun w4 => SnSt W l sb usb s (fitF sc p).2 w4 ∧ J ((scanGo { (fitF sc p).2 with tt := p.1 + p.2.1 } r).map tkA) S w4 ∧ Blk w4 pb 87 (uC (some p)) ∧ Only (fun b => (b < w3.heap.size ∧ ¬ b = usb) ∨ S b) W' w4) rfl ?first ?pass
    case first =>
      gi_wp2_with fail
      refine (CallsIn.inRound l' (callsIn_wide.2 (fits_any sc p (W.heap.size + 1) W' HR.out.2.2.2.1 HR.out.1.bc))).mono ?_
      rintro e w4 ⟨rfl, hB, ho⟩
      have hl3 := HS3.out
      have hlu := HZ1.out
      have hnS : ¬ S (W.heap.size + 1) := fun h => by have := HSB.out.1 _ h; omega
      have hoT : Only (fun b => (b < w3.heap.size ∧ ¬ b = usb) ∨ S b) W' w4 := only_of ho (fun b e => by subst e; exact .inl (by omega))
      have HW := Lib.hid (And.intro (HR.out.1.to ho hB) (And.intro (HJ.out.1 _ _ _ _ HR.out.2.1 (only_of ho (fun b e => by subst e; exact ⟨by omega, hnS⟩))) (And.intro (HR.out.2.2.1.only ho (by have := HSB.out.2; omega)) hoT)))
      have hsz4 := ho.size
      have HSZ := Lib.hid hsz4
      have hbk := HW.out.2.2.1
      have cy4 : w4.cell? ⟨W.heap.size, 0, none⟩ = some (.func (.yield l) #[] #[]) := HW.out.1.by_.cell 0
      have q0 : w4.cell? ⟨pb, 0, none⟩ = some (.int .i64 (kd p)) := hbk.cell 0
      have q1 : w4.cell? ⟨pb, 1, none⟩ = some (.int .i32 p.2.2.1) := hbk.cell 1
      have q2 : w4.cell? ⟨pb, 2, none⟩ = some (.int .i64 p.1) := hbk.cell 2
      have q3 : w4.cell? ⟨pb, 3, none⟩ = some (.int .i64 (p.1 + p.2.1)) := hbk.cell 3
      have q4 : w4.cell? ⟨pb, 4, none⟩ = some (.bool true) := hbk.cell 4
      have hgo : scanGo sc (p :: r) = if (fitF sc p).1 == 2 then scanGo (fitF sc p).2 r else if (fitF sc p).1 == 1 then scanGo { (fitF sc p).2 with tt := p.1 + p.2.1 } r else endF (fitF sc p).2 ++ scanGo (begF (fitF sc p).2 p) r := rfl
      have hok2 := fitF_ok p HR.out.2.2.2.1
      have hpk := HR.out.2.2.2.2
      have hc := fitF_code sc p
      have HN := Lib.hid (And.intro hnS (And.intro hl3 hlu))
      clear hB ho hoT hsz4 hbk cy p0 p1 p2 p3 p4 HR hnS hl3 hlu
      generalize hfs : fitF sc p = fs at *
      obtain ⟨fc, sc2⟩ := fs
      have HFS := Lib.hid hfs
      clear hfs
      dsimp only at hgo hok2 hc ⊢
      have HG := Lib.hid hgo
      clear hgo
      rcases hc with h | h | h
      · subst h
        have HK := Lib.hid (And.intro hok2 hpk)
        have hj := HW.out.2.1
        rw [HG.out, if_neg (by decide), if_neg (by decide), List.map_append] at hj
        have HJ4 := Lib.hid hj
        clear hok2 hpk hj
        gi_wp2_with fail
        refine (CallsIn.inRound l' (callsIn_wide.2 (scEnd_any sc2 (W.heap.size + 1) l W w4 (fun b => b = sb) S J _ HK.out.1 HJ.out.1 HY.out HW.out.1.bc (by omega) (fun b hb => by have := HSB.out.1 b hb; have := HSB.out.2; have := HSZ.out; have := HN.out; omega) HN.out.1 HJ4.out))).mono ?_
        rintro e w5 ⟨rfl, S5, hj5, hS5, ho5⟩
        have hsn5 := HW.out.1.only ho5 (fun b hb => by
          have := HN.out
          rcases hb with hb | hb
          · omega
          · have := HSB.out.1 b hb; omega)
        have hb5 := HW.out.2.2.1.only ho5 (fun hb => by
          have := HSB.out.2; have := HN.out
          rcases hb with hb | hb
          · omega
          · have := HSB.out.1 _ hb; omega)
        have ho5' : Only (fun b => (b < w3.heap.size ∧ ¬ b = usb) ∨ S b) W' w5 := HW.out.2.2.2.trans (only_of ho5 (fun b hb => by
          have := HN.out
          rcases hb with hb | hb
          · exact .inl (by omega)
          · exact .inr hb))
        have HW5 := Lib.hid (And.intro hsn5 (And.intro hj5 (And.intro hb5 (And.intro ho5' (And.intro hS5 ho5.size)))))
        have r0 : w5.cell? ⟨pb, 0, none⟩ = some (.int .i64 (kd p)) := hb5.cell 0
        have r1 : w5.cell? ⟨pb, 1, none⟩ = some (.int .i32 p.2.2.1) := hb5.cell 1
        have r2 : w5.cell? ⟨pb, 2, none⟩ = some (.int .i64 p.1) := hb5.cell 2
        have r3 : w5.cell? ⟨pb, 3, none⟩ = some (.int .i64 (p.1 + p.2.1)) := hb5.cell 3
        have r4 : w5.cell? ⟨pb, 4, none⟩ = some (.bool true) := hb5.cell 4
        clear hsn5 hb5 ho5' hj5 hS5 ho5 cy4 q0 q1 q2 q3 q4
        gi_wp2_with fail
        refine (CallsIn.inRound l' (callsIn_wide.2 (begin_any sc2 p (W.heap.size + 1) w5 HK.out.2 HW5.out.1.bc))).mono ?_
        rintro e w6 ⟨⟨v, rfl⟩, hB6, ho6⟩
        have HW6 := Lib.hid (And.intro hB6 ho6)
        clear hB6 ho6 r0 r1 r2 r3 r4
        gi_wp2
        dsimp only [Exit.jumpOne]
        gi_wp2
        have hl := HN.out
        refine ⟨HW5.out.2.2.2.1.trans (only_of HW6.out.2 (fun b e => by subst e; exact .inl (by omega))), S5, ⟨begF sc2 p, begF_ok _ _, HW5.out.1.to HW6.out.2 HW6.out.1, HJ.out.1 _ _ _ _ HW5.out.2.1 (only_of HW6.out.2 (fun b e => by
          subst e
          refine ⟨by omega, fun h => ?_⟩
          have := HSZ.out
          rcases HW5.out.2.2.2.2.1 _ h with h | h
          · exact hl.1 h
          · have := HSB.out.2; omega))⟩, fun b h => ?_⟩
        have h6 := HW6.out.2.size
        rcases HW5.out.2.2.2.2.1 b h with h | h
        · exact .inl h
        · exact .inr (by have := HSZ.out; omega)
      · subst h
        have hj := HW.out.2.1
        rw [HG.out, if_neg (by decide), if_pos (by decide)] at hj
        have HJ4 := Lib.hid hj
        clear hok2 hpk hj q0 q1 q2 q3 q4 cy4
        gi_wp2
        refine wpIn_goto ?_
        exact ⟨rfl, rfl, by rw [HFS.out]; exact HW.out.1, by rw [HFS.out]; exact HJ4.out, HW.out.2.2.1, HW.out.2.2.2⟩
      · subst h
        have hj := HW.out.2.1
        rw [HG.out, if_pos (by decide)] at hj
        have HJ4 := Lib.hid hj
        have HK := Lib.hid hok2
        clear hok2 hpk hj q0 q1 q2 q3 q4 cy4
        gi_wp2
        dsimp only [Exit.jumpOne]
        gi_wp2
        exact ⟨HW.out.2.2.2, S, ⟨sc2, HK.out, HW.out.1, HJ4.out⟩, fun b h => .inl h⟩
    case pass =>
      rintro w4 ⟨hS, hj, hP, hoT⟩
      have hl3 := HS3.out
      have hlu := HZ1.out
      have hok2 := fitF_ok p HR.out.2.2.2.1
      have HX := Lib.hid (And.intro hS (And.intro hj (And.intro hoT (And.intro hok2 (And.intro hl3 hlu)))))
      have q3 : w4.cell? ⟨pb, 3, none⟩ = some (.int .i64 (p.1 + p.2.1)) := hP.cell 3
      obtain ⟨a, b, c, d, e, he, _⟩ := scC_held (fitF sc p).2
      have hbc := hS.bc
      rw [he] at hbc
      have x3 : w4.cell? ⟨W.heap.size + 1, 3, none⟩ = some (.int .i64 (fitF sc p).2.tt) := hbc.cell 3
      have f3 : w4.frozen? ⟨W.heap.size + 1, 3, none⟩ = false := hbc.frozen 3
      clear hS hj hP hoT hok2 hl3 hlu he hbc
      gi_wp2
      have ho := Only.setCell (S := fun b => b = W.heap.size + 1) (p := ⟨W.heap.size + 1, 3, none⟩) (Only.refl _ w4) (.inl rfl) (.int .i64 (p.1 + p.2.1))
      have hl := HX.out.2.2.2.2
      exact ⟨HX.out.2.2.1.trans (only_of ho (fun b e => by subst e; exact .inl (by omega))), S, ⟨{ (fitF sc p).2 with tt := p.1 + p.2.1 }, HX.out.2.2.2.1, HX.out.1.to ho (sc_tt _ _ _ _ HX.out.1.bc), HJ.out.1 _ _ _ _ HX.out.2.1 (only_of ho (fun b e => by subst e; exact ⟨by omega, fun h => by have := HSB.out.1 _ h; omega⟩))⟩, fun b h => .inl h⟩
  case done =>
    rintro S W' hSb hBW ⟨sc, hok, hS, hj⟩ hmk
    have hl3 := HS3.out
    have hlu := HZ1.out
    have cy : W'.cell? ⟨W.heap.size, 0, none⟩ = some (.func (.yield l) #[] #[]) := hS.by_.cell 0
    have HK := Lib.hid (And.intro hS (And.intro hj (And.intro hok hmk)))
    have HL := Lib.hid (And.intro hSb (And.intro hl3 hlu))
    clear hS hj hok hmk hSb hl3 hlu
    go_wp2_with fail
    refine (scEnd_any sc (W.heap.size + 1) l W W' (fun b => b = sb) S J [] HK.out.2.2.1 HJ.out.1 HY.out HK.out.1.bc (by omega) (fun b hb => by have := HL.out.1 b hb; have := HL.out.2; omega) (fun h => by have := HL.out.1 _ h; have := HL.out.2; omega) (by rw [List.append_nil]; exact HK.out.2.1)).mono ?_
    rintro e w4 ⟨rfl, S4, hj4, hS4, ho4⟩
    have hmk4 := (ho4.block _ (Array.getElem?_eq_some_iff.1 HK.out.2.2.2).1 (fun h => by
      have := HL.out.2
      rcases h with h | h
      · omega
      · have := HL.out.1 _ h; omega)).trans HK.out.2.2.2
    have HW4 := Lib.hid (And.intro hmk4 (And.intro hj4 (And.intro hS4 ho4.size)))
    clear hmk4 hj4 hS4 ho4 cy
    go_wp2
    refine leaves_one (D := w3.heap.size) HW4.out.1 ?_
    intro w' ho
    have hl := HL.out.2
    refine ⟨_, results_none rfl _ _ _, ⟨_, rfl⟩, S4, fun b h => ?_, HJ.out.1 _ _ _ _ HW4.out.2.1 (only_of ho (fun b e => by
        subst e
        refine ⟨by omega, fun h => ?_⟩
        rcases HW4.out.2.2.1 _ h with h | h
        · have := HL.out.1 _ h; omega
        · omega))⟩
    have h2 := ho.size
    have h3 := HW4.out.2.2.2
    rcases HW4.out.2.2.1 b h with h | h
    · have := HL.out.1 b h; omega
    · omega
end Go.Proofs.Ytialpfmaekagjaa
