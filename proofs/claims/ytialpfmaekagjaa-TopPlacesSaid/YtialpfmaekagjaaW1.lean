/- word.units: a text's units where no piece is a mark: each piece is one. -/
import Derived.Test.YtialpfmaekagjaaC2
import Derived.Test.YtialpfmaekagjaaR3
namespace Go.Proofs.Ytialpfmaekagjaa
open Go.RowKit
attribute [local go_sem] Oper.semAt_some

/-- a piece's kind -/
def kd (p : Pc) : Int := if p.2.2.2 then 11 else kindF p.2.2.1
/-- no mark, and it ends behind the text's beginning -/
def okP (p : Pc) : Bool := !(kd p == 2) && decide (0 < p.1 + p.2.1) && decide (p.1 + p.2.1 < 100000) && decide (0 ≤ p.1)
def uV (p : Pc) : Value := .agg #[.int .i64 (kd p), .int .i32 p.2.2.1, .int .i64 p.1, .int .i64 (p.1 + p.2.1), .bool true]
def uC : Option Pc → Array Value
  | none => #[.int .i64 0, .int .i32 0, .int .i64 0, .int .i64 0, .bool false]
  | some p => #[.int .i64 (kd p), .int .i32 p.2.2.1, .int .i64 p.1, .int .i64 (p.1 + p.2.1), .bool true]
def uL (u : Option Pc) (l : List Pc) : List (Array Value) := (u.toList ++ l).map fun p => #[uV p]

theorem units_call (s : ByteArray) (w : World) : Calls Try.prog 38 #[.string s] w fun e w' => e = .returned (.func (.func 49) #[] #[.pointer (some ⟨w.heap.size, 0, none⟩)]) ∧ w' = w.alloc (.cells #[.string s] 9) := by
  go_enter Try.func38, Try.ntmps38
  go_wp2
  go_ret
  exact ⟨rfl, rfl⟩

/-- memory while units runs -/
structure UnSt (W0 : World) (l sb psb : Nat) (s : ByteArray) (u : Option Pc) (W : World) : Prop where
  by_ : Blk W W0.heap.size 114 #[.func (.yield l) #[] #[]]
  bu : Blk W (W0.heap.size + 1) 87 (uC u)
  bs : Blk W sb 9 #[.string s]
  bp : Blk W psb 9 #[.string s]
  l1 : sb < W0.heap.size
  l2 : psb = W0.heap.size + 2
theorem UnSt.only {W0 : World} {l sb psb : Nat} {s : ByteArray} {u : Option Pc} {W W' : World} {S : Nat → Prop} (h : UnSt W0 l sb psb s u W) (ho : Only S W W') (hS : ∀ b, S b → psb < b ∨ (b < W0.heap.size ∧ b ≠ sb)) : UnSt W0 l sb psb s u W' :=
  ⟨h.by_.only ho (fun hs => by have := hS _ hs; have := h.l2; omega), h.bu.only ho (fun hs => by have := hS _ hs; have := h.l2; omega), h.bs.only ho (fun hs => by have := hS _ hs; have := h.l2; have := h.l1; omega), h.bp.only ho (fun hs => by have := hS _ hs; have := h.l2; omega), h.l1, h.l2⟩
theorem UnSt.on {W0 : World} {l sb psb : Nat} {s : ByteArray} {u : Option Pc} {W W' : World} (h : UnSt W0 l sb psb s u W) (hb : Below W.heap.size W W') : UnSt W0 l sb psb s u W' :=
  h.only (S := fun _ => False) (Only.of_below hb _) (fun _ h => h.elim)

theorem uC_size (u : Option Pc) : (uC u).size = 5 := by cases u <;> rfl
theorem UnSt.put {W0 : World} {l sb psb : Nat} {s : ByteArray} {u : Option Pc} {W : World} (h : UnSt W0 l sb psb s u W) (p : Pc) :
    UnSt W0 l sb psb s (some p) (((((W.setCell ⟨W0.heap.size + 1, 0, none⟩ (.int .i64 (kd p))).setCell ⟨W0.heap.size + 1, 1, none⟩ (.int .i32 p.2.2.1)).setCell ⟨W0.heap.size + 1, 2, none⟩ (.int .i64 p.1)).setCell ⟨W0.heap.size + 1, 3, none⟩ (.int .i64 (p.1 + p.2.1))).setCell ⟨W0.heap.size + 1, 4, none⟩ (.bool true)) ∧
    Only (fun b => b = W0.heap.size + 1) W (((((W.setCell ⟨W0.heap.size + 1, 0, none⟩ (.int .i64 (kd p))).setCell ⟨W0.heap.size + 1, 1, none⟩ (.int .i32 p.2.2.1)).setCell ⟨W0.heap.size + 1, 2, none⟩ (.int .i64 p.1)).setCell ⟨W0.heap.size + 1, 3, none⟩ (.int .i64 (p.1 + p.2.1))).setCell ⟨W0.heap.size + 1, 4, none⟩ (.bool true)) := by
  have ho : Only (fun b => b = W0.heap.size + 1) W (((((W.setCell ⟨W0.heap.size + 1, 0, none⟩ (.int .i64 (kd p))).setCell ⟨W0.heap.size + 1, 1, none⟩ (.int .i32 p.2.2.1)).setCell ⟨W0.heap.size + 1, 2, none⟩ (.int .i64 p.1)).setCell ⟨W0.heap.size + 1, 3, none⟩ (.int .i64 (p.1 + p.2.1))).setCell ⟨W0.heap.size + 1, 4, none⟩ (.bool true)) :=
    (((((Only.refl (fun b => b = W0.heap.size + 1) W).setCell (.inl rfl) _).setCell (.inl rfl) _).setCell (.inl rfl) _).setCell (.inl rfl) _).setCell (.inl rfl) _
  refine ⟨⟨h.by_.only ho (by omega), ?_, h.bs.only ho (by have := h.l1; omega), h.bp.only ho (by have := h.l2; omega), h.l1, h.l2⟩, ho⟩
  have := ((((h.bu.set_ 0 (.int .i64 (kd p))).set_ 1 (.int .i32 p.2.2.1)).set_ 2 (.int .i64 p.1)).set_ 3 (.int .i64 (p.1 + p.2.1))).set_ 4 (.bool true)
  cases u with
  | none => exact this
  | some q => exact this
/-- a loop's frame, where only blocks of its own turn -/
theorem only_of {W W' : World} {S T : Nat → Prop} (h : Only S W W') (hs : ∀ b, S b → T b) : Only T W W' := h.weak (fun b _ hb => hs b hb)

set_option maxHeartbeats 8000000 in
theorem units_gives (s : ByteArray) (sb : Nat) (W : World) (hsb : Blk W sb 9 #[.string s]) (hz : s.size ≤ 70000) (hok : (pcs s).all okP = true) :
    GivesT Try.prog 49 #[.pointer (some ⟨sb, 0, none⟩)] ((pcs s).map fun p => #[uV p]) (fun b => b = sb) W := by
  intro l J hJ hY h0
  show Calls Try.prog 49 #[.func (.yield l) #[] #[], .pointer (some ⟨sb, 0, none⟩)] W _
  have HJ := Lib.hid (And.intro hJ h0)
  have HY := Lib.hid hY
  have HZ := Lib.hid (And.intro hz (List.all_eq_true.1 hok))
  have hlt := hsb.lt
  have HB := Lib.hid hsb
  clear hJ hY h0 hz hok hsb
  refine calls_of_wp_marks Try.func49 rfl ?_
  simp only [Try.ntmps49, List.size_toArray, List.length_cons, List.length_nil, Nat.reduceAdd, Nat.reduceSub, Array.replicate_succ, Array.replicate_zero, List.push_toArray, List.append_toArray, List.nil_append, List.cons_append]
  go_upto_region 2 with (fail)
  refine wp_abs (fun wx => Blk wx W.heap.size 114 #[.func (.yield l) #[] #[]] ∧ Blk wx (W.heap.size + 1) 87 (uC none) ∧ Below W.heap.size W wx ∧ wx.heap.size = W.heap.size + 2) ⟨(Blk.new W 114 _).alloc _, blk_new_eq (by simp), (((Below.refl _ _).alloc (Nat.le_refl _) _).alloc (by simp) _), by simp⟩ ?_
  rintro w1 ⟨hB0, hB1, hb, hz1⟩
  have cs : w1.cell? ⟨sb, 0, none⟩ = some (.string s) := (HB.out.below hb hlt).cell 0
  have H1 := Lib.hid (And.intro hB0 (And.intro hB1 hb))
  have HZ1 := Lib.hid hz1
  clear hB0 hB1 hb hz1
  go_wp2_with fail
  refine (pieces_call s w1).mono ?_
  rintro e w3 ⟨rfl, hw3⟩
  have hs3 : w3.heap.size = W.heap.size + 3 := by rw [hw3]; have := HZ1.out; simp; omega
  have hb3 : Below W.heap.size W w3 := by rw [hw3]; exact H1.out.2.2.alloc H1.out.2.2.size _
  have hS : UnSt W l sb w1.heap.size s none w3 := by
    rw [hw3]
    exact ⟨H1.out.1.alloc _, H1.out.2.1.alloc _, (HB.out.below H1.out.2.2 hlt).alloc _, Blk.new _ _ _, hlt, HZ1.out⟩
  have hJ0 : J (uL none (pcs s)) (fun _ => False) w3 := HJ.out.1 _ _ _ _ HJ.out.2 (Only.of_below hb3 _)
  have HS := Lib.hid (And.intro hS hJ0)
  clear hS hw3 H1 hJ0 hb3 cs
  generalize w1.heap.size = psb at *
  go_wp2
  refine wp_rangeE (gf := 35) (lb := #[.pointer (some ⟨psb, 0, none⟩)]) (pcs s) (fun p => #[pcV p]) (C := fun b => b = psb) 33 pcC ?F rfl (enters_of Try.func35 (by kernel_rfl) rfl)
    (fun W hb _ => pieces_gives s psb W (HS.out.1.bp.below hb HS.out.1.bp.lt) HZ.out.1) (fun b e => by rw [e]; exact HS.out.1.bp.lt) (fun p => rfl)
    (fun r S W' => ∃ (u : Option Pc), (∀ p, u = some p → okP p = true) ∧ UnSt W l sb psb s u W' ∧ J (uL u r) S W')
    (fun r S A A' ⟨u, h2, h3, h⟩ ho => ⟨u, h2, h3.only ho (fun b hb => .inl (by have := HZ1.out; omega)), HJ.out.1 _ _ _ _ h (ho.weak (fun b _ hb => ⟨by omega, hb.2⟩))⟩) ⟨none, (fun _ h => nomatch h), HS.out.1, HS.out.2⟩
    ?assign ?body ?done
  case assign =>
    rintro l p W
    simp only [List.zip_toArray, List.zip_cons_cons, List.zip_nil_right, List.foldl_toArray', List.foldl_cons, List.foldl_nil]
    rw [show pcV p = .agg #[.int .i64 p.1, .int .i64 p.2.1, .int .i32 p.2.2.1, .bool p.2.2.2] from rfl]
    gi_wp2
    obtain ⟨pb, hpb⟩ : ∃ pb, pb = W.heap.size := ⟨_, rfl⟩
    rw [← hpb]
    refine ⟨rfl, ?_⟩
    exact rfl
  case body =>
    rintro l' p r S pb W' hsu ⟨u, hu, hS, hj⟩ hP hSb hpb
    have hsz := hP.lt
    have hpo : okP p = true := HZ.out.2 p (hsu.subset (List.mem_cons_self ..))
    have cy : W'.cell? ⟨W.heap.size, 0, none⟩ = some (.func (.yield l) #[] #[]) := hS.by_.cell 0
    have p0 : W'.cell? ⟨pb, 0, none⟩ = some (.int .i64 p.1) := hP.cell 0
    have p1 : W'.cell? ⟨pb, 1, none⟩ = some (.int .i64 p.2.1) := hP.cell 1
    have p2 : W'.cell? ⟨pb, 2, none⟩ = some (.int .i32 p.2.2.1) := hP.cell 2
    have p3 : W'.cell? ⟨pb, 3, none⟩ = some (.bool p.2.2.2) := hP.cell 3
    have HR := Lib.hid (And.intro hS (And.intro hj (And.intro hP hu)))
    clear hS hj hP hu
    have wf : ∀ k, Fence.wide.fn k := fun _ => trivial
    have wd : Fence.wide.depth = none := rfl
    gi_wp2_with fail
    refine (CallsIn.inRound l' (callsIn_wide.2 (of_any p.1 p.2.1 p.2.2.1 p.2.2.2 _))).mono ?_
    rintro e w2 ⟨rfl, hb⟩
    rw [show (if p.2.2.2 = true then (11 : Int) else kindF p.2.2.1) = kd p from rfl]
    simp only [okP, Bool.and_eq_true, decide_eq_true_eq, Bool.not_eq_true'] at hpo
    obtain ⟨⟨⟨hk2, ht0⟩, ht1⟩, ha0⟩ := hpo
    have hpw : IntKind.i64.wrap (p.1 + p.2.1) = p.1 + p.2.1 := IntWalk.i64_in _ (by omega)
    have hpo2 : okP p = true := HZ.out.2 p (hsu.subset (List.mem_cons_self ..))
    have HPO := Lib.hid (And.intro hpo2 hsu)
    have HW2 := Lib.hid (And.intro (HR.out.1.on hb) (And.intro (HJ.out.1 _ _ _ _ HR.out.2.1 (Only.of_below hb _)) (And.intro (HR.out.2.2.1.below hb HR.out.2.2.1.lt) (And.intro (Only.of_below hb (fun b => (b < w3.heap.size ∧ ¬ b = psb) ∨ S b)) (Nat.le_trans hsz hb.size)))))
    have HSB := Lib.hid hSb
    have hu := HR.out.2.2.2
    have hsl : w3.heap.size = W.heap.size + 3 ∧ psb = W.heap.size + 2 := ⟨hs3, HZ1.out⟩
    have HSL := Lib.hid hsl
    clear hb cy p0 p1 p2 p3 HR hpo2 hsl hsu hSb
    have cy : w2.cell? ⟨W.heap.size, 0, none⟩ = some (.func (.yield l) #[] #[]) := HW2.out.1.by_.cell 0
    have p0 : w2.cell? ⟨pb, 0, none⟩ = some (.int .i64 p.1) := HW2.out.2.2.1.cell 0
    have p1 : w2.cell? ⟨pb, 1, none⟩ = some (.int .i64 p.2.1) := HW2.out.2.2.1.cell 1
    have p2 : w2.cell? ⟨pb, 2, none⟩ = some (.int .i32 p.2.2.1) := HW2.out.2.2.1.cell 2
    cases u with
    | none =>
      have u0 : w2.cell? ⟨W.heap.size + 1, 0, none⟩ = some (.int .i64 0) := HW2.out.1.bu.cell 0
      have u1 : w2.cell? ⟨W.heap.size + 1, 1, none⟩ = some (.int .i32 0) := HW2.out.1.bu.cell 1
      have u2 : w2.cell? ⟨W.heap.size + 1, 2, none⟩ = some (.int .i64 0) := HW2.out.1.bu.cell 2
      have u3 : w2.cell? ⟨W.heap.size + 1, 3, none⟩ = some (.int .i64 0) := HW2.out.1.bu.cell 3
      have u4 : w2.cell? ⟨W.heap.size + 1, 4, none⟩ = some (.bool false) := HW2.out.1.bu.cell 4
      have g0 : w2.frozen? ⟨W.heap.size + 1, 0, none⟩ = false := HW2.out.1.bu.frozen 0
      have g1 : w2.frozen? ⟨W.heap.size + 1, 1, none⟩ = false := HW2.out.1.bu.frozen 1
      have g2 : w2.frozen? ⟨W.heap.size + 1, 2, none⟩ = false := HW2.out.1.bu.frozen 2
      have g3 : w2.frozen? ⟨W.heap.size + 1, 3, none⟩ = false := HW2.out.1.bu.frozen 3
      have g4 : w2.frozen? ⟨W.heap.size + 1, 4, none⟩ = false := HW2.out.1.bu.frozen 4
      gi_wp2
      have hp := HW2.out.1.put p
      refine ⟨HW2.out.2.2.2.1.trans (only_of hp.2 (fun b e => by have := HSL.out; exact .inl (by omega))), S, ⟨some p, (fun x hx => by cases hx; exact HPO.out.1), hp.1, ?_⟩, fun b h => .inl h⟩
      exact HJ.out.1 _ _ _ _ HW2.out.2.1 (only_of hp.2 (fun b e => by have := HSL.out; subst e; exact ⟨by omega, fun h => by have := HSB.out _ h; omega⟩))
    | some q =>
      have hqo : okP q = true := hu q rfl
      simp only [okP, Bool.and_eq_true, decide_eq_true_eq, Bool.not_eq_true'] at hqo
      have hq0 : decide (0 < q.1 + q.2.1) = true := by simp only [decide_eq_true_eq]; exact hqo.1.1.2
      have hq1 : 0 < q.1 + q.2.1 := hqo.1.1.2
      clear hqo hu
      have u0 : w2.cell? ⟨W.heap.size + 1, 0, none⟩ = some (.int .i64 (kd q)) := HW2.out.1.bu.cell 0
      have u1 : w2.cell? ⟨W.heap.size + 1, 1, none⟩ = some (.int .i32 q.2.2.1) := HW2.out.1.bu.cell 1
      have u2 : w2.cell? ⟨W.heap.size + 1, 2, none⟩ = some (.int .i64 q.1) := HW2.out.1.bu.cell 2
      have u3 : w2.cell? ⟨W.heap.size + 1, 3, none⟩ = some (.int .i64 (q.1 + q.2.1)) := HW2.out.1.bu.cell 3
      have u4 : w2.cell? ⟨W.heap.size + 1, 4, none⟩ = some (.bool true) := HW2.out.1.bu.cell 4
      obtain ⟨fn, tmps, assign, body, hy, hR⟩ : YieldAt (Fence.wide.inRound l') 0 Try.prog l #[uV q] w2 _ := HY.out _ _ S w2 (fun b h => by have := HSL.out; have := HSB.out b h; have := HW2.out.2.2.2.2; omega) (by have := HW2.out.2.2.2.2; have := HSL.out; omega) HW2.out.2.1
      have HRR := Lib.hid hR
      clear hR
      rw [show uV q = .agg #[.int .i64 (kd q), .int .i32 q.2.2.1, .int .i64 q.1, .int .i64 (q.1 + q.2.1), .bool true] from rfl] at hy
      gi_wp2_with (with_reducible refine HRR.out.mono ?_)
      rintro e w4 ⟨rfl, S', hj4, hS', ho4⟩
      have hl := HSL.out
      have hsb := HSB.out
      have HW4 := Lib.hid (And.intro (HW2.out.1.only ho4 (fun b hb => by rcases hb with hb | hb; omega; have := hsb b hb; omega)) (And.intro hj4 (And.intro (HW2.out.2.2.1.only ho4 (fun hb => by rcases hb with hb | hb; omega; have := hsb _ hb; omega)) (And.intro (HW2.out.2.2.2.1.trans (only_of ho4 (fun b hb => by rcases hb with hb | hb; exact .inl (by omega); exact .inr hb))) (And.intro hS' ho4.size)))))
      have p0' : w4.cell? ⟨pb, 0, none⟩ = some (.int .i64 p.1) := HW4.out.2.2.1.cell 0
      have p1' : w4.cell? ⟨pb, 1, none⟩ = some (.int .i64 p.2.1) := HW4.out.2.2.1.cell 1
      have p2' : w4.cell? ⟨pb, 2, none⟩ = some (.int .i32 p.2.2.1) := HW4.out.2.2.1.cell 2
      have v0 : w4.cell? ⟨W.heap.size + 1, 0, none⟩ = some (.int .i64 (kd q)) := HW4.out.1.bu.cell 0
      have g0 : w4.frozen? ⟨W.heap.size + 1, 0, none⟩ = false := HW4.out.1.bu.frozen 0
      have v1 : w4.cell? ⟨W.heap.size + 1, 1, none⟩ = some (.int .i32 q.2.2.1) := HW4.out.1.bu.cell 1
      have g1 : w4.frozen? ⟨W.heap.size + 1, 1, none⟩ = false := HW4.out.1.bu.frozen 1
      have v2 : w4.cell? ⟨W.heap.size + 1, 2, none⟩ = some (.int .i64 q.1) := HW4.out.1.bu.cell 2
      have g2 : w4.frozen? ⟨W.heap.size + 1, 2, none⟩ = false := HW4.out.1.bu.frozen 2
      have v3 : w4.cell? ⟨W.heap.size + 1, 3, none⟩ = some (.int .i64 (q.1 + q.2.1)) := HW4.out.1.bu.cell 3
      have g3 : w4.frozen? ⟨W.heap.size + 1, 3, none⟩ = false := HW4.out.1.bu.frozen 3
      have v4 : w4.cell? ⟨W.heap.size + 1, 4, none⟩ = some (.bool true) := HW4.out.1.bu.cell 4
      have g4 : w4.frozen? ⟨W.heap.size + 1, 4, none⟩ = false := HW4.out.1.bu.frozen 4
      clear hj4 ho4 HRR hy p0 p1 p2 u0 u1 u2 u3 u4 hl cy hsb hS'
      gi_wp2
      have hp := HW4.out.1.put p
      refine ⟨HW4.out.2.2.2.1.trans (only_of hp.2 (fun b e => by have := HSL.out; exact .inl (by omega))), S', ⟨some p, (fun x hx => by cases hx; exact HPO.out.1), hp.1, ?_⟩, fun b h => ?_⟩
      · exact HJ.out.1 _ _ _ _ HW4.out.2.1 (only_of hp.2 (fun b e => by
          have := HSL.out
          subst e
          refine ⟨by omega, fun h => ?_⟩
          rcases HW4.out.2.2.2.2.1 _ h with h | h
          · have := HSB.out _ h; omega
          · have := HW2.out.2.2.2.2; omega))
      · have h1 := hp.2.size
        have h2 := HW2.out.2.2.2.1.size
        rcases HW4.out.2.2.2.2.1 _ h with h | h
        · exact .inl h
        · exact .inr (by omega)
  case done =>
    rintro S W' hSb hBW ⟨u, hu, hS, hj⟩ hmk
    have HSL := Lib.hid (And.intro hs3 HZ1.out)
    cases u with
    | none =>
      have u3 : W'.cell? ⟨W.heap.size + 1, 3, none⟩ = some (.int .i64 0) := hS.bu.cell 3
      have HW := Lib.hid (And.intro hS (And.intro hj hmk))
      clear hS hj hmk hu
      go_wp2
      refine leaves_one HW.out.2.2 ?_
      intro w' ho
      exact ⟨_, results_none rfl _ _ _, ⟨_, rfl⟩, S, fun b h => by have := hSb b h; have := ho.size; omega, HJ.out.1 _ _ _ _ HW.out.2.1 (only_of ho (fun b e => by subst e; exact ⟨by omega, fun h => by have := hSb _ h; omega⟩))⟩
    | some q =>
      have hqo : okP q = true := hu q rfl
      simp only [okP, Bool.and_eq_true, decide_eq_true_eq, Bool.not_eq_true'] at hqo
      have hq0 : decide (0 < q.1 + q.2.1) = true := by simp only [decide_eq_true_eq]; exact hqo.1.1.2
      have hq1 : 0 < q.1 + q.2.1 := hqo.1.1.2
      have cy : W'.cell? ⟨W.heap.size, 0, none⟩ = some (.func (.yield l) #[] #[]) := hS.by_.cell 0
      have u0 : W'.cell? ⟨W.heap.size + 1, 0, none⟩ = some (.int .i64 (kd q)) := hS.bu.cell 0
      have u1 : W'.cell? ⟨W.heap.size + 1, 1, none⟩ = some (.int .i32 q.2.2.1) := hS.bu.cell 1
      have u2 : W'.cell? ⟨W.heap.size + 1, 2, none⟩ = some (.int .i64 q.1) := hS.bu.cell 2
      have u3 : W'.cell? ⟨W.heap.size + 1, 3, none⟩ = some (.int .i64 (q.1 + q.2.1)) := hS.bu.cell 3
      have u4 : W'.cell? ⟨W.heap.size + 1, 4, none⟩ = some (.bool true) := hS.bu.cell 4
      obtain ⟨fn, tmps, assign, body, hy, hR⟩ := HY.out _ _ S W' (fun b h => by have := hSb b h; omega) (by omega) hj
      have HRR := Lib.hid hR
      clear hR
      replace hy : (Instr.yield l #[.agg #[.int .i64 (kd q), .int .i32 q.2.2.1, .int .i64 q.1, .int .i64 (q.1 + q.2.1), .bool true]]).run Try.prog W' = _ := hy
      have HW := Lib.hid (And.intro hS hmk)
      clear hS hj hmk hu hqo
      go_upto_region 11 with (fail)
      refine (wpIn_wide (n := 0)).1 ?_
      have wf : ∀ k, Fence.wide.fn k := fun _ => trivial
      have wd : Fence.wide.depth = none := rfl
      gi_wp2_with (with_reducible refine HRR.out.mono ?_)
      rintro e w4 ⟨rfl, S', hj4, hS', ho4⟩
      have hmk4 := (ho4.block _ (Array.getElem?_eq_some_iff.1 HW.out.2).1 (fun h => by rcases h with h | h; have := HSL.out; omega; have := hSb _ h; omega)).trans HW.out.2
      have HW4 := Lib.hid (And.intro hmk4 (And.intro hj4 (And.intro ho4.size hS')))
      clear hj4 ho4 hmk4 HRR hy u0 u1 u2 u3 u4 cy hS'
      gi_wp2
      go_wp2
      refine leaves_one (D := W.heap.size + 3) (by have h := HW4.out.1; rw [hs3] at h; exact h) ?_
      intro w' ho
      refine ⟨_, results_none rfl _ _ _, ⟨_, rfl⟩, S', fun b h => ?_, HJ.out.1 _ _ _ _ HW4.out.2.1 (only_of ho (fun b e => by
          subst e
          refine ⟨by have := HSL.out; omega, fun h => ?_⟩
          rcases HW4.out.2.2.2 _ h with h | h
          · have := hSb _ h; omega
          · omega))⟩
      have h1 := HSL.out
      have h2 := ho.size
      have h3 := HW4.out.2.2.1
      rcases HW4.out.2.2.2 b h with h | h
      · have := hSb b h; omega
      · omega
end Go.Proofs.Ytialpfmaekagjaa
