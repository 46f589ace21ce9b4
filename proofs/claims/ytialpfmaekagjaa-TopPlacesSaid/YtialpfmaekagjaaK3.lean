/- cluster.Count of the fixed text. -/
import Derived.Test.YtialpfmaekagjaaK2
import Derived.Maps.OwnIn
import Derived.OwnWalkIn
import Derived.Deep.DeepMust
namespace Go.Proofs.Ytialpfmaekagjaa
open Go.RowKit Go.Maps
attribute [local go_sem] Oper.semAt_some

theorem info112 : (Try.prog.info? 112).map (fun i => (i.zero, i.size, i.bytes)) = some (some (.agg #[.int .i64 0, .int .i64 0, .int .i64 0]), 3, 24) := by kernel_rfl
def ceL (c : Int × Int × Int) : List Value := [.int .i64 c.1, .int .i64 c.2.1, .int .i64 c.2.2]
theorem rd_newK (w : World) (t : TypeId) (cs : Array Value) (sz : Nat) (h : cs.size = sz) : Rd (w.alloc (.cells cs t)) w.heap.size (w.heap.size + 1) sz (some ⟨w.heap.size, 0, none⟩) 1 cs.toList := by
  refine ⟨by simp [h], fun _ => ⟨w.heap.size, 0, rfl, Nat.le_refl _, Nat.lt_succ_self _, fun j x hu => ?_⟩⟩
  rw [Nat.zero_add, (Blk.new w t cs).cell]
  simpa using hu
/-- memory while all runs -/
structure AlSt (w0 : World) (n : Nat) (S : Nat → Prop) (W : World) : Prop where
  bl : ∃ X C xs, Blk W w0.heap.size 78 #[.slice X n C] ∧ W.ownsRow (w0.heap.size + 2) 112 3 (.slice X n C) n xs ∧ (∀ g, (Value.slice X n C).ownBlock = some g → S g)
  bs : Blk W (w0.heap.size + 1) 9 #[.string eB]
  below : Below w0.heap.size w0 W
theorem AlSt.only {w0 W W' : World} {n : Nat} {S S1 : Nat → Prop} (h : AlSt w0 n S W) (ho : Only S1 W W') (hS : ∀ b, S1 b → w0.heap.size + 2 ≤ b ∧ ¬ S b) : AlSt w0 n S W' := by
  obtain ⟨X, C, xs, h1, h2, h3⟩ := h.bl
  exact ⟨⟨X, C, xs, h1.only ho (fun hs => by have := hS _ hs; omega), own_only h2 ho (fun g _ _ hg hs => (hS g hs).2 (h3 g hg)), h3⟩, h.bs.only ho (fun hs => by have := hS _ hs; omega), h.below.trans (ho.below h.below.size (fun b hb hs => by have := hS _ hs; omega))⟩

set_option maxHeartbeats 4000000 in
theorem all_any (w : World) : Calls Try.prog 31 #[.string eB] w fun e w' => ∃ X C, e = .returned (.slice X 2 C) ∧ Below w.heap.size w w' := by
  obtain ⟨i0, hi, hz0, hz1, hz2⟩ := info_parts info112
  have HI := Lib.hid (And.intro hi (And.intro hz0 (And.intro hz1 hz2)))
  clear hi hz0 hz1 hz2
  refine calls_of_wp_marks Try.func31 rfl ?_
  simp only [Try.ntmps31, List.size_toArray, List.length_cons, List.length_nil, Nat.reduceAdd, Nat.reduceSub, Array.replicate_succ, Array.replicate_zero, List.push_toArray, List.append_toArray, List.nil_append, List.cons_append]
  go_upto_region 2 with (fail)
  refine wp_abs (fun wx => Blk wx w.heap.size 78 #[.slice none 0 0] ∧ Below w.heap.size w wx ∧ wx.heap.size = w.heap.size + 1) ⟨Blk.new _ _ _, (Below.refl _ _).alloc (Nat.le_refl _) _, by simp⟩ ?_
  rintro w1 ⟨g1, g2, g3⟩
  have H1 := Lib.hid (And.intro g1 (And.intro g2 g3))
  clear g1 g2 g3
  go_wp2_with fail
  refine (eachc_call eB w1).mono ?_
  rintro e w3 ⟨rfl, hw3⟩
  have hs3 : w3.heap.size = w.heap.size + 2 := by rw [hw3]; have := H1.out.2.2; simp; omega
  have hps : w1.heap.size = w.heap.size + 1 := H1.out.2.2
  have hS : AlSt w 0 (fun _ => False) w3 := by
    rw [hw3]
    exact ⟨⟨none, 0, [], H1.out.1.alloc _, World.ownsRow_nil _ _ _ _, fun g hg => by simp [Value.ownBlock] at hg⟩, by rw [← hps]; exact Blk.new _ _ _, H1.out.2.1.alloc H1.out.2.1.size _⟩
  have HS := Lib.hid hS
  have HS3 := Lib.hid hs3
  rw [hps]
  clear hS hw3 H1 hs3 hps
  go_wp2
  refine wp_rangeE (gf := 59) (lb := #[.pointer (some ⟨w.heap.size + 1, 0, none⟩)]) cL ceA (C := fun b => b = w.heap.size + 1) 112 ceC ?F rfl (enters_of Try.func59 (by kernel_rfl) rfl)
    (fun W hb _ => eachc_gives (w.heap.size + 1) W (HS.out.bs.below hb HS.out.bs.lt)) (fun b e => by rw [e]; exact HS.out.bs.lt) (fun p => rfl)
    (fun r S W' => ∃ n, n + r.length = 2 ∧ AlSt w n S W')
    (fun r S A A' ⟨n, h2, h3⟩ ho => ⟨n, h2, h3.only ho (fun b hb => ⟨by have := HS3.out; omega, hb.2⟩)⟩) ⟨0, rfl, HS.out⟩
    ?assign ?body ?done
  case assign =>
    rintro l p W
    simp only [List.zip_toArray, List.zip_cons_cons, List.zip_nil_right, List.foldl_toArray', List.foldl_cons, List.foldl_nil, ceA]
    gi_wp2
    obtain ⟨pb, hpb⟩ : ∃ pb, pb = W.heap.size := ⟨_, rfl⟩
    rw [← hpb]
    refine ⟨rfl, ?_⟩
    exact rfl
  case body =>
    rintro l' p r S pb W' hsu ⟨n, hn, hS⟩ hP hSb hpb
    obtain ⟨X, C, xs, hO, hown, hSo⟩ := hS.bl
    have p0 : W'.cell? ⟨pb, 0, none⟩ = some (.int .i64 p.1) := hP.cell 0
    have p1 : W'.cell? ⟨pb, 1, none⟩ = some (.int .i64 p.2.1) := hP.cell 1
    have p2 : W'.cell? ⟨pb, 2, none⟩ = some (.int .i64 p.2.2) := hP.cell 2
    have co : W'.cell? ⟨w.heap.size, 0, none⟩ = some (.slice X n C) := hO.cell 0
    rw [List.length_cons] at hn
    have hwz : w.heap.size + 2 ≤ W'.heap.size := by have := hP.lt; have := HS3.out; omega
    have HOW := Lib.hid (And.intro hown hSo)
    have HO7 := Lib.hid hO
    have HR := Lib.hid (And.intro hS (And.intro hSb hn))
    clear hown hSo hO hS hSb
    have wf : ∀ k, Fence.wide.fn k := fun _ => trivial
    have wd : Fence.wide.depth = none := rfl
    gi_wp2_with (gi_at_builtin; go_must (refine wpListIn_append_own_at _ rfl _ _ 78 rfl (w.heap.size + 2) 112 i0 (.agg #[.int .i64 0, .int .i64 0, .int .i64 0]) 3 24 Try.underlying78 HI.out.1 HI.out.2.1 HI.out.2.2.1 HI.out.2.2.2 rfl (by decide) _ _ _ rfl (HOW.out.1.alloc _) ⟨W'.heap.size, 0, none⟩ 1 1 (ceL p) rfl rfl (Rd.at_add (rd_newK W' 112 #[.int .i64 p.1, .int .i64 p.2.1, .int .i64 p.2.2] 3 rfl)) (by simp [ceL, Value.oneCell']) (by unfold maxLen; omega) (by omega) (by simp; omega) ?_; intro v' w8 hown8 hgrow _ hsame; obtain ⟨X9, C9, e9⟩ := own_slice hown8; subst e9; have HG := Lib.hid (And.intro hown8 (And.intro hgrow hsame)); have f8 : w8.frozen? ⟨w.heap.size, 0, none⟩ = false := (HO7.out.only ((Only.refl _ W').alloc _ |>.grown hgrow (fun g hg => .inl (HOW.out.2 g hg))) (fun hs => by have := HR.out.2.1 _ hs; have := HS3.out; omega)).frozen 0; have c8 : w8.cell? ⟨w.heap.size, 0, none⟩ = some (.slice X n C) := (HO7.out.only ((Only.refl _ W').alloc _ |>.grown hgrow (fun g hg => .inl (HOW.out.2 g hg))) (fun hs => by have := HR.out.2.1 _ hs; have := HS3.out; omega)).cell 0; clear hown8 hgrow hsame))
    have hl3 := HS3.out
    have hSb' := HR.out.2.1
    have ho8 : Only S W' w8 := ((Only.refl _ W').alloc _).grown HG.out.2.1 (fun g hg => .inl (HOW.out.2 g hg))
    have hS' : ∀ g, (Value.slice X9 (n + 1) C9).ownBlock = some g → (S g ∨ (W'.heap.size ≤ g ∧ g < w8.heap.size)) := fun g hg => by
      have hlt := (HG.out.1.lt g hg).2
      rcases HG.out.2.2 with h | h
      · rw [h] at hg
        exact .inl (HOW.out.2 g hg)
      · rw [h] at hg
        injection hg with hg
        exact .inr ⟨by rw [← hg]; simp, hlt⟩
    refine ⟨(only_sub ho8 (fun b h => .inr h)).setCell (.inl (.inl ⟨by show w.heap.size < w3.heap.size; omega, by show ¬ w.heap.size = w.heap.size + 1; omega⟩)) _, fun b => S b ∨ (W'.heap.size ≤ b ∧ b < w8.heap.size), ⟨n + 1, by omega, ⟨⟨X9, C9, _, (HO7.out.only ho8 (fun hs => by have := hSb' _ hs; omega)).set_ 0 _, own_setCell HG.out.1 (by simp) _, hS'⟩, (HR.out.1.bs.only ho8 (fun hs => by have := hSb' _ hs; omega)).far (by simp) _, (HR.out.1.below.trans (ho8.below HR.out.1.below.size (fun b hb hs => by have := hSb' _ hs; omega))).setCell (by simp) _⟩⟩, fun b h => h.imp id (fun h => ⟨h.1, by simpa using h.2⟩)⟩
  case done =>
    rintro S W' hSb hBW ⟨n, hn, hS⟩ hmk
    obtain ⟨X, C, xs, hO, hown, hSo⟩ := hS.bl
    have hn2 : n = 2 := by simpa using hn
    subst hn2
    have co : W'.cell? ⟨w.heap.size, 0, none⟩ = some (.slice X 2 C) := hO.cell 0
    have HK := Lib.hid (And.intro hS.below hmk)
    clear hS hO hown hmk hSo hSb
    go_wp2
    refine leaves_one (D := w3.heap.size) HK.out.2 ?_
    intro w' ho
    have hl := HS3.out
    exact ⟨.slice X 2 C, by simp [results, Try.results31, go_sem], X, C, rfl, HK.out.1.trans (ho.below HK.out.1.size (fun b hb e => by have e : b = w3.heap.size := e; omega))⟩
theorem ccount_any (w : World) : Calls Try.prog 18 #[.string eB] w fun e w' => e = .returned (.int .i64 2) ∧ Below w.heap.size w w' := by
  go_enter Try.func18, Try.ntmps18
  go_wp2_with fail
  refine (all_any w).mono ?_
  rintro e w1 ⟨X, C, rfl, hb⟩
  have HB := Lib.hid hb
  clear hb
  go_wp2
  go_ret
  exact ⟨rfl, HB.out⟩
end Go.Proofs.Ytialpfmaekagjaa
