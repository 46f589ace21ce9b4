/- word.Words: what it hands over, one behind another. -/
import Derived.Test.YtialpfmaekagjaaW4
namespace Go.Proofs.Ytialpfmaekagjaa
open Go.RowKit
attribute [local go_sem] Oper.semAt_some

theorem words_call (s : ByteArray) (w : World) : Calls Try.prog 16 #[.string s] w fun e w' => e = .returned (.func (.func 26) #[] #[.pointer (some ⟨w.heap.size, 0, none⟩)]) ∧ w' = w.alloc (.cells #[.string s] 9) := by
  go_enter Try.func16, Try.ntmps16
  go_wp2
  go_ret
  exact ⟨rfl, rfl⟩

def wdA (t : Tok) : Array Value := #[.agg #[.int .i64 t.2.1, .int .i64 t.2.2]]
def wdL (l : List Tok) : List (Array Value) := (l.filter (·.1 == 1)).map wdA
def tkC (t : Tok) : Array Value := #[.int .i64 t.1, .int .i64 t.2.1, .int .i64 t.2.2]

/-- memory while Words runs -/
structure WdSt (W0 : World) (l sb tsb : Nat) (s : ByteArray) (W : World) : Prop where
  by_ : Blk W W0.heap.size 68 #[.func (.yield l) #[] #[]]
  bs : Blk W sb 9 #[.string s]
  bp : Blk W tsb 9 #[.string s]
  l1 : sb < W0.heap.size
  l2 : tsb = W0.heap.size + 1
theorem WdSt.only {W0 : World} {l sb tsb : Nat} {s : ByteArray} {W W' : World} {S : Nat → Prop} (h : WdSt W0 l sb tsb s W) (ho : Only S W W') (hS : ∀ b, S b → tsb < b ∨ (b < W0.heap.size ∧ b ≠ sb)) : WdSt W0 l sb tsb s W' :=
  ⟨h.by_.only ho (fun hs => by have := hS _ hs; have := h.l2; omega), h.bs.only ho (fun hs => by have := hS _ hs; have := h.l2; have := h.l1; omega), h.bp.only ho (fun hs => by have := hS _ hs; have := h.l2; omega), h.l1, h.l2⟩

set_option maxHeartbeats 8000000 in
theorem words_gives (s : ByteArray) (sb : Nat) (W : World) (hsb : Blk W sb 9 #[.string s]) (hz : s.size ≤ 70000) (hok : (pcs s).all okP = true) (hok2 : (pcs s).all okK = true) :
    GivesT Try.prog 26 #[.pointer (some ⟨sb, 0, none⟩)] (wdL (scanGo sc0 (pcs s))) (fun b => b = sb) W := by
  intro l J hJ hY h0
  show Calls Try.prog 26 #[.func (.yield l) #[] #[], .pointer (some ⟨sb, 0, none⟩)] W _
  have HJ := Lib.hid (And.intro hJ h0)
  have HY := Lib.hid (show YieldsT Try.prog W (fun b => b = sb) l J from hY)
  have HZ := Lib.hid (And.intro hz (And.intro hok hok2))
  have hlt := hsb.lt
  have HB := Lib.hid hsb
  clear hJ hY h0 hz hok hsb hok2
  refine calls_of_wp_marks Try.func26 rfl ?_
  simp only [Try.ntmps26, List.size_toArray, List.length_cons, List.length_nil, Nat.reduceAdd, Nat.reduceSub, Array.replicate_succ, Array.replicate_zero, List.push_toArray, List.append_toArray, List.nil_append, List.cons_append]
  go_upto_region 1 with (fail)
  refine wp_abs (fun wx => Blk wx W.heap.size 68 #[.func (.yield l) #[] #[]] ∧ Below W.heap.size W wx ∧ wx.heap.size = W.heap.size + 1) ⟨Blk.new W 68 _, (Below.refl _ _).alloc (Nat.le_refl _) _, by simp⟩ ?_
  rintro w1 ⟨hB0, hb, hz1⟩
  have cs : w1.cell? ⟨sb, 0, none⟩ = some (.string s) := (HB.out.below hb hlt).cell 0
  have H1 := Lib.hid (And.intro hB0 hb)
  have HZ1 := Lib.hid hz1
  clear hB0 hb hz1
  go_wp2_with fail
  refine (scan_call s w1).mono ?_
  rintro e w3 ⟨rfl, hw3⟩
  have hs3 : w3.heap.size = W.heap.size + 2 := by rw [hw3]; have := HZ1.out; simp; omega
  have hb3 : Below W.heap.size W w3 := by rw [hw3]; exact H1.out.2.alloc H1.out.2.size _
  have hS : WdSt W l sb w1.heap.size s w3 := by
    rw [hw3]
    exact ⟨H1.out.1.alloc _, (HB.out.below H1.out.2 hlt).alloc _, Blk.new _ _ _, hlt, HZ1.out⟩
  have hJ0 : J (wdL (scanGo sc0 (pcs s))) (fun _ => False) w3 := HJ.out.1 _ _ _ _ HJ.out.2 (Only.of_below hb3 _)
  have HS := Lib.hid (And.intro hS hJ0)
  have HS3 := Lib.hid hs3
  clear hS hw3 H1 hJ0 hb3 cs hs3
  generalize w1.heap.size = tsb at *
  generalize hT : scanGo sc0 (pcs s) = T at *
  have HT := Lib.hid hT
  clear hT
  go_wp2
  refine wp_rangeE (gf := 37) (lb := #[.pointer (some ⟨tsb, 0, none⟩)]) T tkA (C := fun b => b = tsb) 73 tkC ?F rfl (enters_of Try.func37 (by kernel_rfl) rfl)
    (fun W hb _ => by rw [← HT.out]; exact scan_gives s tsb W (HS.out.1.bp.below hb HS.out.1.bp.lt) HZ.out.1 HZ.out.2.1 HZ.out.2.2) (fun b e => by rw [e]; exact HS.out.1.bp.lt) (fun p => rfl)
    (fun r S W' => WdSt W l sb tsb s W' ∧ J (wdL r) S W')
    (fun r S A A' ⟨h3, h⟩ ho => ⟨h3.only ho (fun b hb => .inl (by have := HZ1.out; have := HS3.out; omega)), HJ.out.1 _ _ _ _ h (ho.weak (fun b _ hb => ⟨by have := HS3.out; omega, hb.2⟩))⟩) ⟨HS.out.1, HS.out.2⟩
    ?assign ?body ?done
  case assign =>
    rintro l p W
    simp only [List.zip_toArray, List.zip_cons_cons, List.zip_nil_right, List.foldl_toArray', List.foldl_cons, List.foldl_nil, tkA]
    gi_wp2
    obtain ⟨pb, hpb⟩ : ∃ pb, pb = W.heap.size := ⟨_, rfl⟩
    rw [← hpb]
    refine ⟨rfl, ?_⟩
    exact rfl
  case body =>
    rintro l' p r S pb W' hsu ⟨hS, hj⟩ hP hSb hpb
    have hsz := hP.lt
    have hl3 := HS3.out
    have hlu := HZ1.out
    have cy : W'.cell? ⟨W.heap.size, 0, none⟩ = some (.func (.yield l) #[] #[]) := hS.by_.cell 0
    have p0 : W'.cell? ⟨pb, 0, none⟩ = some (.int .i64 p.1) := hP.cell 0
    have p1 : W'.cell? ⟨pb, 1, none⟩ = some (.int .i64 p.2.1) := hP.cell 1
    have p2 : W'.cell? ⟨pb, 2, none⟩ = some (.int .i64 p.2.2) := hP.cell 2
    have HL := Lib.hid (And.intro hl3 (And.intro hlu (And.intro hSb hpb)))
    have wf : ∀ k, Fence.wide.fn k := fun _ => trivial
    have wd : Fence.wide.depth = none := rfl
    cases hk : (p.1 == 1) with
    | false =>
      have hq : wdL (p :: r) = wdL r := by unfold wdL; rw [List.filter_cons_of_neg (by rw [hk]; decide)]
      rw [hq] at hj
      have HR := Lib.hid (And.intro hS hj)
      clear hS hj hP hq hl3 hlu hSb hpb hsz
      gi_wp2
      exact ⟨Only.refl _ _, S, ⟨HR.out.1, HR.out.2⟩, fun b h => .inl h⟩
    | true =>
      have hq : wdL (p :: r) = wdA p :: wdL r := by unfold wdL; rw [List.filter_cons_of_pos (by rw [hk])]; rfl
      rw [hq] at hj
      obtain ⟨fn, tmps, assign, body, hy, hR⟩ : YieldAt (Fence.wide.inRound l') 0 Try.prog l (wdA p) W' _ := HY.out _ _ S W' (fun b h => by have := hSb b h; omega) (by omega) hj
      have HRR := Lib.hid hR
      replace hy : (Instr.yield l #[.agg #[.int .i64 p.2.1, .int .i64 p.2.2]]).run Try.prog W' = _ := hy
      have HR := Lib.hid hS
      clear hS hj hP hq hl3 hlu hSb hpb hR
      gi_wp2_with (with_reducible refine HRR.out.mono ?_)
      rintro e w4 rfl S' hj4 hS' ho4
      have hl := HL.out
      have hs4 := HR.out.only ho4 (fun b hb => by
        rcases hb with hb | hb
        · omega
        · have := hl.2.2.1 b hb; omega)
      have ho5 : Only (fun b => (b < w3.heap.size ∧ ¬ b = tsb) ∨ S b) W' w4 := only_of ho4 (fun b hb => by
        rcases hb with hb | hb
        · exact .inl (by omega)
        · exact .inr hb)
      have HW := Lib.hid (And.intro hs4 (And.intro hj4 (And.intro hS' ho5)))
      clear hs4 hj4 hS' ho5 ho4 hl hy p0 p1 p2 cy
      gi_wp2
      exact ⟨HW.out.2.2.2, S', ⟨HW.out.1, HW.out.2.1⟩, HW.out.2.2.1⟩
  case done =>
    rintro S W' hSb hBW ⟨hS, hj⟩ hmk
    have HK := Lib.hid (And.intro hS (And.intro hj hmk))
    have HL := Lib.hid (And.intro hSb HS3.out)
    clear hS hj hmk hSb
    go_wp2
    refine leaves_one (D := w3.heap.size) HK.out.2.2 ?_
    intro w' ho
    exact ⟨_, results_none rfl _ _ _, ⟨_, rfl⟩, S, fun b h => by have := HL.out.1 b h; have := HL.out.2; have := ho.size; omega, HJ.out.1 _ _ _ _ HK.out.2.1 (only_of ho (fun b e => by
        subst e
        exact ⟨by have := HL.out.2; omega, fun h => by have := HL.out.1 _ h; omega⟩))⟩
end Go.Proofs.Ytialpfmaekagjaa
