/- runes: Count, At. -/
import Derived.Test.YtialpfmaekagjaaR2
namespace Go.Proofs.Ytialpfmaekagjaa
open Go.RowKit
attribute [local go_sem] Oper.semAt_some

set_option maxHeartbeats 4000000 in
theorem at_any (s : ByteArray) (k : Nat) (hk : k < s.size) (hs : s.size ≤ 70000) (w : World) : Calls Try.prog 15 #[.string s, .int .i64 k] w fun e w' => e = .returned (.tuple #[pcV (readF s k), .int .i64 0]) ∧ Below w.heap.size w w' := by
  have h1 : decide ((k : Int) < 0) = false := decide_eq_false (by omega)
  have h2 : decide ((s.size : Int) ≤ (k : Int)) = false := decide_eq_false (by omega)
  go_enter Try.func15, Try.ntmps15
  go_wp2_with fail
  refine (read_any s k hk hs _).mono ?_
  rintro e w1 ⟨rfl, hb⟩
  have H1 := Lib.hid (And.intro (((Below.refl _ w).alloc (Nat.le_refl _) _).trans (hb.mono (by simp))) ((Blk.new w 33 #[.int .i64 0, .int .i64 0, .int .i32 0, .bool false]).below hb (by simp)))
  have f0 : w1.frozen? ⟨w.heap.size, 0, none⟩ = false := H1.out.2.frozen 0
  have f1 : w1.frozen? ⟨w.heap.size, 1, none⟩ = false := H1.out.2.frozen 1
  have f2 : w1.frozen? ⟨w.heap.size, 2, none⟩ = false := H1.out.2.frozen 2
  have f3 : w1.frozen? ⟨w.heap.size, 3, none⟩ = false := H1.out.2.frozen 3
  have c0 : w1.cell? ⟨w.heap.size, 0, none⟩ = some (.int .i64 0) := H1.out.2.cell 0
  have c1 : w1.cell? ⟨w.heap.size, 1, none⟩ = some (.int .i64 0) := H1.out.2.cell 1
  have c2 : w1.cell? ⟨w.heap.size, 2, none⟩ = some (.int .i32 0) := H1.out.2.cell 2
  have c3 : w1.cell? ⟨w.heap.size, 3, none⟩ = some (.bool false) := H1.out.2.cell 3
  clear hb
  rw [show pcV (readF s k) = .agg #[.int .i64 (readF s k).1, .int .i64 (readF s k).2.1, .int .i32 (readF s k).2.2.1, .bool (readF s k).2.2.2] from rfl]
  generalize hp : readF s k = p at *
  have HP := Lib.hid hp
  clear hp
  obtain ⟨pa, pw, pr, pbk⟩ := p
  dsimp only
  clear hk hs
  go_wp2
  have hB := (((H1.out.2.set_ 0 (.int .i64 pa)).set_ 1 (.int .i64 pw)).set_ 2 (.int .i32 pr)).set_ 3 (.bool pbk)
  have hbl := (((H1.out.1.setCell (p := ⟨w.heap.size, 0, none⟩) (by simp) (.int .i64 pa)).setCell (p := ⟨w.heap.size, 1, none⟩) (by simp) (.int .i64 pw)).setCell (p := ⟨w.heap.size, 2, none⟩) (by simp) (.int .i32 pr)).setCell (p := ⟨w.heap.size, 3, none⟩) (by simp) (.bool pbk)
  clear f0 f1 f2 f3 c0 c1 c2 c3 H1 h1 h2
  generalize (((w1.setCell ⟨w.heap.size, 0, none⟩ (.int .i64 pa)).setCell ⟨w.heap.size, 1, none⟩ (.int .i64 pw)).setCell ⟨w.heap.size, 2, none⟩ (.int .i32 pr)).setCell ⟨w.heap.size, 3, none⟩ (.bool pbk) = W2 at *
  have d0 : W2.cell? ⟨w.heap.size, 0, none⟩ = some (.int .i64 pa) := hB.cell 0
  have d1 : W2.cell? ⟨w.heap.size, 1, none⟩ = some (.int .i64 pw) := hB.cell 1
  have d2 : W2.cell? ⟨w.heap.size, 2, none⟩ = some (.int .i32 pr) := hB.cell 2
  have d3 : W2.cell? ⟨w.heap.size, 3, none⟩ = some (.bool pbk) := hB.cell 3
  refine bodyPost_ret (v := .tuple #[pcV (pa, pw, pr, pbk), .int .i64 0]) ?_ rfl ⟨by rw [HP.out], hbl⟩
  simp [results, Try.results15, go_sem, pcV, d0, d1, d2, d3]

/-- how many are broken -/
def brk (l : List Pc) : Nat := (l.filter (·.2.2.2)).length
theorem brk_cons (p : Pc) (l : List Pc) : brk (p :: l) = (if p.2.2.2 then 1 else 0) + brk l := by
  unfold brk
  cases h : p.2.2.2 <;> simp [h]; omega
theorem pcsGo_len (s : ByteArray) : ∀ f pos, (pcsGo s f pos).length ≤ f := by
  intro f
  induction f with
  | zero => intro pos; exact Nat.le_refl _
  | succ f ih =>
    intro pos
    unfold pcsGo
    split
    · have := ih (pos + (Utf8.decode s pos).2); simp only [List.length_cons]; omega
    · simp

structure CtSt (w : World) (sb : Nat) (s : ByteArray) (n b : Nat) (W : World) : Prop where
  bn : Blk W w.heap.size 3 #[.int .i64 n]
  bb : Blk W (w.heap.size + 1) 3 #[.int .i64 b]
  bs : Blk W sb 9 #[.string s]
  below : Below w.heap.size w W
  ls : w.heap.size + 2 ≤ sb
theorem CtSt.only {w : World} {sb n b : Nat} {s : ByteArray} {W W' : World} {S : Nat → Prop} (h : CtSt w sb s n b W) (ho : Only S W W') (hS : ∀ b, S b → sb < b) : CtSt w sb s n b W' :=
  ⟨h.bn.only ho (fun hs => by have := hS _ hs; have := h.ls; omega), h.bb.only ho (fun hs => by have := hS _ hs; have := h.ls; omega), h.bs.only ho (fun hs => by have := hS _ hs; omega), h.below.trans (ho.below h.below.size (fun b hb hs => by have := hS _ hs; have := h.ls; omega)), h.ls⟩

set_option maxHeartbeats 4000000 in
theorem count_any (s : ByteArray) (hs : s.size ≤ 70000) (w : World) : Calls Try.prog 14 #[.string s] w fun e w' => e = .returned (.tuple #[.int .i64 (pcs s).length, .int .i64 (brk (pcs s))]) ∧ Below w.heap.size w w' := by
  have hlen : (pcs s).length ≤ 70001 := Nat.le_trans (pcsGo_len s _ _) (by omega)
  have hbl : brk (pcs s) ≤ (pcs s).length := List.length_filter_le _ _
  have HL := Lib.hid (And.intro hlen hbl)
  have HZ := Lib.hid hs
  clear hlen hbl
  refine calls_of_wp_marks Try.func14 rfl ?_
  simp only [Try.ntmps14, List.size_toArray, List.length_cons, List.length_nil, Nat.reduceAdd, Nat.reduceSub, Array.replicate_succ, Array.replicate_zero, List.push_toArray, List.append_toArray, List.nil_append, List.cons_append]
  go_upto_region 2 with (fail)
  refine wp_abs (fun wx => Blk wx w.heap.size 3 #[.int .i64 0] ∧ Blk wx (w.heap.size + 1) 3 #[.int .i64 0] ∧ Below w.heap.size w wx) ⟨(Blk.new w 3 #[.int .i64 0]).alloc _, blk_new_eq (by simp), (((Below.refl _ _).alloc (Nat.le_refl _) _).alloc (by simp) _)⟩ ?_
  rintro w1 ⟨hB0, hB1, hb⟩
  have H1 := Lib.hid (And.intro hB0 (And.intro hB1 hb))
  have L1 := hB1.lt
  clear hB0 hB1 hb
  go_wp2_with fail
  refine (pieces_call s w1).mono ?_
  rintro e w3 ⟨rfl, hw3⟩
  have hs3 : w3.heap.size = w1.heap.size + 1 := by rw [hw3]; simp
  have hS : CtSt w w1.heap.size s 0 0 w3 := by
    rw [hw3]
    exact ⟨H1.out.1.alloc _, H1.out.2.1.alloc _, Blk.new _ _ _, H1.out.2.2.alloc H1.out.2.2.size _, by omega⟩
  have HS := Lib.hid hS
  clear hS hw3 H1
  generalize w1.heap.size = sb at *
  go_wp2
  refine wp_rangeE (gf := 35) (lb := #[.pointer (some ⟨sb, 0, none⟩)]) (pcs s) (fun p => #[pcV p]) (C := fun b => b = sb) 33 pcC ?F rfl (enters_of Try.func35 (by kernel_rfl) rfl)
    (fun W hb _ => pieces_gives s sb W (HS.out.bs.below hb HS.out.bs.lt) HZ.out) (fun b e => by rw [e]; exact HS.out.bs.lt) (fun p => rfl)
    (fun r _ W => ∃ (n b : Nat), n + r.length = (pcs s).length ∧ b + brk r = brk (pcs s) ∧ CtSt w sb s n b W)
    (fun r S A A' ⟨n, b, h2, h3, h⟩ ho => ⟨n, b, h2, h3, h.only ho (fun b hb => by omega)⟩) ⟨0, 0, by omega, by omega, HS.out⟩
    ?assign ?body ?done
  case assign =>
    rintro l p W
    simp only [List.zip_toArray, List.zip_cons_cons, List.zip_nil_right, List.foldl_toArray', List.foldl_cons, List.foldl_nil]
    rw [show pcV p = .agg #[.int .i64 p.1, .int .i64 p.2.1, .int .i32 p.2.2.1, .bool p.2.2.2] from rfl]
    gi_wp2
    obtain ⟨pb, hpb⟩ : ∃ pb, pb = W.heap.size := ⟨_, rfl⟩
    rw [← hpb]
    refine ⟨rfl, ?_⟩
    exact rfl
  case body =>
    rintro l p r S pb W hsu ⟨n, b, h3, h4, hS⟩ hP hpb hB2
    have hne : w.heap.size ≠ w.heap.size + 1 := by omega
    have cn : W.cell? ⟨w.heap.size, 0, none⟩ = some (.int .i64 n) := hS.bn.cell 0
    have fn : W.frozen? ⟨w.heap.size, 0, none⟩ = false := hS.bn.frozen 0
    have cb : W.cell? ⟨w.heap.size + 1, 0, none⟩ = some (.int .i64 b) := hS.bb.cell 0
    have fb : W.frozen? ⟨w.heap.size + 1, 0, none⟩ = false := hS.bb.frozen 0
    have p3 : W.cell? ⟨pb, 3, none⟩ = some (.bool p.2.2.2) := hP.cell 3
    rw [brk_cons] at h4
    rw [List.length_cons] at h3
    have hn : IntKind.i64.wrap ((n : Int) + 1) = ((n + 1 : Nat) : Int) := IntWalk.i64_in _ (by have := HL.out; omega)
    have hbw : IntKind.i64.wrap ((b : Int) + 1) = ((b + 1 : Nat) : Int) := IntWalk.i64_in _ (by have := HL.out; omega)
    have HR := Lib.hid (And.intro hS (And.intro hP (And.intro h3 h4)))
    clear hS hP h3 h4
    have wf : ∀ k, Fence.wide.fn k := fun _ => trivial
    have wd : Fence.wide.depth = none := rfl
    cases hb : p.2.2.2 with
    | false =>
      rw [hb] at p3
      have HB := Lib.hid hb
      clear hb
      gi_wp2
      refine ⟨((Only.refl _ _).setCell (.inl (.inl ⟨by show w.heap.size < w3.heap.size; omega, by show ¬ w.heap.size = sb; omega⟩)) _), S, ⟨n + 1, b, by have := HR.out.2.2.1; omega, by have := HR.out.2.2.2; rw [HB.out, if_neg (by decide)] at this; omega, ?_⟩, fun b h => .inl h⟩
      exact ⟨HR.out.1.bn.set_ 0 _, HR.out.1.bb.far (by simp) _, HR.out.1.bs.far (by simp; omega) _, HR.out.1.below.setCell (by simp) _, HR.out.1.ls⟩
    | true =>
      rw [hb] at p3
      have HB := Lib.hid hb
      clear hb
      gi_wp2
      refine ⟨((Only.refl _ _).setCell (.inl (.inl ⟨by show w.heap.size < w3.heap.size; omega, by show ¬ w.heap.size = sb; omega⟩)) _).setCell (.inl (.inl ⟨by show w.heap.size + 1 < w3.heap.size; omega, by show ¬ w.heap.size + 1 = sb; omega⟩)) _, S, ⟨n + 1, b + 1, by have := HR.out.2.2.1; omega, by have := HR.out.2.2.2; rw [HB.out, if_pos rfl] at this; omega, ?_⟩, fun b h => .inl h⟩
      exact ⟨(HR.out.1.bn.set_ 0 _).far (by simp) _, (HR.out.1.bb.far (by simp) _).set_ 0 _, (HR.out.1.bs.far (by simp; omega) _).far (by simp; omega) _, (HR.out.1.below.setCell (by simp) _).setCell (by simp) _, HR.out.1.ls⟩
  case done =>
    rintro S W hSb hBW ⟨n, b, h2, h3, hS⟩ hmk
    have cn : W.cell? ⟨w.heap.size, 0, none⟩ = some (.int .i64 n) := hS.bn.cell 0
    have cb : W.cell? ⟨w.heap.size + 1, 0, none⟩ = some (.int .i64 b) := hS.bb.cell 0
    simp only [List.length_nil, Nat.add_zero] at h2
    rw [show brk [] = 0 from rfl, Nat.add_zero] at h3
    subst h2 h3
    have HW := Lib.hid (And.intro hS hmk)
    clear hS hmk
    go_wp2
    go_quiet (fail)
    go_wp2
    refine bodyPostM_ret (B := w3.heap.size) ⟨w3.heap.size, rfl, Nat.le_refl _, HW.out.2, fun d hd => by simp at hd, trivial⟩ ?_
    intro w' hb
    exact ⟨.tuple #[.int .i64 (pcs s).length, .int .i64 (brk (pcs s))], by simp [results, Try.results14, go_sem], rfl, HW.out.1.below.trans ((show Below w3.heap.size W w' from ⟨hb.os, hb.tape, hb.output, hb.size, hb.block⟩).mono (by omega))⟩
end Go.Proofs.Ytialpfmaekagjaa
