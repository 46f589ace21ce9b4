/- canticletop.wakes: true. -/
import Derived.Test.YtialpfmaekagjaaW5
import Derived.Test.YtialpfmaekagjaaF5
import Derived.Test.YtialpfmaekagjaaK3
namespace Go.Proofs.Ytialpfmaekagjaa
open Go.RowKit
attribute [local go_sem] Oper.semAt_some

/-- a range over an iterator that hands over a list, whose loop variables are not boxed -/
theorem wp_rangeN {P : Program} {α : Type} {g : Operand} {ps : Array Tmp} {assign body : Code} {Q : Exit → Act → World → Prop} {a : Act} {w : World} {gf : FuncId} {lb : Array Value} (L : List α) (enc : α → Array Value) {C : Nat → Prop} (F : α → Act)
    (hg : a.eval g = .func (.func gf) #[] lb) (eg : ∀ args w, (callFunc gf args).run P w = .ok (.enter gf args) w)
    (hseq : ∀ W, Below w.heap.size w W → W.heap.size = w.heap.size + 2 → GivesT P gf lb (L.map enc) C W) (hC : ∀ b, C b → b < w.heap.size)
    (hX : ∀ p, (enc p).size = ps.size)
    (I : List α → (Nat → Prop) → World → Prop) (hI : AbideS w.heap.size I) (h0 : I L (fun _ => False) w)
    (hassign : ∀ l p W, assign.wpIn (Fence.wide.inRound l) 0 P (Exit.then (fun a₁ W₁ => W₁ = W ∧ a₁ = F p) (fun _ _ _ => False)) { tmps := (ps.zip (enc p)).foldl (fun t (p, v) => t.setIfInBounds p v) a.tmps, defers := [] } W)
    (hbody : ∀ l p rest S W, (p :: rest) <:+ L → I (p :: rest) S W → (∀ b, S b → w.heap.size + 2 ≤ b ∧ b < W.heap.size) → w.heap.size + 2 ≤ W.heap.size → body.wpIn (Fence.wide.inRound l) 0 P (roundQT w.heap.size C S (I rest) W) (F p) W)
    (hdone : ∀ S W, (∀ b, S b → w.heap.size + 2 ≤ b ∧ b < W.heap.size) → w.heap.size + 2 ≤ W.heap.size → I [] S W → W.heap[w.heap.size]? = some (.deferred (some [])) → Q .normal { a with defers := { target := .collected w.heap.size, args := #[] } :: a.defers } W) :
    (Code.rangeFunc g ps assign body).wp P Q a w := by
  refine wp_rangeT hg eg hseq hC (fun x hx => by obtain ⟨p, _, rfl⟩ := List.mem_map.1 hx; exact hX p)
    (fun r S W => ∃ l : List α, r = l.map enc ∧ l <:+ L ∧ I l S W) (fun r S A A' ⟨l, h1, h2, h3⟩ ho => ⟨l, h1, h2, hI _ _ _ _ h3 ho⟩) ⟨L, rfl, List.suffix_refl _, h0⟩
    (fun x r S a' W => ∃ (p : α) (l : List α), r = l.map enc ∧ (p :: l) <:+ L ∧ I (p :: l) S W ∧ a' = F p) ?_ ?_ ?_ ?_
  · rintro x r S a' A A' ⟨p, l, h1, h2, h3, h7⟩ hS ho _ hB2
    exact ⟨p, l, h1, h2, hI _ _ _ _ h3 (ho.weak (fun b _ e => by subst e; exact ⟨by omega, fun h => by have := hS _ h; omega⟩)), h7⟩
  · rintro l x r S W _ ⟨l', he, hsu, hi⟩ hS hsz
    cases l' with
    | nil => cases he
    | cons p l'' =>
    injection he with hx hr
    subst hx hr
    refine wpIn_mono (hassign l p W) ?_
    intro e a₁ W₁ h
    cases e <;> try exact h
    obtain ⟨rfl, rfl⟩ := h
    exact ⟨Only.refl _ _, p, l'', rfl, hsu, hi, rfl⟩
  · rintro l x r S a₁ W _ ⟨p, l', rfl, hsu, hi, rfl⟩ hS hsz
    refine wpIn_mono (hbody l p l' S W hsu hi hS hsz) ?_
    intro e a₁ W₁ h
    cases e <;> try exact h
    obtain ⟨h1, S', h2, h3⟩ := h
    exact ⟨h1, S', ⟨l', rfl, (List.suffix_cons _ _).trans hsu, h2⟩, h3⟩
  · rintro S W hS hsz ⟨l, he, _, hi⟩ hmk
    cases l with
    | nil => exact hdone S W hS hsz hi hmk
    | cons p l => cases he

def aB : ByteArray := ⟨#[97, 195, 169, 255]⟩
def dB : ByteArray := ⟨#[68, 111, 110, 39, 116, 32, 103, 111, 44, 32, 109, 111, 116, 104, 101, 114, 45, 105, 110, 45, 108, 97, 119]⟩
theorem aB_ok : (pcs aB).length = 3 ∧ brk (pcs aB) = 1 ∧ readF aB 1 = (1, 2, 233, false) := by decide +kernel
def dT : List Tok := (scanGo sc0 (pcs dB)).filter (·.1 == 1)
theorem dB_ok : (pcs dB).all okP = true ∧ (pcs dB).all okK = true ∧ dT.length = 3 := by decide +kernel

set_option maxHeartbeats 8000000 in
theorem wakes_any (w : World) : Calls Try.prog 4 #[] w fun e w' => e = .returned (.bool true) ∧ Below w.heap.size w w' := by
  have HA := Lib.hid aB_ok
  have HD := Lib.hid dB_ok
  refine calls_of_wp_marks Try.func4 rfl ?_
  simp only [Try.ntmps4, List.size_toArray, List.length_nil, Nat.reduceSub, Array.replicate_succ, Array.replicate_zero, List.push_toArray, List.append_toArray, List.nil_append, List.cons_append]
  go_wp2_with fail
  refine (count_any aB (by decide) w).mono ?_
  rintro e w1 ⟨rfl, hb1⟩
  rw [HA.out.1, HA.out.2.1]
  have H1 := Lib.hid hb1
  clear hb1
  go_wp2_with fail
  refine (at_any aB 1 (by decide) (by decide) w1).mono ?_
  rintro e w2 ⟨rfl, hb2⟩
  rw [HA.out.2.2]
  have H2 := Lib.hid (H1.out.trans (hb2.mono H1.out.size))
  clear hb2
  rw [show pcV (1, 2, 233, false) = .agg #[.int .i64 1, .int .i64 2, .int .i32 233, .bool false] from rfl]
  go_upto_region 4 with (fail)
  refine wp_abs (fun wx => Blk wx w2.heap.size 33 (pcC (1, 2, 233, false)) ∧ Blk wx (w2.heap.size + 1) 3 #[.int .i64 0] ∧ Below w.heap.size w wx) ⟨(Blk.new w2 33 _).alloc _, blk_new_eq (by simp), (H2.out.alloc H2.out.size _).alloc (by have := H2.out.size; simp; omega) _⟩ ?_
  rintro w3 ⟨g1, g2, g3⟩
  have hlo : w.heap.size ≤ w2.heap.size := H2.out.size
  have H3 := Lib.hid (And.intro g1 (And.intro g2 g3))
  clear g1 g2 g3 H1 H2
  generalize w2.heap.size = pb at *
  go_wp2_with fail
  refine (words_call dB w3).mono ?_
  rintro e w4 ⟨rfl, hw4⟩
  have hb4 : Below w3.heap.size w3 w4 := by rw [hw4]; exact (Below.refl _ _).alloc (Nat.le_refl _) _
  have hbs : Blk w4 w3.heap.size 9 #[.string dB] := by rw [hw4]; exact Blk.new _ _ _
  have hlt3 := H3.out.2.1.lt
  have H4 := Lib.hid (And.intro (H3.out.1.below hb4 H3.out.1.lt) (And.intro (H3.out.2.1.below hb4 hlt3) (And.intro (H3.out.2.2.trans (hb4.mono H3.out.2.2.size)) hbs)))
  have hlt4 := hbs.lt
  clear hb4 hbs hw4 H3
  generalize w3.heap.size = sb at *
  go_wp2
  refine wp_rangeN (gf := 26) (lb := #[.pointer (some ⟨sb, 0, none⟩)]) dT wdA (C := fun b => b = sb) ?F rfl (enters_of Try.func26 (by kernel_rfl) rfl)
    (fun W hb _ => words_gives dB sb W (H4.out.2.2.2.below hb hlt4) (by decide) HD.out.1 HD.out.2.1) (fun b e => by rw [e]; exact hlt4) (fun p => rfl)
    (fun r S W => ∃ n : Nat, n + r.length = 3 ∧ Blk W pb 33 (pcC (1, 2, 233, false)) ∧ Blk W (pb + 1) 3 #[.int .i64 n] ∧ Below w.heap.size w W)
    (fun r S A A' ⟨n, h1, h2, h3, h4⟩ ho => ⟨n, h1, h2.only ho (by omega), h3.only ho (by omega), h4.trans (ho.below h4.size (fun b hb hs => by omega))⟩) ⟨0, by rw [HD.out.2.2], H4.out.1, H4.out.2.1, H4.out.2.2.1⟩
    ?assign ?body ?done
  case assign =>
    rintro l p W
    simp only [List.zip_toArray, List.zip_cons_cons, List.zip_nil_right, List.foldl_toArray', List.foldl_cons, List.foldl_nil, wdA]
    gi_wp2
    refine ⟨trivial, ?_⟩
    exact rfl
  case body =>
    rintro l p r S W hsu ⟨n, h1, h2, h3, h4⟩ hSb hsz
    rw [List.length_cons] at h1
    have cn : W.cell? ⟨pb + 1, 0, none⟩ = some (.int .i64 n) := h3.cell 0
    have fn : W.frozen? ⟨pb + 1, 0, none⟩ = false := h3.frozen 0
    have hn : IntKind.i64.wrap ((n : Int) + 1) = ((n + 1 : Nat) : Int) := IntWalk.i64_in _ (by omega)
    have HR := Lib.hid (And.intro h2 (And.intro h3 (And.intro h4 h1)))
    clear h2 h3 h4
    have wf : ∀ k, Fence.wide.fn k := fun _ => trivial
    have wd : Fence.wide.depth = none := rfl
    gi_wp2
    exact ⟨(Only.refl _ W).setCell (.inl (.inl ⟨by show pb + 1 < w4.heap.size; omega, by show ¬ pb + 1 = sb; omega⟩)) _, S, ⟨n + 1, by have := HR.out.2.2.2; omega, HR.out.1.far (by simp) _, HR.out.2.1.set_ 0 _, HR.out.2.2.1.setCell (by simp; omega) _⟩, fun b h => .inl h⟩
  case done =>
    rintro S W hSb hsz ⟨n, h1, h2, h3, h4⟩ hmk
    have hn3 : n = 3 := by simpa using h1
    subst hn3
    have cn : W.cell? ⟨pb + 1, 0, none⟩ = some (.int .i64 3) := h3.cell 0
    have p0 : W.cell? ⟨pb, 0, none⟩ = some (.int .i64 1) := h2.cell 0
    have p1 : W.cell? ⟨pb, 1, none⟩ = some (.int .i64 2) := h2.cell 1
    have p2 : W.cell? ⟨pb, 2, none⟩ = some (.int .i32 233) := h2.cell 2
    have p3 : W.cell? ⟨pb, 3, none⟩ = some (.bool false) := h2.cell 3
    have HK := Lib.hid (And.intro h4 hmk)
    clear h2 h3 h4 hmk
    go_wp2_with fail
    refine (fold_strasse W).mono ?_
    rintro e w5 ⟨rfl, hb5⟩
    have H5 := Lib.hid (And.intro (HK.out.1.trans (hb5.mono HK.out.1.size)) ((hb5.block _ (Array.getElem?_eq_some_iff.1 HK.out.2).1).trans HK.out.2))
    clear hb5 cn p0 p1 p2 p3
    go_wp2_with fail
    refine (ccount_any w5).mono ?_
    rintro e w6 ⟨rfl, hb6⟩
    have H6 := Lib.hid (And.intro (H5.out.1.trans (hb6.mono H5.out.1.size)) ((hb6.block _ (Array.getElem?_eq_some_iff.1 H5.out.2).1).trans H5.out.2))
    clear hb6
    go_wp2
    refine leaves_one (D := w4.heap.size) H6.out.2 ?_
    intro w' ho
    exact ⟨.bool true, by simp [results, Try.results4, go_sem], rfl, H6.out.1.trans (ho.below H6.out.1.size (fun b hb e => by have e : b = w4.heap.size := e; omega))⟩
end Go.Proofs.Ytialpfmaekagjaa
