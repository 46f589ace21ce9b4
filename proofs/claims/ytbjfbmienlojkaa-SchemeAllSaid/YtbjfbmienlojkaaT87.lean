/- The law SchemeAll: its walk. -/
import Derived.Test.YtbjfbmienlojkaaT86
import Derived.Test.YtbjfbmienlojkaaT82
import Derived.Test.YtbjfbmienlojkaaT16
import Derived.Test.YtbjfbmienlojkaaT15
import Derived.Test.YtbjfbmienlojkaaT12
import Derived.Shelf.RegionOpen
import Derived.Stop.RegionWithIn
import Derived.TacticsInMore
namespace Go.Proofs.Ytbjfbmienlojkaa
open Go.RowKit
attribute [local go_sem] Oper.semAt_some

/-- memory while the law SchemeAll runs: the number, the result, what All has captured, the count; the marks -/
structure AlIn (w0 : World) (n q kb B : Nat) (ds : List Deferred) (k : Nat) (W : World) : Prop where
  bn : Blk W w0.heap.size 3 #[.int .i64 n]
  br : Blk W (w0.heap.size + 1) 4 #[.bool false]
  bq : Blk W q 3 #[.int .i64 n]
  bk : Blk W kb 3 #[.int .i64 k]
  mar : Marks (w0.heap.size + 2) ds W
  below : Below w0.heap.size w0 W
  lb : w0.heap.size + 2 ≤ kb
  lq : w0.heap.size + 2 ≤ q
  qB : q < B
  kB : kb < B
  ne : q ≠ kb
  lm : ∀ d ∈ ds, ∃ r, d.target = .collected r ∧ r < B
section
variable {w0 : World} {n q kb B k : Nat} {ds : List Deferred} {W W' : World}
theorem AlIn.stay {S : Nat → Prop} (h : AlIn w0 n q kb B ds k W) (ho : Only S W W') (hS : ∀ b, S b → B ≤ b) : AlIn w0 n q kb B ds k W' := by
  have l0 := h.lb
  have l1 := h.kB
  have l2 := h.qB
  refine ⟨h.bn.only ho (fun hs => ?_), h.br.only ho (fun hs => ?_), h.bq.only ho (fun hs => ?_), h.bk.only ho (fun hs => ?_), ?_, h.below.trans (ho.below h.below.size (fun b hb hs => ?_)), h.lb, h.lq, l2, l1, h.ne, h.lm⟩
  · have := hS _ hs; omega
  · have := hS _ hs; omega
  · have := hS _ hs; omega
  · have := hS _ hs; omega
  · refine h.mar.keep fun r _ hr hd => (ho.block r (Array.getElem?_eq_some_iff.1 hr).1 (fun hs => ?_)).trans hr
    obtain ⟨d, hd, hdr⟩ := hd
    obtain ⟨r', h1, h2⟩ := h.lm d hd
    rw [hdr] at h1
    injection h1 with h1
    have := hS _ hs
    omega
  · have := hS _ hs; omega
theorem AlIn.on (h : AlIn w0 n q kb B ds k W) (hb : Below B W W') : AlIn w0 n q kb B ds k W' :=
  h.stay (S := fun b => B ≤ b) ⟨hb.os, hb.tape, hb.output, hb.size, fun j _ hs => hb.block j (by omega)⟩ (fun _ hs => hs)
theorem AlIn.set (h : AlIn w0 n q kb B ds k W) (k' : Nat) : AlIn w0 n q kb B ds k' (W.setCell ⟨kb, 0, none⟩ (.int .i64 k')) := by
  have l0 := h.lb
  have l1 := h.lq
  refine ⟨h.bn.far (by simp; omega) _, h.br.far (by simp; omega) _, h.bq.far (by simpa using h.ne) _, by simpa using h.bk.set_ 0 (.int .i64 k'), h.mar.setCell h.bk 0 _, h.below.setCell (by simp; omega) _, h.lb, h.lq, h.qB, h.kB, h.ne, h.lm⟩
end

/-- memory between two rounds of the law -/
structure AlOut (w0 : World) (n q : Nat) (ds : List Deferred) (W : World) : Prop where
  bn : Blk W w0.heap.size 3 #[.int .i64 n]
  br : Blk W (w0.heap.size + 1) 4 #[.bool false]
  bq : Blk W q 3 #[.int .i64 n]
  mar : Marks (w0.heap.size + 2) ds W
  below : Below w0.heap.size w0 W
  lq : w0.heap.size + 2 ≤ q
theorem AlOut.on {w0 : World} {n q : Nat} {ds : List Deferred} {W W' : World} (h : AlOut w0 n q ds W) (hb : Below W.heap.size W W') : AlOut w0 n q ds W' :=
  ⟨h.bn.below hb h.bn.lt, h.br.below hb h.br.lt, h.bq.below hb h.bq.lt, h.mar.below hb, h.below.trans (hb.mono h.below.size), h.lq⟩
theorem AlOut.enter {w0 : World} {n q : Nat} {ds : List Deferred} {W : World} (h : AlOut w0 n q ds W) : AlIn w0 n q W.heap.size (W.alloc (.cells #[.int .i64 0] 3)).heap.size ds 0 (W.alloc (.cells #[.int .i64 0] 3)) := by
  have l1 := h.bn.lt
  have l2 := h.br.lt
  have l3 := h.bq.lt
  have hb := (Below.refl _ W).alloc (Nat.le_refl _) (.cells #[.int .i64 0] 3)
  have h' := h.on hb
  refine ⟨h'.bn, h'.br, h'.bq, Blk.new _ _ _, h'.mar, h'.below, by omega, h.lq, by simp; omega, by simp, by omega, fun d hd => ?_⟩
  obtain ⟨r, h1, h2⟩ := h.mar.lt d hd
  exact ⟨r, h1, by simp; omega⟩
theorem AlIn.leave {w0 : World} {n q kb B k : Nat} {ds : List Deferred} {W : World} (h : AlIn w0 n q kb B ds k W) (hk : W.heap[B]? = some (.deferred (some []))) : AlOut w0 n q ({ target := .collected B, args := #[] } :: ds) W := by
  have l0 := h.lb
  have l1 := h.kB
  refine ⟨h.bn, h.br, h.bq, ⟨B, rfl, by omega, hk, fun d hd e => ?_, h.mar⟩, h.below, h.lq⟩
  obtain ⟨r, h1, h2⟩ := h.lm d hd
  rw [h1] at e
  injection e with e
  omega

/-- memory in a round: the scheme that was handed over, in a box -/
structure AlRd (w0 : World) (n q kb B : Nat) (ds : List Deferred) (k : Nat) (A : Option Addr) (c : Nat) (D : Option Addr) (d sb : Nat) (W : World) : Prop where
  st : AlIn w0 n q kb B ds k W
  bs : Blk W sb 26 #[.slice A n c, .slice D (plainS n).length d]
  ls : B + 2 ≤ sb
  o1 : W.ownsRow (B + 2) 66 2 (.slice A n c) n (prs (unL n k n))
  o2 : W.ownsRow (B + 2) 3 1 (.slice D (plainS n).length d) (plainS n).length ((plainS n).map (Value.int .i64))
theorem AlRd.stay {w0 : World} {n q kb B k c d sb : Nat} {A D : Option Addr} {ds : List Deferred} {W W' : World} (h : AlRd w0 n q kb B ds k A c D d sb W) (ho : Only (fun b => b = B + 1) W W') : AlRd w0 n q kb B ds k A c D d sb W' := by
  have l := h.ls
  refine ⟨h.st.stay ho (fun b e => by omega), h.bs.only ho (by omega), h.ls, own_only h.o1 ho (fun k h1 _ _ e => ?_), own_only h.o2 ho (fun k h1 _ _ e => ?_)⟩
  · omega
  · omega
theorem AlRd.on {w0 : World} {n q kb B k c d sb : Nat} {A D : Option Addr} {ds : List Deferred} {W W' : World} (h : AlRd w0 n q kb B ds k A c D d sb W) (hb : Below W.heap.size W W') : AlRd w0 n q kb B ds k A c D d sb W' := by
  have l := h.bs.lt
  have l' := h.ls
  exact ⟨h.st.on (hb.mono (by omega)), h.bs.below hb h.bs.lt, h.ls, own_stay h.o1 (Only.of_below hb _), own_stay h.o2 (Only.of_below hb _)⟩

theorem al_end {w0 : World} {n q : Nat} {ds : List Deferred} {w : World} (h : AlOut w0 n q ds w) (tmps : Array Value) (ht : tmps[2]? = some (.pointer (some ⟨w0.heap.size + 1, 0, none⟩))) : ∀ w', Below (w0.heap.size + 2) (w.setCell ⟨w0.heap.size + 1, 0, none⟩ (.bool true)) w' →
    ∃ v, (results Try.f4 tmps).run Try.prog w' = .ok v w' ∧ (fun e w' => e = Ending.returned (.bool true) ∧ Below w0.heap.size w0 w') (.returned v) w' := by
  intro w' hb
  have g : w'.cell? ⟨w0.heap.size + 1, 0, none⟩ = some (.bool true) := by
    have := ((h.br.set_ 0 (.bool true)).below hb (by omega)).cell 0
    simpa using this
  refine ⟨.bool true, ?_, rfl, (h.below.setCell (by simp) _).trans (hb.mono (by omega))⟩
  simp [results, Try.results4, go_sem, g, ht]

theorem al_back {w0 : World} {n q kb B k : Nat} {ds : List Deferred} {W W' : World} {S : Nat → Prop} (h : AlIn w0 n q kb B ds k W') (ho : Only S W W') (hS : S kb) : Only S W (W'.setCell ⟨kb, 0, none⟩ (.int .i64 (wrap64 ((k : Int) + 1)))) ∧ (k < 300 → AlIn w0 n q kb B ds (k + 1) (W'.setCell ⟨kb, 0, none⟩ (.int .i64 (wrap64 ((k : Int) + 1))))) :=
  ⟨ho.setCell (.inl hS) _, fun hk => by
    rw [show wrap64 ((k : Int) + 1) = ((k + 1 : Nat) : Int) by unfold wrap64; omega]
    exact h.set (k + 1)⟩
theorem al_300 {k : Nat} (hk : k < 300) {b : Bool} (h : (wrap64 ((k : Int) + 1) == 300) = b) : if b then k + 1 = 300 else k + 1 < 300 := by
  rw [show wrap64 ((k : Int) + 1) = ((k + 1 : Nat) : Int) by unfold wrap64; omega] at h
  cases b with
  | true =>
    have := eq_of_beq h
    rw [if_pos rfl]; omega
  | false =>
    have := ne_of_beq_false h
    rw [if_neg (by decide)]; omega

theorem mod26 (x : Int) : ∃ n : Nat, n ≤ 25 ∧ wrap64 ((IntKind.u64.wrap x).tmod 26) = n := by
  have h0 : 0 ≤ IntKind.u64.wrap x := by rw [IntKind.wrap_u64]; omega
  generalize IntKind.u64.wrap x = y at *
  have h1 : y.tmod 26 = y % 26 := by rw [Int.tmod_eq_emod_of_nonneg h0]
  rw [h1]
  refine ⟨(y % 26).toNat, by omega, ?_⟩
  unfold wrap64
  omega

set_option maxHeartbeats 4000000 in
set_option maxRecDepth 100000 in
theorem schemeAll_w (n0 : Int) (w : World) : Calls Try.prog 4 #[.int .i64 n0] w fun e w' => e = .returned (.bool true) ∧ Below w.heap.size w w' := by
  refine calls_of_wp_marks Try.func4 rfl ?_
  simp only [Try.ntmps4, List.size_toArray, List.length_cons, List.length_nil, Nat.reduceAdd, Nat.reduceSub, Array.replicate_succ, Array.replicate_zero, List.push_toArray, List.append_toArray, List.nil_append, List.cons_append]
  go_upto_region 1 with (fail)
  refine wp_abs (fun wx => Blk wx w.heap.size 3 #[.int .i64 n0] ∧ Blk wx (w.heap.size + 1) 4 #[.bool false] ∧ Below w.heap.size w wx) ⟨(Blk.new _ _ _).alloc _, blk_new_eq (by simp), ((Below.refl _ _).alloc (Nat.le_refl _) _).alloc (by simp) _⟩ ?_
  rintro w1 ⟨b0, b1, hb⟩
  have HS := Lib.hid (And.intro b0 (And.intro b1 hb))
  clear b0 b1 hb
  go_wp2_with fail
  refine (wakes_any w1).mono ?_
  rintro e w2 ⟨rfl, hb⟩
  have l1 := HS.out.2.1.lt
  have HX := Lib.hid (And.intro (HS.out.1.below hb HS.out.1.lt) (And.intro (HS.out.2.1.below hb HS.out.2.1.lt) (HS.out.2.2.trans (hb.mono HS.out.2.2.size))))
  clear hb HS l1
  have c0 : w2.cell? ⟨w.heap.size, 0, none⟩ = some (.int .i64 n0) := HX.out.1.cell 0
  have f0 : w2.frozen? ⟨w.heap.size, 0, none⟩ = false := HX.out.1.frozen 0
  obtain ⟨n, hn, hm⟩ := mod26 n0
  go_upto_region 4 with (fail)
  rw [hm]
  clear hm
  refine wp_abs (fun wx => Blk wx w.heap.size 3 #[.int .i64 n] ∧ Blk wx (w.heap.size + 1) 4 #[.bool false] ∧ Below w.heap.size w wx) ⟨by simpa using HX.out.1.set_ 0 (.int .i64 n), HX.out.2.1.far (by simp) _, HX.out.2.2.setCell (by simp) _⟩ ?_
  clear c0 f0 HX
  rintro w3 ⟨b0, b1, hb⟩
  have c0 : w3.cell? ⟨w.heap.size, 0, none⟩ = some (.int .i64 n) := b0.cell 0
  have HS := Lib.hid (And.intro b0 (And.intro b1 hb))
  clear b0 b1 hb
  go_wp2_with fail
  refine (all_any n w3).mono ?_
  rintro e w4 ⟨rfl, hw4⟩
  have l1 := HS.out.2.1.lt
  have hX : AlOut w n w3.heap.size [] w4 := by
    have hb : Below w3.heap.size w3 w4 := by rw [hw4]; exact (Below.refl _ _).alloc (Nat.le_refl _) _
    exact ⟨HS.out.1.below hb HS.out.1.lt, HS.out.2.1.below hb l1, by rw [hw4]; exact Blk.new _ _ _, trivial, HS.out.2.2.trans (hb.mono HS.out.2.2.size), by omega⟩
  have HX := Lib.hid hX
  clear hX HS hw4 c0 l1
  generalize w3.heap.size = q at *
  have hnil : ∀ wx, (binOp BinOp.eql 37 (Value.func (Fn.func 55) #[] #[Value.pointer (some ⟨q, 0, none⟩)]) Value.nilFunc).run Try.prog wx = .ok (.bool false) wx := fun _ => by kernel_rfl
  go_wp2
  clear hnil
  refine wp_loop (fun a' w' => ∃ (ds : List Deferred) (j : Nat) (u5 u17 u18 u19 u20 u21 u43 u44 u45 u46 u47 : Value), (j ≤ 2 ∧ Hid (AlOut w n q ds w')) ∧ a' = { tmps := #[.int .i64 n0, .pointer (some ⟨w.heap.size, 0, none⟩), .pointer (some ⟨w.heap.size + 1, 0, none⟩), .func (.func 55) #[] #[.pointer (some ⟨q, 0, none⟩)], .int .i64 (j : Int), u5, undef, .bool true, .bool false, .int .i64 n0, .int .u64 (IntKind.u64.wrap n0), .int .u64 ((IntKind.u64.wrap n0).tmod 26), .int .i64 n, .int .i64 n, .func (.func 55) #[] #[.pointer (some ⟨q, 0, none⟩)], .func (.func 55) #[] #[.pointer (some ⟨q, 0, none⟩)], .bool false, u17, u18, u19, u20, u21, undef, undef, undef, undef, undef, undef, undef, undef, undef, undef, undef, undef, undef, undef, undef, undef, undef, undef, undef, undef, undef, u43, u44, u45, u46, u47, undef], defers := ds }) (fun a' _ => 2 - (intOf (a'.tmps.getD 4 undef)).toNat) ?start ?round
  case start =>
    refine ⟨[], 0, ?_⟩
    (repeat apply Exists.intro)
    exact ⟨⟨by omega, HX⟩, rfl⟩
  case round =>
    clear HX
    intro _ wr hinv
    obtain ⟨ds, hinv⟩ := hinv
    obtain ⟨j, hinv⟩ := hinv
    obtain ⟨u5, hinv⟩ := hinv
    obtain ⟨u17, hinv⟩ := hinv
    obtain ⟨u18, hinv⟩ := hinv
    obtain ⟨u19, hinv⟩ := hinv
    obtain ⟨u20, hinv⟩ := hinv
    obtain ⟨u21, hinv⟩ := hinv
    obtain ⟨u43, hinv⟩ := hinv
    obtain ⟨u44, hinv⟩ := hinv
    obtain ⟨u45, hinv⟩ := hinv
    obtain ⟨u46, hinv⟩ := hinv
    obtain ⟨u47, hinv⟩ := hinv
    obtain ⟨⟨hj, HR⟩, ha⟩ := hinv
    subst ha
    try dsimp only
    by_cases hlt : j < 2
    · go_upto_region 11 with (fail)
      refine wp_abs (fun wx => AlIn w n q wr.heap.size wx.heap.size ds 0 wx) HR.out.enter ?_
      intro wB hB
      have HB := Lib.hid hB
      clear hB HR
      generalize wr.heap.size = kb at *
      go_wp2
      refine wp_range (gf := 55) (lb := #[.pointer (some ⟨q, 0, none⟩)]) (N := tN n 0) (X := AllX n) (T := AllT) (C := fun b => b = q) rfl (enters_of Try.func55 (by kernel_rfl) rfl)
        (fun W hb _ => all_gives n q W hn (HB.out.bq.below hb HB.out.qB)) (fun b e => by rw [e]; exact HB.out.qB) ?hX
        (fun k W => k < 300 ∧ AlIn w n q kb wB.heap.size ds k W) (fun c k W => c = .exit 2 ∧ k = 300 ∧ AlIn w n q kb wB.heap.size ds k W)
        (fun k A A' h hb => ⟨h.1, h.2.on hb⟩) (fun c k A A' h hb => ⟨h.1, h.2.1, h.2.2.on hb⟩) ⟨by omega, HB.out⟩
        (fun k args a' W => ∃ A c D d sb, args = #[.agg #[.slice A n c, .slice D (plainS n).length d]] ∧ k < 300 ∧ AlRd w n q kb wB.heap.size ds k A c D d sb W ∧ a' = { tmps := #[.int .i64 n0, .pointer (some ⟨w.heap.size, 0, none⟩), .pointer (some ⟨w.heap.size + 1, 0, none⟩), .func (.func 55) #[] #[.pointer (some ⟨q, 0, none⟩)], .int .i64 (j : Int), .pointer (some ⟨kb, 0, none⟩), .pointer (some ⟨sb, 0, none⟩), .bool true, .bool false, .int .i64 n0, .int .u64 (IntKind.u64.wrap n0), .int .u64 ((IntKind.u64.wrap n0).tmod 26), .int .i64 n, .int .i64 n, .func (.func 55) #[] #[.pointer (some ⟨q, 0, none⟩)], .func (.func 55) #[] #[.pointer (some ⟨q, 0, none⟩)], .bool false, .int .i64 (j : Int), .bool true, u19, u20, .func (.func 55) #[] #[.pointer (some ⟨q, 0, none⟩)], .agg #[.slice A n c, .slice D (plainS n).length d], undef, undef, undef, undef, undef, undef, undef, undef, undef, undef, undef, undef, undef, undef, undef, undef, undef, undef, undef, undef, u43, u44, u45, u46, u47, undef], defers := [] })
        ?hAx ?assign ?body ?done ?stop
      case hX =>
        rintro k args W ⟨A, c, D, d, rfl, o1, o2⟩
        refine ⟨rfl, ?_⟩
        rintro b ⟨v1, v2, hargs, hb⟩
        have h1 : (Value.slice A n c) = v1 ∧ (Value.slice D (plainS n).length d) = v2 := by
          have := congrArg (fun a : Array Value => a[0]?) hargs
          simp at this
          exact this
        obtain ⟨rfl, rfl⟩ := h1
        rcases hb with hb | hb
        · have := (o1.lt b hb).1; omega
        · have := (o2.lt b hb).1; omega
      case hAx =>
        rintro k args a' A A' ⟨A1, c, D, d, sb, h1, h0, h2, h3⟩ ho _ _
        exact ⟨A1, c, D, d, sb, h1, h0, h2.stay ho, h3⟩
      case assign =>
        rintro l k args W hk ⟨h300, hI⟩ ⟨A, c, D, d, rfl, o1, o2⟩ hsz
        have HI := Lib.hid (And.intro h300 (And.intro hI (And.intro o1 o2)))
        clear hI o1 o2 h300
        simp only [List.zip_toArray, List.zip_cons_cons, List.zip_nil_right, List.foldl_toArray', List.foldl_cons, List.foldl_nil]
        gi_wp2
        refine ⟨(Only.refl _ _).alloc _, A, c, D, d, W.heap.size, rfl, HI.out.1, ⟨HI.out.2.1.on (((Below.refl _ _).alloc (by omega) _)), Blk.new _ _ _, hsz, own_stay (own_more HI.out.2.2.1 (by omega)) ((Only.refl _ _).alloc _), own_stay (own_more HI.out.2.2.2 (by omega)) ((Only.refl _ _).alloc _)⟩, rfl⟩
      case body =>
        rintro l k args a₁ W hk ⟨A, c, D, d, sb, rfl, hk3, hR, rfl⟩ hsz
        have HR := Lib.hid hR
        have HK3 := Lib.hid hk3
        clear hR hk3
        have c0 : W.cell? ⟨w.heap.size, 0, none⟩ = some (.int .i64 n) := HR.out.st.bn.cell 0
        have ck : W.cell? ⟨kb, 0, none⟩ = some (.int .i64 k) := HR.out.st.bk.cell 0
        have cs0 : W.cell? ⟨sb, 0, none⟩ = some (.slice A n c) := HR.out.bs.cell 0
        have cs1 : W.cell? ⟨sb, 1, none⟩ = some (.slice D (plainS n).length d) := HR.out.bs.cell 1
        have wf : ∀ k, Fence.wide.fn k := fun _ => trivial
        have wd : Fence.wide.depth = none := rfl
        have d1 : decide (((tN n 0 : Nat) : Int) ≤ (k : Int)) = false := by simp; omega
        have d2 : decide (tN n 0 ≤ k) = false := by simp; omega
        have hps : (plainS n).length ≤ maxLen := by unfold plainS maxLen; split <;> simp
        have hnm : n ≤ maxLen := by unfold maxLen; omega
        gi_wp2
        gi_region_with (first
          | (gi_at_call 19
             refine (CallsIn.inRound l (callsIn_wide.2 (refCount_any n _ hn))).mono ?_
             rintro e wa ⟨rfl, hb⟩
             have hbx : Below W.heap.size W wa := ⟨hb.os, hb.tape, hb.output, hb.size, hb.block⟩
             have HA := Lib.hid (And.intro (HR.out.on hbx) hbx)
             have c0a : wa.cell? ⟨w.heap.size, 0, none⟩ = some (.int .i64 n) := HA.out.1.st.bn.cell 0
             have cka : wa.cell? ⟨kb, 0, none⟩ = some (.int .i64 k) := HA.out.1.st.bk.cell 0
             have cs0a : wa.cell? ⟨sb, 0, none⟩ = some (.slice A n c) := HA.out.1.bs.cell 0
             have cs1a : wa.cell? ⟨sb, 1, none⟩ = some (.slice D (plainS n).length d) := HA.out.1.bs.cell 1
             clear hb hbx)
          | (gi_at_call 20
             refine (CallsIn.inRound l (callsIn_wide.2 (refUnrank_any n k _ hn hk))).mono ?_
             rintro e wb ⟨G1, g1, G2, g2, rfl, r1, r2, hb⟩
             have hbx : Below wa.heap.size wa wb := ⟨hb.os, hb.tape, hb.output, hb.size, hb.block⟩
             have HC := Lib.hid (And.intro (HA.out.1.on hbx) (And.intro r1 (And.intro r2 (HA.out.2.trans (hbx.mono HA.out.2.size)))))
             have c0b : wb.cell? ⟨w.heap.size, 0, none⟩ = some (.int .i64 n) := HC.out.1.st.bn.cell 0
             have ckb : wb.cell? ⟨kb, 0, none⟩ = some (.int .i64 k) := HC.out.1.st.bk.cell 0
             have cs0b : wb.cell? ⟨sb, 0, none⟩ = some (.slice A n c) := HC.out.1.bs.cell 0
             have cs1b : wb.cell? ⟨sb, 1, none⟩ = some (.slice D (plainS n).length d) := HC.out.1.bs.cell 1
             clear hb hbx r1 r2)
          | (gi_at_call 16
             refine (CallsIn.inRound l (callsIn_wide.2 (equal_any A D G1 G2 n c (plainS n).length d n g1 (plainS n).length g2 _ _ _ _ (unL n k n) (unL n k n) (plainS n) (plainS n) _ (own_rd HC.out.1.o1) (own_rd HC.out.1.o2) (own_rd HC.out.2.1) (own_rd HC.out.2.2.1) hnm hps hnm hps))).mono ?_
             rw [eqS_selfC]
             rintro e wc ⟨rfl, hb⟩
             have hbx : Below wb.heap.size wb wc := ⟨hb.os, hb.tape, hb.output, hb.size, hb.block⟩
             have HD := Lib.hid (And.intro (HC.out.1.on hbx) (HC.out.2.2.2.trans (hbx.mono HC.out.2.2.2.size)))
             have c0c : wc.cell? ⟨w.heap.size, 0, none⟩ = some (.int .i64 n) := HD.out.1.st.bn.cell 0
             have ckc : wc.cell? ⟨kb, 0, none⟩ = some (.int .i64 k) := HD.out.1.st.bk.cell 0
             have fkc : wc.frozen? ⟨kb, 0, none⟩ = false := HD.out.1.st.bk.frozen 0
             have cs0c : wc.cell? ⟨sb, 0, none⟩ = some (.slice A n c) := HD.out.1.bs.cell 0
             have cs1c : wc.cell? ⟨sb, 1, none⟩ = some (.slice D (plainS n).length d) := HD.out.1.bs.cell 1
             clear hb hbx)
          | fail)
        all_goals
          clear c0a cka cs0a cs1a c0b ckb cs0b cs1b HA HC
          clear hps hnm d1 d2
          by_cases hn0 : 0 < n
          · have e1 : decide ((0 : Int) < (n : Int)) = true := by simp; omega
            gi_wp2_with (gi_at_call 17; refine (CallsIn.inRound l (callsIn_wide.2 (spoil_any (wB.heap.size + 2) A D n c (plainS n).length d _ _ _ HD.out.1.o1 HD.out.1.o2 (by omega) (by unfold plainS; split <;> simp) (by have := HD.out.1.ls; have := HD.out.1.bs.lt; omega)))).mono ?_)
            rintro e we ⟨rfl, ho⟩
            clear c0c ckc fkc cs0c cs1c
            have hE : AlIn w n q kb wB.heap.size ds k we := HD.out.1.st.stay ho (fun b hb => by
              rcases hb with hb | hb
              · have := (HD.out.1.o1.lt b hb).1; omega
              · have := (HD.out.1.o2.lt b hb).1; omega)
            have ho2 : Only (fun b => (b < wB.heap.size ∧ ¬ b = q) ∨ AllT #[.agg #[.slice A n c, .slice D (plainS n).length d]] b) W we :=
              ((Only.of_below HD.out.2 _).trans (ho.weak (fun b _ hb => .inr ⟨_, _, rfl, hb⟩)))
            have HE := Lib.hid (And.intro hE ho2)
            have ckc : we.cell? ⟨kb, 0, none⟩ = some (.int .i64 k) := hE.bk.cell 0
            have fkc : we.frozen? ⟨kb, 0, none⟩ = false := hE.bk.frozen 0
            clear hE ho ho2
            gi_wp2
            · rename_i h
              obtain ⟨x1, x2⟩ := al_back HE.out.1 HE.out.2 (.inl ⟨HE.out.1.kB, fun e => HE.out.1.ne e.symm⟩)
              have x3 := al_300 HK3.out h
              exact ⟨x1, rfl, x3, x2 HK3.out⟩
            · rename_i h
              obtain ⟨x1, x2⟩ := al_back HE.out.1 HE.out.2 (.inl ⟨HE.out.1.kB, fun e => HE.out.1.ne e.symm⟩)
              have x3 := al_300 HK3.out h
              exact ⟨x1, x3, x2 HK3.out⟩
          · have e1 : decide ((0 : Int) < (n : Int)) = false := by simp; omega

            have ho2 : Only (fun b => (b < wB.heap.size ∧ ¬ b = q) ∨ AllT #[.agg #[.slice A n c, .slice D (plainS n).length d]] b) W wc := Only.of_below HD.out.2 _
            have HE := Lib.hid (And.intro HD.out.1.st ho2)
            clear ho2
            gi_wp2
            · rename_i h
              obtain ⟨x1, x2⟩ := al_back HE.out.1 HE.out.2 (.inl ⟨HE.out.1.kB, fun e => HE.out.1.ne e.symm⟩)
              have x3 := al_300 HK3.out h
              exact ⟨x1, rfl, x3, x2 HK3.out⟩
            · rename_i h
              obtain ⟨x1, x2⟩ := al_back HE.out.1 HE.out.2 (.inl ⟨HE.out.1.kB, fun e => HE.out.1.ne e.symm⟩)
              have x3 := al_300 HK3.out h
              exact ⟨x1, x3, x2 HK3.out⟩
      case done =>
        rintro W ⟨h300, hI⟩ hmk
        have HW := Lib.hid (hI.leave hmk)
        have ck : ∀ W', Below W.heap.size W W' → W'.cell? ⟨kb, 0, none⟩ = some (.int .i64 (tN n 0 : Nat)) ∧ W'.cell? ⟨w.heap.size, 0, none⟩ = some (.int .i64 n) := fun W' hb => ⟨(hI.bk.below hb hI.bk.lt).cell 0, (hI.bn.below hb hI.bn.lt).cell 0⟩
        have c00 : W.cell? ⟨w.heap.size, 0, none⟩ = some (.int .i64 n) := hI.bn.cell 0
        have CK := Lib.hid ck
        have ck0 : W.cell? ⟨kb, 0, none⟩ = some (.int .i64 (tN n 0 : Nat)) := ck W (Below.refl _ _) |>.1
        clear hI hmk ck
        generalize hT : tN n 0 = N at *
        have HT := Lib.hid hT
        clear hT
        go_wp2
        go_region_held3 (fun W' => W'.cell? ⟨kb, 0, none⟩ = some (.int .i64 (N : Nat)) ∧ W'.cell? ⟨w.heap.size, 0, none⟩ = some (.int .i64 n))
          ((refine CK.out _ ?_; first | exact HA.out.2 | exact ⟨rfl, rfl, rfl, Nat.le_refl _, fun _ _ => rfl⟩))
          (first
            | (go_at_call 19
               refine (refCount_any n _ hn).mono ?_
               rintro e wa ⟨rfl, hb⟩
               have hbx : Below W.heap.size W wa := ⟨hb.os, hb.tape, hb.output, hb.size, hb.block⟩
               have HA := Lib.hid (And.intro (HW.out.on hbx) hbx)
               clear hb hbx))
        all_goals
          have hne : ((N : Int) != min (300 : Int) ((tN n 0 : Nat) : Int)) = false := by
            have := HT.out
            have : (N : Int) = min (300 : Int) ((tN n 0 : Nat) : Int) := by omega
            simpa using this
          go_wp2
          refine ⟨⟨{ target := .collected wB.heap.size, args := #[] } :: ds, j + 1, ?_⟩, ?_⟩
          · (repeat apply Exists.intro)
            exact ⟨⟨by omega, Lib.hid HA.out.1⟩, rfl⟩
          · simp [intOf]; omega
      case stop =>
        rintro c k W hk0 hkN ⟨rfl, rfl, hI⟩ hmk
        have HW := Lib.hid (hI.leave hmk)
        have ck : ∀ W', Below W.heap.size W W' → W'.cell? ⟨kb, 0, none⟩ = some (.int .i64 300) ∧ W'.cell? ⟨w.heap.size, 0, none⟩ = some (.int .i64 n) := fun W' hb => ⟨(hI.bk.below hb hI.bk.lt).cell 0, (hI.bn.below hb hI.bn.lt).cell 0⟩
        have c00 : W.cell? ⟨w.heap.size, 0, none⟩ = some (.int .i64 n) := hI.bn.cell 0
        have CK := Lib.hid ck
        have ck0 : W.cell? ⟨kb, 0, none⟩ = some (.int .i64 300) := ck W (Below.refl _ _) |>.1
        clear hI hmk ck
        generalize hT : tN n 0 = N at *
        have HT := Lib.hid hT
        clear hT
        go_wp2
        go_region_held3 (fun W' => W'.cell? ⟨kb, 0, none⟩ = some (.int .i64 300) ∧ W'.cell? ⟨w.heap.size, 0, none⟩ = some (.int .i64 n))
          ((refine CK.out _ ?_; first | exact HA.out.2 | exact ⟨rfl, rfl, rfl, Nat.le_refl _, fun _ _ => rfl⟩))
          (first
            | (go_at_call 19
               refine (refCount_any n _ hn).mono ?_
               rintro e wa ⟨rfl, hb⟩
               have hbx : Below W.heap.size W wa := ⟨hb.os, hb.tape, hb.output, hb.size, hb.block⟩
               have HA := Lib.hid (And.intro (HW.out.on hbx) hbx)
               clear hb hbx))
        all_goals
          have hne : ((300 : Int) != min (300 : Int) ((tN n 0 : Nat) : Int)) = false := by
            have := HT.out
            have : (300 : Int) = min (300 : Int) ((tN n 0 : Nat) : Int) := by omega
            simpa using this
          go_wp2
          refine ⟨⟨{ target := .collected wB.heap.size, args := #[] } :: ds, j + 1, ?_⟩, ?_⟩
          · (repeat apply Exists.intro)
            exact ⟨⟨by omega, Lib.hid HA.out.1⟩, rfl⟩
          · simp [intOf]; omega
    · obtain rfl : j = 2 := by omega
      clear hlt hj
      go_wp2_with fail
      refine (wakes_any wr).mono ?_
      rintro e vz ⟨rfl, hb⟩
      have HZ := Lib.hid (HR.out.on hb)
      clear hb HR
      have r0 : vz.cell? ⟨w.heap.size + 1, 0, none⟩ = some (.bool false) := HZ.out.br.cell 0
      have r1 : vz.frozen? ⟨w.heap.size + 1, 0, none⟩ = false := HZ.out.br.frozen 0
      go_wp2
      refine bodyPostM_ret (HZ.out.mar.setCell HZ.out.br 0 (.bool true)) ?_
      exact al_end HZ.out _ rfl
end Go.Proofs.Ytbjfbmienlojkaa
