/- scheme.All's sequence; the law SchemeCounts. -/
import Derived.Test.YtbjfbmienlojkaaT82
import Derived.Test.YtbjfbmienlojkaaRanges
import Derived.Test.YtbjfbmienlojkaaT12
import Derived.Test.YtbjfbmienlojkaaT15
import Derived.Test.YtbjfbmienlojkaaT23
import Derived.Test.YtbjfbmienlojkaaT72
import Derived.Deep.DeepCutAuto
import Derived.Shelf.Abstract
import Derived.Deep.DeepMust
namespace Go.Proofs.Ytbjfbmienlojkaa
open Go.RowKit

theorem eqS_selfC (l : List (Int × Int)) (s : List Int) : eqS l l s s = true := by simp [eqS]
theorem rank_all (A1 A2 : Option Addr) (n1 c1 n2 c2 L1 L2 : Nat) (ls : List (Int × Int)) (st : List Int) (w : World)
    (h1 : Rd w L1 w.heap.size 2 A1 n1 (prs ls)) (h2 : Rd w L2 w.heap.size 1 A2 n2 (st.map (Value.int .i64))) (hn2 : n2 ≤ maxLen) (hn1 : n1 ≤ maxLen) :
    Calls Try.prog 41 #[.agg #[.slice A1 n1 c1, .slice A2 n2 c2]] w fun e w' => e = .returned (.tuple #[.int .i64 (rkV ls st), .int .i64 (rkE ls st)]) ∧ Below w.heap.size w w' := by
  have l1 : ls.length = n1 := by have := h1.1; rw [prs_len] at this; omega
  have l2 : st.length = n2 := by have := h2.1; simpa using this
  rcases bool_or' (may ls st) with hm | hm
  · exact (rank_bad A1 A2 n1 c1 n2 c2 L1 L2 ls st w h1 h2 hn2 hn1 hm).mono fun e w' ⟨he, hb⟩ => ⟨rk_no (by unfold rkOk; rw [hm]; rfl) he, hb⟩
  · by_cases hl : 25 < n1 ∨ 1 < n2
    · refine (rank_long A1 A2 n1 c1 n2 c2 L1 L2 ls st w h1 h2 hn2 hn1 hm hl).mono fun e w' ⟨he, hb⟩ => ⟨rk_no ?_ he, hb⟩
      unfold rkOk
      rcases hl with hl | hl
      · rw [show decide (ls.length ≤ 25) = false by simp; omega]; simp
      · rw [show decide (st.length ≤ 1) = false by simp; omega]; simp
    · exact rank_ok A1 A2 n1 c1 n2 c2 L1 L2 ls st w h1 h2 hm (by omega) (by omega)

theorem all_any (n : Int) (w : World) : Calls Try.prog 18 #[.int .i64 n] w fun e w' => e = .returned (.func (.func 55) #[] #[.pointer (some ⟨w.heap.size, 0, none⟩)]) ∧ w' = w.alloc (.cells #[.int .i64 n] 3) := by
  go_enter Try.func18, Try.ntmps18
  go_wp2
  go_ret
  exact ⟨rfl, rfl⟩

/-- no scheme at all of so many lines -/
theorem all_none (n : Int) (b : Nat) (W : World) (hc : W.cell? ⟨b, 0, none⟩ = some (.int .i64 n)) (hb : b < W.heap.size) (hn : n < 0 ∨ 25 < n) :
    Gives Try.prog 55 #[.pointer (some ⟨b, 0, none⟩)] 0 (fun _ _ _ _ => False) (fun _ _ => False) (fun _ => False) W := by
  intro l J Jx hJ _ _ h0
  have H := Lib.hid (And.intro hJ h0)
  clear hJ h0
  show Calls Try.prog 55 #[.func (.yield l) #[] #[], .pointer (some ⟨b, 0, none⟩)] W _
  refine Calls.mono (R := fun e W' => e = .returned (.tuple #[]) ∧ Below W.heap.size W W') ?_ (fun e W' ⟨he, hb⟩ => ⟨⟨_, he⟩, .inl (H.out.1 _ _ _ H.out.2 hb)⟩)
  have hcase : n < 0 ∨ (¬ n < 0 ∧ 25 < n) := by omega
  clear hn
  rcases hcase with h | ⟨h, h'⟩
  all_goals
    go_enter Try.func55, Try.ntmps55
    go_wp2
    refine bodyPost_ret (results_none rfl _ _ _) rfl ?_
    exact ⟨rfl, (Below.refl _ _).alloc (Nat.le_refl _) _⟩

theorem run_idx67 (n m : Int) (j : Nat) (hj : j < 2) (w : World) : (Instr.index 67 (.agg #[.int .i64 n, .int .i64 m]) (.int .i64 j)).run Try.prog w = .ok (.int .i64 (if j = 0 then n else m)) w := by
  obtain rfl | rfl : j = 0 ∨ j = 1 := by omega
  all_goals kernel_rfl
theorem run_idx71 (a b c d : Int) (j : Nat) (hj : j < 4) (w : World) : (Instr.index 71 (.agg #[.int .i64 a, .int .i64 b, .int .i64 c, .int .i64 d]) (.int .i64 j)).run Try.prog w = .ok (.int .i64 (if j = 0 then a else if j = 1 then b else if j = 2 then c else d)) w := by
  obtain rfl | rfl | rfl | rfl : j = 0 ∨ j = 1 ∨ j = 2 ∨ j = 3 := by omega
  all_goals kernel_rfl

/-- memory while the law runs -/
structure CtSt (w0 : World) (v1 v2 : Value) (w : World) : Prop where
  b3 : Blk w w0.heap.size 26 #[v1, v2]
  b6 : Blk w (w0.heap.size + 1) 4 #[.bool false]
  below : Below w0.heap.size w0 w
theorem CtSt.on {w0 : World} {v1 v2 : Value} {w w' : World} (h : CtSt w0 v1 v2 w) (hb : Below w.heap.size w w') : CtSt w0 v1 v2 w' :=
  ⟨h.b3.below hb h.b3.lt, h.b6.below hb h.b6.lt, h.below.trans (hb.mono h.below.size)⟩
theorem CtSt.init (w : World) (v1 v2 : Value) : CtSt w v1 v2 ((w.alloc (.cells #[v1, v2] 26)).alloc (.cells #[.bool false] 4)) := ⟨(Blk.new _ _ _).alloc _, blk_new_eq (by simp), ((Below.refl _ _).alloc (Nat.le_refl _) _).alloc (by simp) _⟩

theorem ct_end {w0 : World} {v1 v2 : Value} {w : World} (h : CtSt w0 v1 v2 w) (tmps : Array Value) (ht : tmps[6]? = some (.pointer (some ⟨w0.heap.size + 1, 0, none⟩))) : ∀ w', Below (w0.heap.size + 2) (w.setCell ⟨w0.heap.size + 1, 0, none⟩ (.bool true)) w' →
    ∃ v, (results Try.f9 tmps).run Try.prog w' = .ok v w' ∧ (fun e w' => e = Ending.returned (.bool true) ∧ Below w0.heap.size w0 w') (.returned v) w' := by
  intro w' hb
  have g : w'.cell? ⟨w0.heap.size + 1, 0, none⟩ = some (.bool true) := by
    have := ((h.b6.set_ 0 (.bool true)).below hb (by omega)).cell 0
    simpa using this
  refine ⟨.bool true, ?_, rfl, (h.below.setCell (by simp) _).trans (hb.mono (by omega))⟩
  simp [results, Try.results9, go_sem, g, ht]

set_option maxHeartbeats 4000000 in
set_option maxRecDepth 100000 in
theorem schemeCounts_w (A1 A2 : Option Addr) (n1 c1 n2 c2 : Nat) (ls : List (Int × Int)) (st : List Int) (n k : Int) (w : World)
    (h1 : Rd w 0 w.heap.size 2 A1 n1 (prs ls)) (h2 : Rd w 0 w.heap.size 1 A2 n2 (st.map (Value.int .i64))) (z1 : n1 ≤ maxLen) (z2 : n2 ≤ maxLen) :
    Calls Try.prog 9 #[.agg #[.slice A1 n1 c1, .slice A2 n2 c2], .int .i64 n, .int .i64 k] w fun e w' => e = .returned (.bool true) ∧ Below w.heap.size w w' := by
  have H1 := Lib.hid h1
  have H2 := Lib.hid h2
  clear h1 h2
  refine calls_of_wp_marks Try.func9 rfl ?_
  simp only [Try.ntmps9, List.size_toArray, List.length_cons, List.length_nil, Nat.reduceAdd, Nat.reduceSub, Array.replicate_succ, Array.replicate_zero, List.push_toArray, List.append_toArray, List.nil_append, List.cons_append]
  go_upto_region 1 with (fail)
  refine wp_abs (CtSt w (.slice A1 n1 c1) (.slice A2 n2 c2)) (CtSt.init _ _ _) ?_
  intro w1 hS
  have HS := Lib.hid hS
  clear hS
  go_wp2_with fail
  refine (wakes_any w1).mono ?_
  rintro e w2 ⟨rfl, hb⟩
  have HX := Lib.hid (HS.out.on hb)
  clear hb HS
  --FRAME
  go_wp2
  generalize wrap64 ((IntKind.u64.wrap n).tmod 27) = m
  have HX0 := Lib.hid (And.intro HX.out (show Marks (w.heap.size + 2) [] w2 from trivial))
  clear HX
  refine wp_loop (fun a' w' => ∃ (ds : List Deferred) (j : Nat) (u8 u9 u10 u11 u12 u14 u15 u16 u28 u29 u30 u31 u32 u33 u34 u35 u36 u37 u38 u39 u40 u41 u42 u43 u44 u45 u46 u47 u48 u49 u50 u51 u52 u53 u54 u55 u56 u57 u58 u59 u60 u61 u62 u63 u64 u65 u66 u67 u68 u69 u70 u71 u72 u73 u74 u75 u76 u77 u78 u79 u80 u81 u82 u83 u84 u85 u86 u87 u88 u89 u90 u91 u92 u93 u94 u95 u96 u97 u98 u99 u100 u101 u102 u103 u104 u105 u106 u107 u108 u109 u110 u111 u112 u113 u114 u115 u116 u117 : Value), (j ≤ 2 ∧ Hid (CtSt w (.slice A1 n1 c1) (.slice A2 n2 c2) w' ∧ Marks (w.heap.size + 2) ds w')) ∧ a' = { tmps := #[.agg #[.slice A1 n1 c1, .slice A2 n2 c2], .int .i64 n, .int .i64 k, .pointer (some ⟨w.heap.size, 0, none⟩), undef, undef, .pointer (some ⟨w.heap.size + 1, 0, none⟩), undef, u8, u9, u10, u11, u12, undef, u14, u15, u16, undef, undef, .bool true, .bool false, .int .i64 n, .int .i64 n, .int .u64 (IntKind.u64.wrap n), .int .u64 ((IntKind.u64.wrap n).tmod 27), .int .i64 m, .agg #[.int .i64 n, .int .i64 m], .int .i64 (j : Int), u28, u29, u30, u31, u32, u33, u34, u35, u36, u37, u38, u39, u40, u41, u42, u43, u44, u45, u46, u47, u48, u49, u50, u51, u52, u53, u54, u55, u56, u57, u58, u59, u60, u61, u62, u63, u64, u65, u66, u67, u68, u69, u70, u71, u72, u73, u74, u75, u76, u77, u78, u79, u80, u81, u82, u83, u84, u85, u86, u87, u88, u89, u90, u91, u92, u93, u94, u95, u96, u97, u98, u99, u100, u101, u102, u103, u104, u105, u106, u107, u108, u109, u110, u111, u112, u113, u114, u115, u116, u117, undef, undef, undef, undef, undef, undef, undef, undef, undef, undef, undef, undef, undef, undef, undef, undef, undef, undef, undef, undef, undef, undef, undef, undef, undef, undef, undef, undef, undef, undef, undef, undef, undef, undef, undef, undef, undef, undef, undef], defers := ds }) (fun a' _ => 2 - (intOf (a'.tmps.getD 27 undef)).toNat) ?start ?round
  case start =>
    refine ⟨[], 0, ?_⟩
    (repeat apply Exists.intro)
    exact ⟨⟨by omega, HX0⟩, rfl⟩
  case round =>
    clear HX0
    intro _ wr hinv
    obtain ⟨ds, hinv⟩ := hinv
    obtain ⟨j, hinv⟩ := hinv
    obtain ⟨u8, hinv⟩ := hinv
    obtain ⟨u9, hinv⟩ := hinv
    obtain ⟨u10, hinv⟩ := hinv
    obtain ⟨u11, hinv⟩ := hinv
    obtain ⟨u12, hinv⟩ := hinv
    obtain ⟨u14, hinv⟩ := hinv
    obtain ⟨u15, hinv⟩ := hinv
    obtain ⟨u16, hinv⟩ := hinv
    obtain ⟨u28, hinv⟩ := hinv
    obtain ⟨u29, hinv⟩ := hinv
    obtain ⟨u30, hinv⟩ := hinv
    obtain ⟨u31, hinv⟩ := hinv
    obtain ⟨u32, hinv⟩ := hinv
    obtain ⟨u33, hinv⟩ := hinv
    obtain ⟨u34, hinv⟩ := hinv
    obtain ⟨u35, hinv⟩ := hinv
    obtain ⟨u36, hinv⟩ := hinv
    obtain ⟨u37, hinv⟩ := hinv
    obtain ⟨u38, hinv⟩ := hinv
    obtain ⟨u39, hinv⟩ := hinv
    obtain ⟨u40, hinv⟩ := hinv
    obtain ⟨u41, hinv⟩ := hinv
    obtain ⟨u42, hinv⟩ := hinv
    obtain ⟨u43, hinv⟩ := hinv
    obtain ⟨u44, hinv⟩ := hinv
    obtain ⟨u45, hinv⟩ := hinv
    obtain ⟨u46, hinv⟩ := hinv
    obtain ⟨u47, hinv⟩ := hinv
    obtain ⟨u48, hinv⟩ := hinv
    obtain ⟨u49, hinv⟩ := hinv
    obtain ⟨u50, hinv⟩ := hinv
    obtain ⟨u51, hinv⟩ := hinv
    obtain ⟨u52, hinv⟩ := hinv
    obtain ⟨u53, hinv⟩ := hinv
    obtain ⟨u54, hinv⟩ := hinv
    obtain ⟨u55, hinv⟩ := hinv
    obtain ⟨u56, hinv⟩ := hinv
    obtain ⟨u57, hinv⟩ := hinv
    obtain ⟨u58, hinv⟩ := hinv
    obtain ⟨u59, hinv⟩ := hinv
    obtain ⟨u60, hinv⟩ := hinv
    obtain ⟨u61, hinv⟩ := hinv
    obtain ⟨u62, hinv⟩ := hinv
    obtain ⟨u63, hinv⟩ := hinv
    obtain ⟨u64, hinv⟩ := hinv
    obtain ⟨u65, hinv⟩ := hinv
    obtain ⟨u66, hinv⟩ := hinv
    obtain ⟨u67, hinv⟩ := hinv
    obtain ⟨u68, hinv⟩ := hinv
    obtain ⟨u69, hinv⟩ := hinv
    obtain ⟨u70, hinv⟩ := hinv
    obtain ⟨u71, hinv⟩ := hinv
    obtain ⟨u72, hinv⟩ := hinv
    obtain ⟨u73, hinv⟩ := hinv
    obtain ⟨u74, hinv⟩ := hinv
    obtain ⟨u75, hinv⟩ := hinv
    obtain ⟨u76, hinv⟩ := hinv
    obtain ⟨u77, hinv⟩ := hinv
    obtain ⟨u78, hinv⟩ := hinv
    obtain ⟨u79, hinv⟩ := hinv
    obtain ⟨u80, hinv⟩ := hinv
    obtain ⟨u81, hinv⟩ := hinv
    obtain ⟨u82, hinv⟩ := hinv
    obtain ⟨u83, hinv⟩ := hinv
    obtain ⟨u84, hinv⟩ := hinv
    obtain ⟨u85, hinv⟩ := hinv
    obtain ⟨u86, hinv⟩ := hinv
    obtain ⟨u87, hinv⟩ := hinv
    obtain ⟨u88, hinv⟩ := hinv
    obtain ⟨u89, hinv⟩ := hinv
    obtain ⟨u90, hinv⟩ := hinv
    obtain ⟨u91, hinv⟩ := hinv
    obtain ⟨u92, hinv⟩ := hinv
    obtain ⟨u93, hinv⟩ := hinv
    obtain ⟨u94, hinv⟩ := hinv
    obtain ⟨u95, hinv⟩ := hinv
    obtain ⟨u96, hinv⟩ := hinv
    obtain ⟨u97, hinv⟩ := hinv
    obtain ⟨u98, hinv⟩ := hinv
    obtain ⟨u99, hinv⟩ := hinv
    obtain ⟨u100, hinv⟩ := hinv
    obtain ⟨u101, hinv⟩ := hinv
    obtain ⟨u102, hinv⟩ := hinv
    obtain ⟨u103, hinv⟩ := hinv
    obtain ⟨u104, hinv⟩ := hinv
    obtain ⟨u105, hinv⟩ := hinv
    obtain ⟨u106, hinv⟩ := hinv
    obtain ⟨u107, hinv⟩ := hinv
    obtain ⟨u108, hinv⟩ := hinv
    obtain ⟨u109, hinv⟩ := hinv
    obtain ⟨u110, hinv⟩ := hinv
    obtain ⟨u111, hinv⟩ := hinv
    obtain ⟨u112, hinv⟩ := hinv
    obtain ⟨u113, hinv⟩ := hinv
    obtain ⟨u114, hinv⟩ := hinv
    obtain ⟨u115, hinv⟩ := hinv
    obtain ⟨u116, hinv⟩ := hinv
    obtain ⟨u117, hinv⟩ := hinv
    obtain ⟨⟨hj, HR⟩, ha⟩ := hinv
    subst ha
    try dsimp only
    by_cases hlt : j < 2
    · have hidx := fun w => run_idx67 n m j hlt w
      generalize (if j = 0 then n else m) = x at *
      go_upto_region 6 with (fail)
      clear hidx
      go_wp2_with fail
      refine (count_any x wr).mono ?_
      by_cases hbad : x < 0 ∨ 25 < x
      · rw [if_pos hbad]
        rintro e w3 ⟨rfl, hb⟩
        have HA := Lib.hid (And.intro (HR.out.1.on hb) (HR.out.2.below hb))
        have HBAD := Lib.hid hbad
        clear hb HR
        have hcf : countF x = 0 := by unfold countF; rw [if_pos hbad]
        rw [hcf]
        have hcase : x < 0 ∨ (¬ x < 0 ∧ 25 < x) := by omega
        clear hcf hbad
        rcases hcase with h | ⟨h, h'⟩
        all_goals
          go_wp2_with fail
          refine (unrank_bad x 0 w3 (.inl HBAD.out)).mono ?_
          rintro e w4 ⟨rfl, hb⟩
          have HB := Lib.hid (And.intro (HA.out.1.on hb) (HA.out.2.below hb))
          clear hb HA
          go_upto_region 9 with (fail)
          refine wp_abs (fun wx => (CtSt w (.slice A1 n1 c1) (.slice A2 n2 c2) wx ∧ Marks (w.heap.size + 2) ds wx) ∧ Blk wx w4.heap.size 26 #[.slice none 0 0, .slice none 0 0] ∧ w.heap.size + 2 ≤ wx.heap.size) ⟨⟨HB.out.1.on ((Below.refl _ _).alloc (Nat.le_refl _) _), HB.out.2.below ((Below.refl _ _).alloc (Nat.le_refl _) _)⟩, Blk.new _ _ _, by have := HB.out.1.b6.lt; simp; omega⟩ ?_
          rintro w5 ⟨hS, hB, hz⟩
          have HC := Lib.hid (And.intro hS hB)
          clear hS hB HB
          generalize w4.heap.size = q at *
          go_wp2_with fail
          refine (all_any x w5).mono ?_
          rintro e w6 ⟨rfl, hw6⟩
          have h6 : w6.cell? ⟨w5.heap.size, 0, none⟩ = some (.int .i64 x) := by rw [hw6]; exact (Blk.new _ _ _).cell 0
          have h6s : w5.heap.size < w6.heap.size := by rw [hw6]; simp
          have h6b : Below w5.heap.size w5 w6 := by rw [hw6]; exact (Below.refl _ _).alloc (Nat.le_refl _) _
          have HD := Lib.hid (And.intro (And.intro (HC.out.1.1.on h6b) (HC.out.1.2.below h6b)) (And.intro (HC.out.2.below h6b HC.out.2.lt) (And.intro h6 h6s)))
          have hz6 : w.heap.size + 2 ≤ w6.heap.size := by omega
          clear hw6 h6 h6b HC h6s
          generalize w5.heap.size = q5 at *
          go_wp2
          refine wp_range_none (gf := 55) (lb := #[.pointer (some ⟨q5, 0, none⟩)]) rfl (enters_of Try.func55 (by kernel_rfl) rfl) (fun W hb hs => all_none x q5 W ((hb.cell (p := ⟨q5, 0, none⟩) HD.out.2.2.2).trans HD.out.2.2.1) (Nat.lt_of_lt_of_le HD.out.2.2.2 hb.size) HBAD.out) ?_
          intro w7 hb hk
          have HE := Lib.hid (And.intro (And.intro (HD.out.1.1.on hb) (HD.out.1.2.more hb hz6 hk)) (HD.out.2.1.below hb HD.out.2.1.lt))
          clear hb hk HD
          have e0 : w7.cell? ⟨q, 0, none⟩ = some (.slice none 0 0) := HE.out.2.cell 0
          have e1 : w7.cell? ⟨q, 1, none⟩ = some (.slice none 0 0) := HE.out.2.cell 1
          generalize w6.heap.size = q6 at *
          go_wp2_with fail
          refine (none_any 0 0 w7).mono ?_
          rintro e w8 ⟨rfl, hb⟩
          have HF := Lib.hid (And.intro (HE.out.1.1.on hb) (HE.out.1.2.below hb))
          clear hb HE e0 e1
          go_wp2
          refine ⟨⟨{ target := .collected q6, args := #[] } :: ds, j + 1, ?_⟩, ?_⟩
          · (repeat apply Exists.intro)
            exact ⟨⟨by omega, HF⟩, rfl⟩
          · simp [intOf]; omega
      · rw [if_neg hbad]
        rintro e w3 ⟨rfl, hb⟩
        have HA := Lib.hid (And.intro (HR.out.1.on hb) (HR.out.2.below hb))
        clear hb HR
        obtain ⟨xn, rfl⟩ : ∃ xn : Nat, x = xn := ⟨x.toNat, by omega⟩
        have hx : xn ≤ 25 := by omega
        have hcf : countF (xn : Int) = tN xn 0 := by unfold countF; rw [if_neg hbad]; rfl
        have hpos := tN_pos xn 0
        have hb63 := tN_le xn 0 (by omega)
        rw [hcf]
        clear hcf hbad
        go_wp2_with fail
        refine (refCount_any xn w3 hx).mono ?_
        rintro e w4 ⟨rfl, hb⟩
        have HB := Lib.hid (And.intro (HA.out.1.on hb) (HA.out.2.below hb))
        clear hb HA
        generalize htc : tN xn 0 = c at *
        have HTC := Lib.hid htc
        clear htc
        go_wp2
        generalize wrap64 ((IntKind.u64.wrap k).tmod (c : Int)) = y1
        generalize ((c : Int) - 1) = y2
        generalize (decide ((xn : Int) < 0)) = z1
        generalize (decide (25 < (xn : Int))) = z2
        go_loopw [83] (fun iv wr => ∃ i : Nat, i ≤ 4 ∧ iv = .int .i64 i ∧ Hid (CtSt w (.slice A1 n1 c1) (.slice A2 n2 c2) wr ∧ Marks (w.heap.size + 2) ds wr)) (fun iv _ => 4 - (intOf iv).toNat)
        case atStart => exact ⟨0, by omega, rfl, HB⟩
        case round =>
          obtain ⟨i, hi, rfl, HI⟩ := hrel
          clear HB
          by_cases hil : i < 4
          · have hidx := fun w => run_idx71 k y1 y2 c i hil w
            generalize (if i = 0 then k else if i = 1 then y1 else if i = 2 then y2 else (c : Int)) = y at *
            go_upto_region 18 with (fail)
            clear hidx
            by_cases hy : y < 0 ∨ (c : Int) ≤ y
            · have hub := Lib.hid (show ((xn : Int) < 0 ∨ 25 < (xn : Int)) ∨ y < 0 ∨ countF xn ≤ y from .inr (by
                have hcf : countF (xn : Int) = tN xn 0 := by unfold countF; rw [if_neg (by omega)]; rfl
                rw [hcf, HTC.out]; exact hy))
              go_wp2_with fail
              refine (unrank_bad xn y _ hub.out).mono ?_
              rintro e v1 ⟨rfl, hb⟩
              have HJ := Lib.hid (And.intro (HI.out.1.on hb) (HI.out.2.below hb))
              clear hb HI
              have hcase : y < 0 ∨ (¬ y < 0 ∧ (c : Int) ≤ y) := by omega
              clear hy
              go_upto_region 19 with (fail)
              refine wp_abs (fun wx => (CtSt w (.slice A1 n1 c1) (.slice A2 n2 c2) wx ∧ Marks (w.heap.size + 2) ds wx) ∧ Blk wx v1.heap.size 26 #[.slice none 0 0, .slice none 0 0]) ⟨⟨HJ.out.1.on ((Below.refl _ _).alloc (Nat.le_refl _) _), HJ.out.2.below ((Below.refl _ _).alloc (Nat.le_refl _) _)⟩, Blk.new _ _ _⟩ ?_
              rintro v2 ⟨hS, hB⟩
              have e0 : v2.cell? ⟨v1.heap.size, 0, none⟩ = some (.slice none 0 0) := hB.cell 0
              have e1 : v2.cell? ⟨v1.heap.size, 1, none⟩ = some (.slice none 0 0) := hB.cell 1
              have HK := Lib.hid hS
              clear hS hB HJ
              rcases hcase with h | ⟨h, h'⟩
              all_goals
                go_wp2_with fail
                refine (none_any 0 0 v2).mono ?_
                rintro e v3 ⟨rfl, hb⟩
                have HL := Lib.hid (And.intro (HK.out.1.on hb) (HK.out.2.below hb))
                clear hb HK e0 e1
                go_wp2
                go_roundw
                case rel => exact ⟨i + 1, by omega, by go_num, HL⟩
                case measure => simp [intOf]; omega
            · obtain ⟨yn, rfl⟩ : ∃ yn : Nat, y = yn := ⟨y.toNat, by omega⟩
              have hyc : yn < tN xn 0 := by rw [HTC.out]; omega
              have HYC := Lib.hid hyc
              have d1 : decide ((c : Int) ≤ (yn : Int)) = false := by simp; omega
              have d2 : decide (c ≤ yn) = false := by simp; omega
              clear hy hyc
              go_wp2_with fail
              refine (unrank_ok xn yn _ hx HYC.out).mono ?_
              rintro e v1 ⟨U1, x1, U2, x2, rfl, o1, o2, hb⟩
              have HJ := Lib.hid (And.intro (And.intro (HI.out.1.on hb) (HI.out.2.below hb)) (And.intro o1 o2))
              clear hb HI o1 o2
              go_upto_region 19 with (fail)
              refine wp_abs (fun wx => (CtSt w (.slice A1 n1 c1) (.slice A2 n2 c2) wx ∧ Marks (w.heap.size + 2) ds wx) ∧ Blk wx v1.heap.size 26 #[.slice U1 xn x1, .slice U2 (plainS xn).length x2] ∧ Rd wx 0 wx.heap.size 2 U1 xn (prs (unL xn yn xn)) ∧ Rd wx 0 wx.heap.size 1 U2 (plainS xn).length ((plainS xn).map (Value.int .i64))) ⟨⟨HJ.out.1.1.on ((Below.refl _ _).alloc (Nat.le_refl _) _), HJ.out.1.2.below ((Below.refl _ _).alloc (Nat.le_refl _) _)⟩, Blk.new _ _ _, (own_rd (HJ.out.2.1.alloc _)).more (Nat.zero_le _) (Nat.le_refl _), (own_rd (HJ.out.2.2.alloc _)).more (Nat.zero_le _) (Nat.le_refl _)⟩ ?_
              rintro v2 ⟨hS, hB, r1, r2⟩
              have HK := Lib.hid (And.intro hS (And.intro hB (And.intro r1 r2)))
              clear hS hB HJ r1 r2
              go_upto_region 22 with (fail)
              have KB : ∀ W, Below v2.heap.size v2 W → W.cell? ⟨v1.heap.size, 0, none⟩ = some (.slice U1 xn x1) ∧ W.cell? ⟨v1.heap.size, 1, none⟩ = some (.slice U2 (plainS xn).length x2) := fun W hb => ⟨(HK.out.2.1.below hb HK.out.2.1.lt).cell 0, (HK.out.2.1.below hb HK.out.2.1.lt).cell 1⟩
              have HKB := Lib.hid KB
              have hps : (plainS xn).length ≤ maxLen := by unfold plainS maxLen; split <;> simp
              have hxm : xn ≤ maxLen := by unfold maxLen; omega
              clear KB
              go_region_held3 (fun W => W.cell? ⟨v1.heap.size, 0, none⟩ = some (.slice U1 xn x1) ∧ W.cell? ⟨v1.heap.size, 1, none⟩ = some (.slice U2 (plainS xn).length x2))
                ((refine HKB.out _ ?_; first | exact HR2.out | exact HR1.out.1 | exact ⟨rfl, rfl, rfl, Nat.le_refl _, fun _ _ => rfl⟩))
                (first
                  | (go_at_call 20
                     refine (refUnrank_any xn yn _ hx HYC.out).mono ?_
                     rintro e v3 ⟨G1, g1, G2, g2, rfl, r1, r2, hb⟩
                     have hbx : Below v2.heap.size v2 v3 := ⟨hb.os, hb.tape, hb.output, hb.size, hb.block⟩
                     have HR1 := Lib.hid (And.intro hbx (And.intro r1 r2))
                     clear hb hbx r1 r2)
                  | (go_at_call 16
                     (with_reducible refine (equal_any U1 U2 G1 G2 xn x1 (plainS xn).length x2 xn g1 (plainS xn).length g2 0 0 0 0 (unL xn yn xn) (unL xn yn xn) (plainS xn) (plainS xn) v3 (HK.out.2.2.1.up HR1.out.1 HR1.out.1.size) (HK.out.2.2.2.up HR1.out.1 HR1.out.1.size) ((own_rd HR1.out.2.1).more (Nat.zero_le _) (Nat.le_refl _)) ((own_rd HR1.out.2.2).more (Nat.zero_le _) (Nat.le_refl _)) hxm hps hxm hps).mono ?_)
                     rw [eqS_selfC]
                     rintro e v4 ⟨rfl, hb⟩
                     have HR2 := Lib.hid (HR1.out.1.trans (hb.mono HR1.out.1.size))
                     clear hb))
              have HL := Lib.hid (And.intro (HK.out.1.1.on HR2.out) (HK.out.1.2.below HR2.out))
              clear HR1 HR2 HKB HK hps hxm
              go_wp2
              go_roundw
              case rel => exact ⟨i + 1, by omega, by go_num, HL⟩
              case measure => simp [intOf]; omega
          · obtain rfl : i = 4 := by omega
            go_wp2
            refine ⟨⟨ds, j + 1, ?_⟩, ?_⟩
            · (repeat apply Exists.intro)
              exact ⟨⟨by omega, HI⟩, rfl⟩
            · simp [intOf]; omega
    · obtain rfl : j = 2 := by omega
      clear hlt hj
      have c00 : wr.cell? ⟨w.heap.size, 0, none⟩ = some (.slice A1 n1 c1) := HR.out.1.b3.cell 0
      have c01 : wr.cell? ⟨w.heap.size, 1, none⟩ = some (.slice A2 n2 c2) := HR.out.1.b3.cell 1
      have l1 : ls.length = n1 := by have := H1.out.1; rw [prs_len] at this; omega
      have l2 : st.length = n2 := by have := H2.out.1; simpa using this
      have HLN := Lib.hid (And.intro l1 l2)
      clear l1 l2
      go_wp2_with fail
      refine (rank_all A1 A2 n1 c1 n2 c2 0 0 ls st wr (H1.out.up HR.out.1.below HR.out.1.below.size) (H2.out.up HR.out.1.below HR.out.1.below.size) z2 z1).mono ?_
      have hk : rkOk ls st = true ∨ rkOk ls st = false := (bool_or' _).symm
      rcases hk with hk | hk
      · have hV : rkV ls st = rkF ls ls.length := by unfold rkV; rw [if_pos hk]
        have hE : rkE ls st = 0 := by unfold rkE; rw [if_pos hk]
        rw [hV, hE]
        rintro e v1 ⟨rfl, hb⟩
        have HA := Lib.hid (And.intro (HR.out.1.on hb) (HR.out.2.below hb))
        have c00 : v1.cell? ⟨w.heap.size, 0, none⟩ = some (.slice A1 n1 c1) := HA.out.1.b3.cell 0
        have c01 : v1.cell? ⟨w.heap.size, 1, none⟩ = some (.slice A2 n2 c2) := HA.out.1.b3.cell 1
        have hparts : may ls st = true ∧ ls.length ≤ 25 ∧ plainAll ls = true := by
          unfold rkOk at hk
          simp only [Bool.and_eq_true, decide_eq_true_eq] at hk
          exact ⟨hk.1, hk.2.1, hk.2.2.2⟩
        have hpf : refPlainF ls st = true := by rw [← rk_plain hparts.1 hparts.2.1]; exact hk
        have hn25 : n1 ≤ 25 := by have := hparts.2.1; have := HLN.out.1; omega
        have HP := Lib.hid (And.intro hparts.1 (And.intro hpf hparts.2.2))
        have d1 : decide ((25 : Int) < (n1 : Int)) = false := by simp; omega
        have d2 : decide (25 < n1) = false := by simp; omega
        generalize hrk : rkF ls ls.length = rk at *
        have HRK := Lib.hid hrk
        clear hrk hpf hparts hV hE hk hb
        clear HR
        go_wp2_with fail
        refine (refMay_any A1 A2 n1 c1 n2 c2 0 0 ls st v1 (H1.out.up HA.out.1.below HA.out.1.below.size) (H2.out.up HA.out.1.below HA.out.1.below.size) z2 z1).mono ?_
        rw [HP.out.1]
        rintro e v2 ⟨rfl, hb⟩
        have HB := Lib.hid (And.intro (HA.out.1.on hb) (HA.out.2.below hb))
        clear hb HA c00 c01
        have c00 : v2.cell? ⟨w.heap.size, 0, none⟩ = some (.slice A1 n1 c1) := HB.out.1.b3.cell 0
        have c01 : v2.cell? ⟨w.heap.size, 1, none⟩ = some (.slice A2 n2 c2) := HB.out.1.b3.cell 1
        go_wp2_with fail
        refine (refPlain_any A1 A2 n1 c1 n2 c2 0 ls st v2 (H1.out.up HB.out.1.below HB.out.1.below.size) HLN.out.2 (by have := mayLen HP.out.1; have := HLN.out.1; omega) (mayLine HP.out.1)).mono ?_
        rw [HP.out.2.1]
        rintro e v3 ⟨rfl, hb⟩
        have HC := Lib.hid (And.intro (HB.out.1.on hb) (HB.out.2.below hb))
        clear hb HB c00 c01
        have c00 : v3.cell? ⟨w.heap.size, 0, none⟩ = some (.slice A1 n1 c1) := HC.out.1.b3.cell 0
        have c01 : v3.cell? ⟨w.heap.size, 1, none⟩ = some (.slice A2 n2 c2) := HC.out.1.b3.cell 1
        go_wp2_with fail
        refine (refRank_any A1 A2 n1 c1 n2 c2 0 ls v3 (H1.out.up HC.out.1.below HC.out.1.below.size) hn25 HP.out.2.2).mono ?_
        rw [HRK.out]
        rintro e v4 ⟨rfl, hb⟩
        have HD := Lib.hid (And.intro (HC.out.1.on hb) (HC.out.2.below hb))
        clear hb HC c00 c01
        go_wp2_with fail
        refine (wakes_any v4).mono ?_
        rintro e vz ⟨rfl, hb⟩
        have HZ := Lib.hid (And.intro (HD.out.1.on hb) (HD.out.2.below hb))
        clear hb HD
        have r0 : vz.cell? ⟨w.heap.size + 1, 0, none⟩ = some (.bool false) := HZ.out.1.b6.cell 0
        have r1 : vz.frozen? ⟨w.heap.size + 1, 0, none⟩ = false := HZ.out.1.b6.frozen 0
        go_wp2
        refine bodyPostM_ret (HZ.out.2.setCell HZ.out.1.b6 0 (.bool true)) ?_
        exact ct_end HZ.out.1 _ rfl
      · have hV : rkV ls st = 0 := by unfold rkV; rw [hk]; rfl
        have hE : rkE ls st = 2 := by unfold rkE; rw [hk]; rfl
        rw [hV, hE]
        rintro e v1 ⟨rfl, hb⟩
        have HA := Lib.hid (And.intro (HR.out.1.on hb) (HR.out.2.below hb))
        have c00 : v1.cell? ⟨w.heap.size, 0, none⟩ = some (.slice A1 n1 c1) := HA.out.1.b3.cell 0
        have c01 : v1.cell? ⟨w.heap.size, 1, none⟩ = some (.slice A2 n2 c2) := HA.out.1.b3.cell 1
        clear hV hE hb HR
        have hcase : may ls st = false ∨ (may ls st = true ∧ refPlainF ls st = false) ∨ (may ls st = true ∧ refPlainF ls st = true ∧ 25 < n1) := by
          rcases bool_or' (may ls st) with hm | hm
          · exact .inl hm
          · rcases bool_or' (refPlainF ls st) with hp | hp
            · exact .inr (.inl ⟨hm, hp⟩)
            · refine .inr (.inr ⟨hm, hp, ?_⟩)
              rcases Nat.lt_or_ge 25 n1 with h | h
              · exact h
              · have := rk_plain hm (by rw [HLN.out.1]; exact h)
                rw [hk, hp] at this
                cases this
        clear hk
        rcases hcase with hm | ⟨hm, hp⟩ | ⟨hm, hp, hl⟩
        · have HM := Lib.hid hm
          clear hm
          go_wp2_with fail
          refine (refMay_any A1 A2 n1 c1 n2 c2 0 0 ls st v1 (H1.out.up HA.out.1.below HA.out.1.below.size) (H2.out.up HA.out.1.below HA.out.1.below.size) z2 z1).mono ?_
          rw [HM.out]
          rintro e v2 ⟨rfl, hb⟩
          have HB := Lib.hid (And.intro (HA.out.1.on hb) (HA.out.2.below hb))
          clear hb HA c00 c01
          have c00 : v2.cell? ⟨w.heap.size, 0, none⟩ = some (.slice A1 n1 c1) := HB.out.1.b3.cell 0
          have c01 : v2.cell? ⟨w.heap.size, 1, none⟩ = some (.slice A2 n2 c2) := HB.out.1.b3.cell 1
          go_wp2_with fail
          refine (wakes_any v2).mono ?_
          rintro e vz ⟨rfl, hb⟩
          have HZ := Lib.hid (And.intro (HB.out.1.on hb) (HB.out.2.below hb))
          clear hb HB
          have r0 : vz.cell? ⟨w.heap.size + 1, 0, none⟩ = some (.bool false) := HZ.out.1.b6.cell 0
          have r1 : vz.frozen? ⟨w.heap.size + 1, 0, none⟩ = false := HZ.out.1.b6.frozen 0
          go_wp2
          refine bodyPostM_ret (HZ.out.2.setCell HZ.out.1.b6 0 (.bool true)) ?_
          exact ct_end HZ.out.1 _ rfl
        · have HM := Lib.hid (And.intro hm hp)
          clear hm hp
          go_wp2_with fail
          refine (refMay_any A1 A2 n1 c1 n2 c2 0 0 ls st v1 (H1.out.up HA.out.1.below HA.out.1.below.size) (H2.out.up HA.out.1.below HA.out.1.below.size) z2 z1).mono ?_
          rw [HM.out.1]
          rintro e v2 ⟨rfl, hb⟩
          have HB := Lib.hid (And.intro (HA.out.1.on hb) (HA.out.2.below hb))
          clear hb HA c00 c01
          have c00 : v2.cell? ⟨w.heap.size, 0, none⟩ = some (.slice A1 n1 c1) := HB.out.1.b3.cell 0
          have c01 : v2.cell? ⟨w.heap.size, 1, none⟩ = some (.slice A2 n2 c2) := HB.out.1.b3.cell 1
          go_wp2_with fail
          refine (refPlain_any A1 A2 n1 c1 n2 c2 0 ls st v2 (H1.out.up HB.out.1.below HB.out.1.below.size) HLN.out.2 (by have := mayLen HM.out.1; have := HLN.out.1; omega) (mayLine HM.out.1)).mono ?_
          rw [HM.out.2]
          rintro e v3 ⟨rfl, hb⟩
          have HC := Lib.hid (And.intro (HB.out.1.on hb) (HB.out.2.below hb))
          clear hb HB c00 c01
          have c00 : v3.cell? ⟨w.heap.size, 0, none⟩ = some (.slice A1 n1 c1) := HC.out.1.b3.cell 0
          have c01 : v3.cell? ⟨w.heap.size, 1, none⟩ = some (.slice A2 n2 c2) := HC.out.1.b3.cell 1
          go_wp2_with fail
          refine (wakes_any v3).mono ?_
          rintro e vz ⟨rfl, hb⟩
          have HZ := Lib.hid (And.intro (HC.out.1.on hb) (HC.out.2.below hb))
          clear hb HC
          have r0 : vz.cell? ⟨w.heap.size + 1, 0, none⟩ = some (.bool false) := HZ.out.1.b6.cell 0
          have r1 : vz.frozen? ⟨w.heap.size + 1, 0, none⟩ = false := HZ.out.1.b6.frozen 0
          go_wp2
          refine bodyPostM_ret (HZ.out.2.setCell HZ.out.1.b6 0 (.bool true)) ?_
          exact ct_end HZ.out.1 _ rfl
        · have HM := Lib.hid (And.intro hm hp)
          have d1 : decide ((25 : Int) < (n1 : Int)) = true := by simp; omega
          have d2 : decide (25 < n1) = true := by simpa using hl
          clear hm hp
          go_wp2_with fail
          refine (refMay_any A1 A2 n1 c1 n2 c2 0 0 ls st v1 (H1.out.up HA.out.1.below HA.out.1.below.size) (H2.out.up HA.out.1.below HA.out.1.below.size) z2 z1).mono ?_
          rw [HM.out.1]
          rintro e v2 ⟨rfl, hb⟩
          have HB := Lib.hid (And.intro (HA.out.1.on hb) (HA.out.2.below hb))
          clear hb HA c00 c01
          have c00 : v2.cell? ⟨w.heap.size, 0, none⟩ = some (.slice A1 n1 c1) := HB.out.1.b3.cell 0
          have c01 : v2.cell? ⟨w.heap.size, 1, none⟩ = some (.slice A2 n2 c2) := HB.out.1.b3.cell 1
          go_wp2_with fail
          refine (refPlain_any A1 A2 n1 c1 n2 c2 0 ls st v2 (H1.out.up HB.out.1.below HB.out.1.below.size) HLN.out.2 (by have := mayLen HM.out.1; have := HLN.out.1; omega) (mayLine HM.out.1)).mono ?_
          rw [HM.out.2]
          rintro e v3 ⟨rfl, hb⟩
          have HC := Lib.hid (And.intro (HB.out.1.on hb) (HB.out.2.below hb))
          clear hb HB c00 c01
          have c00 : v3.cell? ⟨w.heap.size, 0, none⟩ = some (.slice A1 n1 c1) := HC.out.1.b3.cell 0
          have c01 : v3.cell? ⟨w.heap.size, 1, none⟩ = some (.slice A2 n2 c2) := HC.out.1.b3.cell 1
          go_wp2_with fail
          refine (wakes_any v3).mono ?_
          rintro e vz ⟨rfl, hb⟩
          have HZ := Lib.hid (And.intro (HC.out.1.on hb) (HC.out.2.below hb))
          clear hb HC
          have r0 : vz.cell? ⟨w.heap.size + 1, 0, none⟩ = some (.bool false) := HZ.out.1.b6.cell 0
          have r1 : vz.frozen? ⟨w.heap.size + 1, 0, none⟩ = false := HZ.out.1.b6.frozen 0
          go_wp2
          refine bodyPostM_ret (HZ.out.2.setCell HZ.out.1.b6 0 (.bool true)) ?_
          exact ct_end HZ.out.1 _ rfl
end Go.Proofs.Ytbjfbmienlojkaa
