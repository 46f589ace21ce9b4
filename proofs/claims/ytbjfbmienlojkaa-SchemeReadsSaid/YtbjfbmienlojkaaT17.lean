/- SchemeReads: the walk of the law. -/
import Derived.Test.YtbjfbmienlojkaaT12
import Derived.Test.YtbjfbmienlojkaaT14
import Derived.Test.YtbjfbmienlojkaaT15
import Derived.Test.YtbjfbmienlojkaaT16
namespace Go.Proofs.Ytbjfbmienlojkaa
open Go.RowKit

def outL : Res → List (Int × Int) | .ok ls _ => ls | .bad _ _ => []
def outS : Res → List Int | .ok _ st => st | .bad _ _ => []
def outE : Res → Int | .ok _ _ => 0 | .bad e _ => e
def outA : Res → Int | .ok _ _ => 0 | .bad _ a => a
theorem res_any {w0 w' : World} {top : Res} {e : Ending} (h : ResPost w0 top e w') : Below w0.heap.size w0 w' ∧ ∃ A1 C1 A2 C2, e = .returned (.tuple #[.agg #[.slice A1 (outL top).length C1, .slice A2 (outS top).length C2], .agg #[.int .i64 (outE top), .int .i64 (outA top)]]) ∧
    w'.ownsRow w0.heap.size 66 2 (.slice A1 (outL top).length C1) (outL top).length (prs (outL top)) ∧ w'.ownsRow w0.heap.size 3 1 (.slice A2 (outS top).length C2) (outS top).length ((outS top).map (Value.int .i64)) := by
  obtain ⟨hb, hr⟩ := h
  refine ⟨hb, ?_⟩
  cases top with
  | ok ls st => exact hr
  | bad er a => exact ⟨none, 0, none, 0, hr, World.ownsRow_nil _ _ _ _, World.ownsRow_nil _ _ _ _⟩

theorem res_get {w0 w' : World} {top : Res} {e : Ending} {ls : List (Int × Int)} {st : List Int} {er at_ : Int} (h : ResPost w0 top e w') (h1 : outL top = ls) (h2 : outS top = st) (h3 : outE top = er) (h4 : outA top = at_) :
    Below w0.heap.size w0 w' ∧ ∃ A1 C1 A2 C2, e = .returned (.tuple #[.agg #[.slice A1 ls.length C1, .slice A2 st.length C2], .agg #[.int .i64 er, .int .i64 at_]]) ∧
    w'.ownsRow w0.heap.size 66 2 (.slice A1 ls.length C1) ls.length (prs ls) ∧ w'.ownsRow w0.heap.size 3 1 (.slice A2 st.length C2) st.length (st.map (Value.int .i64)) := by
  subst h1 h2 h3 h4
  exact res_any h

theorem rdF_bound : ∀ (N : Nat) (l : List UInt8) (pos n : Nat) (ls : List (Int × Int)) (st : List Int), l.length ≤ N → ls.length ≤ 512 → (outL (rdF l pos n ls st)).length ≤ 512 ∧ (outS (rdF l pos n ls st)).length ≤ st.length + l.length + 1 := by
  intro N
  induction N with
  | zero =>
    intro l pos n ls st hl hls
    have : l = [] := List.eq_nil_of_length_eq_zero (by omega)
    subst this
    simp only [rdF]
    split <;> simp [outL, outS, hls]
  | succ N ih =>
    intro l pos n ls st hl hls
    cases l with
    | nil =>
      simp only [rdF]
      split <;> simp [outL, outS, hls]
    | cons c t =>
      simp at hl
      rw [rdF_cons]
      split
      · have := ih t (pos + 1) 0 ls (st ++ [(n : Int)]) hl hls
        simp at this ⊢; omega
      · split
        · split
          · simp [outL, outS]
          · have := ih t (pos + 1) (n + 1) (ls ++ [(smallOf c.toNat, 0)]) st hl (by simp; omega)
            simp at this ⊢; omega
        · split
          · unfold grF
            split
            · simp [outL, outS]
            · cases t with
              | nil => simp [outL, outS]
              | cons d t' =>
                dsimp only
                split
                · simp [outL, outS]
                · have := ih t' (pos + 2) (n + 1) (ls ++ [(greatOf c.toNat, (d.toNat : Int) - 48)]) st (by simp at hl; omega) (by simp; omega)
                  simp at this ⊢; omega
          · simp [outL, outS]
theorem readF_bound (s : ByteArray) : (outL (readF s)).length ≤ 512 ∧ (outS (readF s)).length ≤ 65537 := by
  unfold readF
  split
  · simp [outL, outS]
  · split
    · simp [outL, outS]
    · have := rdF_bound s.data.toList.length s.data.toList 0 0 [] [] (Nat.le_refl _) (by simp)
      simp at this ⊢
      omega

theorem Rd.only {w w' : World} {L B sz n : Nat} {A : Option Addr} {xs : List Value} {S : Nat → Prop} (h : Rd w L B sz A n xs) (ho : Only S w w') (hB : B ≤ w.heap.size) (hS : ∀ k, L ≤ k → k < B → ¬ S k) : Rd w' L B sz A n xs :=
  h.keep fun b o hl hb => ho.cell (by omega) (hS b hl hb)

/-- memory when the three schemes lie there -/
structure LawSt (w0 : World) (q1 q2 q3 q4 : Nat) (A1 A2 D1 D2 F1 F2 : Option Addr) (C1 C2 E1 E2 G1 G2 : Nat) (ls : List (Int × Int)) (st : List Int) (er at_ : Int) (w : World) : Prop where
  bw : Blk w q2 26 #[.slice A1 ls.length C1, .slice A2 st.length C2]
  bn : Blk w (q2 + 1) 29 #[.int .i64 er, .int .i64 at_]
  ba : Blk w q3 26 #[.slice D1 ls.length E1, .slice D2 st.length E2]
  be : Blk w (q3 + 1) 29 #[.int .i64 er, .int .i64 at_]
  bb : Blk w q4 26 #[.slice F1 ls.length G1, .slice F2 st.length G2]
  bf : Blk w (q4 + 1) 29 #[.int .i64 er, .int .i64 at_]
  w1 : Rd w q1 q2 2 A1 ls.length (prs ls)
  w2 : Rd w q1 q2 1 A2 st.length (st.map (Value.int .i64))
  a1 : w.ownsRow (q2 + 2) 66 2 (.slice D1 ls.length E1) ls.length (prs ls)
  a2 : w.ownsRow (q2 + 2) 3 1 (.slice D2 st.length E2) st.length (st.map (Value.int .i64))
  u1 : ∀ k, (Value.slice D1 ls.length E1).ownBlock = some k → k < q3
  u2 : ∀ k, (Value.slice D2 st.length E2).ownBlock = some k → k < q3
  b1 : Rd w (q3 + 2) q4 2 F1 ls.length (prs ls)
  b2 : Rd w (q3 + 2) q4 1 F2 st.length (st.map (Value.int .i64))
  o1 : w0.heap.size ≤ q1
  o2 : q1 ≤ q2
  o3 : q2 + 2 ≤ q3
  o4 : q3 + 2 ≤ q4
  o5 : q4 + 2 ≤ w.heap.size
  below : Below w0.heap.size w0 w

theorem two_new (w : World) (o1 o2 : Obj) : Below w.heap.size w ((w.alloc o1).alloc o2) := ((Below.refl _ _).alloc (Nat.le_refl _) _).alloc (by simp) _
theorem law_st {w0 w1 w2 w3 w4 : World} {A1 A2 D1 D2 F1 F2 : Option Addr} {C1 C2 E1 E2 G1 G2 : Nat} {ls : List (Int × Int)} {st : List Int} {er at_ : Int}
    (hb1 : Below w0.heap.size w0 w1) (hb2 : Below w1.heap.size w1 w2)
    (hb3 : Below ((w2.alloc (.cells #[.slice A1 ls.length C1, .slice A2 st.length C2] 26)).alloc (.cells #[.int .i64 er, .int .i64 at_] 29)).heap.size ((w2.alloc (.cells #[.slice A1 ls.length C1, .slice A2 st.length C2] 26)).alloc (.cells #[.int .i64 er, .int .i64 at_] 29)) w3)
    (hb4 : Below ((w3.alloc (.cells #[.slice D1 ls.length E1, .slice D2 st.length E2] 26)).alloc (.cells #[.int .i64 er, .int .i64 at_] 29)).heap.size ((w3.alloc (.cells #[.slice D1 ls.length E1, .slice D2 st.length E2] 26)).alloc (.cells #[.int .i64 er, .int .i64 at_] 29)) w4)
    (o1 : w2.ownsRow w1.heap.size 66 2 (.slice A1 ls.length C1) ls.length (prs ls)) (o2 : w2.ownsRow w1.heap.size 3 1 (.slice A2 st.length C2) st.length (st.map (Value.int .i64)))
    (p1 : w3.ownsRow ((w2.alloc (.cells #[.slice A1 ls.length C1, .slice A2 st.length C2] 26)).alloc (.cells #[.int .i64 er, .int .i64 at_] 29)).heap.size 66 2 (.slice D1 ls.length E1) ls.length (prs ls))
    (p2 : w3.ownsRow ((w2.alloc (.cells #[.slice A1 ls.length C1, .slice A2 st.length C2] 26)).alloc (.cells #[.int .i64 er, .int .i64 at_] 29)).heap.size 3 1 (.slice D2 st.length E2) st.length (st.map (Value.int .i64)))
    (r1 : w4.ownsRow ((w3.alloc (.cells #[.slice D1 ls.length E1, .slice D2 st.length E2] 26)).alloc (.cells #[.int .i64 er, .int .i64 at_] 29)).heap.size 66 2 (.slice F1 ls.length G1) ls.length (prs ls))
    (r2 : w4.ownsRow ((w3.alloc (.cells #[.slice D1 ls.length E1, .slice D2 st.length E2] 26)).alloc (.cells #[.int .i64 er, .int .i64 at_] 29)).heap.size 3 1 (.slice F2 st.length G2) st.length (st.map (Value.int .i64))) :
    LawSt w0 w1.heap.size w2.heap.size w3.heap.size w4.heap.size A1 A2 D1 D2 F1 F2 C1 C2 E1 E2 G1 G2 ls st er at_ ((w4.alloc (.cells #[.slice F1 ls.length G1, .slice F2 st.length G2] 26)).alloc (.cells #[.int .i64 er, .int .i64 at_] 29)) := by
  have z1 := hb1.size
  have z2 := hb2.size
  have z3 := hb3.size
  have z4 := hb4.size
  simp only [World.size_alloc] at z3 z4 hb3 hb4 p1 p2 r1 r2
  have c4 := two_new w4 (.cells #[.slice F1 ls.length G1, .slice F2 st.length G2] 26) (.cells #[.int .i64 er, .int .i64 at_] 29)
  have c3 := two_new w3 (.cells #[.slice D1 ls.length E1, .slice D2 st.length E2] 26) (.cells #[.int .i64 er, .int .i64 at_] 29)
  have c2 := two_new w2 (.cells #[.slice A1 ls.length C1, .slice A2 st.length C2] 26) (.cells #[.int .i64 er, .int .i64 at_] 29)
  have e34 := hb4.trans (c4.mono z4)
  have e3W : Below w3.heap.size w3 _ := c3.trans (e34.mono (by omega))
  have e2x := hb3.trans (e3W.mono z3)
  have e2W : Below w2.heap.size w2 _ := c2.trans (e2x.mono (by omega))
  refine ⟨?_, ?_, ?_, ?_, (Blk.new _ _ _).alloc _, ?_, (own_rd o1).below e2W (Nat.le_refl _), (own_rd o2).below e2W (Nat.le_refl _), ?_, ?_, fun k hk => (p1.lt k hk).2, fun k hk => (p2.lt k hk).2,
    (own_rd r1).below c4 (Nat.le_refl _), (own_rd r2).below c4 (Nat.le_refl _), z1, z2, by omega, by omega, by simp, hb1.trans ((hb2.mono z1).trans (e2W.mono (by omega)))⟩
  · exact ((Blk.new w2 26 _).alloc _).below e2x (by omega)
  · exact (blk_new_eq (by simp)).below e2x (by omega)
  · exact ((Blk.new w3 26 _).alloc _).below e34 (by omega)
  · exact (blk_new_eq (by simp)).below e34 (by omega)
  · exact blk_new_eq (by simp)
  · exact own_only p1 (Only.of_below e3W (fun _ => False)) (fun _ _ _ _ hf => hf)
  · exact own_only p2 (Only.of_below e3W (fun _ => False)) (fun _ _ _ _ hf => hf)

set_option maxHeartbeats 4000000 in
set_option maxRecDepth 100000 in
theorem schemeReads_any (s : ByteArray) (w : World) (hm : s.size ≤ maxLen) : Calls Try.prog 3 #[.string s] w fun e w' => e = .returned (.bool true) ∧ Below w.heap.size w w' := by
  have hbd := readF_bound s
  generalize hls : outL (readF s) = ls at hbd
  generalize hst : outS (readF s) = st at hbd
  generalize her : outE (readF s) = er
  generalize hat : outA (readF s) = at_
  have HLS := Lib.hid hls
  have HST := Lib.hid hst
  have HER := Lib.hid her
  have HAT := Lib.hid hat
  obtain ⟨hl1, hl2⟩ := hbd
  clear hls hst her hat
  go_enter Try.func3, Try.ntmps3
  go_wp2_with fail
  refine (wakes_any w).mono ?_
  rintro e w1 ⟨rfl, hb1⟩
  go_wp2_with fail
  refine (refRead_any s w1 hm).mono ?_
  intro e w2 h2
  obtain ⟨hb2, A1, C1, A2, C2, rfl, o1, o2⟩ := res_get h2 HLS.out HST.out HER.out HAT.out
  clear h2
  go_wp2_with fail
  refine (read_any s _ hm).mono ?_
  intro e w3 h3
  obtain ⟨hb3, D1, E1, D2, E2, rfl, p1, p2⟩ := res_get h3 HLS.out HST.out HER.out HAT.out
  clear h3
  have HB3 := Lib.hid hb3
  have O1 := Lib.hid o1
  have O2 := Lib.hid o2
  have P1 := Lib.hid p1
  have P2 := Lib.hid p2
  clear o1 o2 p1 p2 hb3
  go_wp2_with fail
  refine (read_any s _ hm).mono ?_
  intro e w4 h4
  obtain ⟨hb4, F1, G1, F2, G2, rfl, r1, r2⟩ := res_get h4 HLS.out HST.out HER.out HAT.out
  clear h4
  go_upto_region 6 with (fail)
  refine wp_abs (LawSt w w1.heap.size w2.heap.size w3.heap.size w4.heap.size A1 A2 D1 D2 F1 F2 C1 C2 E1 E2 G1 G2 ls st er at_) (law_st hb1 hb2 HB3.out hb4 O1.out O2.out P1.out P2.out r1 r2) ?_
  clear r1 r2 hb4 O1 O2 P1 P2 HB3 hb1 hb2
  generalize w1.heap.size = q1
  generalize w2.heap.size = q2
  generalize w3.heap.size = q3
  generalize w4.heap.size = q4
  clear w1 w2 w3 w4
  intro wx hx
  have HX := Lib.hid hx
  have n0 : wx.cell? ⟨q2 + 1, 0, none⟩ = some (.int .i64 er) := hx.bn.cell 0
  have n1 : wx.cell? ⟨q2 + 1, 1, none⟩ = some (.int .i64 at_) := hx.bn.cell 1
  have n2 : wx.cell? ⟨q3 + 1, 0, none⟩ = some (.int .i64 er) := hx.be.cell 0
  have n3 : wx.cell? ⟨q3 + 1, 1, none⟩ = some (.int .i64 at_) := hx.be.cell 1
  have n4 : wx.cell? ⟨q4 + 1, 0, none⟩ = some (.int .i64 er) := hx.bf.cell 0
  have n5 : wx.cell? ⟨q4 + 1, 1, none⟩ = some (.int .i64 at_) := hx.bf.cell 1
  have m0 : wx.cell? ⟨q2, 0, none⟩ = some (.slice A1 ls.length C1) := hx.bw.cell 0
  have m1 : wx.cell? ⟨q2, 1, none⟩ = some (.slice A2 st.length C2) := hx.bw.cell 1
  have m2 : wx.cell? ⟨q3, 0, none⟩ = some (.slice D1 ls.length E1) := hx.ba.cell 0
  have m3 : wx.cell? ⟨q3, 1, none⟩ = some (.slice D2 st.length E2) := hx.ba.cell 1
  clear hx
  have hl1' : ls.length ≤ maxLen := by unfold maxLen; omega
  have hl2' : st.length ≤ maxLen := by unfold maxLen; omega
  have g1 := HX.out.o1
  have g2 := HX.out.o2
  have g3 := HX.out.o3
  have g4 := HX.out.o4
  have g5 := HX.out.o5
  go_wp2_with fail
  refine (equal_any D1 D2 A1 A2 ls.length E1 st.length E2 ls.length C1 st.length C2 0 0 0 0 ls ls st st wx ((own_rd HX.out.a1).more (by omega) (Nat.le_refl _)) ((own_rd HX.out.a2).more (by omega) (Nat.le_refl _)) (HX.out.w1.more (by omega) (by omega)) (HX.out.w2.more (by omega) (by omega)) hl1' hl2' hl1' hl2').mono ?_
  rintro e w5 ⟨rfl, hb5⟩
  rw [show eqS ls ls st st = true by simp [eqS]]
  have y2 : w5.cell? ⟨q3, 0, none⟩ = some (.slice D1 ls.length E1) := (hb5.cell (p := ⟨q3, 0, none⟩) (show q3 < wx.heap.size by omega)).trans m2
  have y3 : w5.cell? ⟨q3, 1, none⟩ = some (.slice D2 st.length E2) := (hb5.cell (p := ⟨q3, 1, none⟩) (show q3 < wx.heap.size by omega)).trans m3
  have HB5 := Lib.hid hb5
  have hz5 := hb5.size
  clear hb5 n0 n1 n2 n3 n4 n5 m0 m1 m2 m3
  go_wp2_with fail
  refine (spoil_any (q2 + 2) D1 D2 ls.length E1 st.length E2 _ _ w5 (own_only HX.out.a1 (Only.of_below HB5.out (fun _ => False)) (fun _ _ _ _ hf => hf)) (own_only HX.out.a2 (Only.of_below HB5.out (fun _ => False)) (fun _ _ _ _ hf => hf)) (by omega) (by omega) (by omega)).mono ?_
  rintro e w6 ⟨rfl, ho6⟩
  have hS : ∀ k, q3 ≤ k → ¬ ((Value.slice D1 ls.length E1).ownBlock = some k ∨ (Value.slice D2 st.length E2).ownBlock = some k) := by
    rintro k hk (hh | hh)
    · have := HX.out.u1 k hh; omega
    · have := HX.out.u2 k hh; omega
  have hlow : ∀ k, (Value.slice D1 ls.length E1).ownBlock = some k ∨ (Value.slice D2 st.length E2).ownBlock = some k → q2 + 2 ≤ k := by
    rintro k (hh | hh)
    · exact (HX.out.a1.lt k hh).1
    · exact (HX.out.a2.lt k hh).1
  have x4 : w6.cell? ⟨q4, 0, none⟩ = some (.slice F1 ls.length G1) := (ho6.cell (by omega) (hS _ (by omega))).trans ((HB5.out.cell (p := ⟨q4, 0, none⟩) (show q4 < wx.heap.size by omega)).trans (HX.out.bb.cell 0))
  have x5 : w6.cell? ⟨q4, 1, none⟩ = some (.slice F2 st.length G2) := (ho6.cell (by omega) (hS _ (by omega))).trans ((HB5.out.cell (p := ⟨q4, 1, none⟩) (show q4 < wx.heap.size by omega)).trans (HX.out.bb.cell 1))
  have x0 : w6.cell? ⟨q2, 0, none⟩ = some (.slice A1 ls.length C1) := (ho6.cell (by omega) (fun hh => by have := hlow _ hh; omega)).trans ((HB5.out.cell (p := ⟨q2, 0, none⟩) (show q2 < wx.heap.size by omega)).trans (HX.out.bw.cell 0))
  have x1 : w6.cell? ⟨q2, 1, none⟩ = some (.slice A2 st.length C2) := (ho6.cell (by omega) (fun hh => by have := hlow _ hh; omega)).trans ((HB5.out.cell (p := ⟨q2, 1, none⟩) (show q2 < wx.heap.size by omega)).trans (HX.out.bw.cell 1))
  have rb1 : Rd w6 0 w6.heap.size 2 F1 ls.length (prs ls) := ((HX.out.b1.below HB5.out (by omega)).only ho6 (by omega) (fun k h1 _ => hS k (by omega))).more (by omega) (by have := ho6.size; omega)
  have rb2 : Rd w6 0 w6.heap.size 1 F2 st.length (st.map (Value.int .i64)) := ((HX.out.b2.below HB5.out (by omega)).only ho6 (by omega) (fun k h1 _ => hS k (by omega))).more (by omega) (by have := ho6.size; omega)
  have rw1 : Rd w6 0 w6.heap.size 2 A1 ls.length (prs ls) := ((HX.out.w1.below HB5.out (by omega)).only ho6 (by omega) (fun k _ h2 hh => by have := hlow _ hh; omega)).more (by omega) (by have := ho6.size; omega)
  have rw2 : Rd w6 0 w6.heap.size 1 A2 st.length (st.map (Value.int .i64)) := ((HX.out.w2.below HB5.out (by omega)).only ho6 (by omega) (fun k _ h2 hh => by have := hlow _ hh; omega)).more (by omega) (by have := ho6.size; omega)
  have hend : Below w.heap.size w w6 := HX.out.below.trans ((HB5.out.mono (by omega)).trans (ho6.below (by omega) (fun k hk hh => by have := hlow _ hh; omega)))
  have RB1 := Lib.hid rb1
  have RB2 := Lib.hid rb2
  have RW1 := Lib.hid rw1
  have RW2 := Lib.hid rw2
  have HE := Lib.hid hend
  have hzz : w.heap.size ≤ w6.heap.size := hend.size
  clear rb1 rb2 rw1 rw2 hend y2 y3 ho6 hS hlow
  go_wp2_with fail
  refine (equal_any F1 F2 A1 A2 ls.length G1 st.length G2 ls.length C1 st.length C2 0 0 0 0 ls ls st st w6 RB1.out RB2.out RW1.out RW2.out hl1' hl2' hl1' hl2').mono ?_
  rintro e w7 ⟨rfl, hb7⟩
  rw [show eqS ls ls st st = true by simp [eqS]]
  have HB7 := Lib.hid hb7
  have hz7 := hb7.size
  clear hb7 x0 x1 x4 x5
  go_wp2_with fail
  refine (wakes_any w7).mono ?_
  rintro e w8 ⟨rfl, hb8⟩
  go_wp2
  go_ret
  exact ⟨rfl, HE.out.trans ((HB7.out.mono hzz).trans (hb8.mono (by omega)))⟩
end Go.Proofs.Ytbjfbmienlojkaa
