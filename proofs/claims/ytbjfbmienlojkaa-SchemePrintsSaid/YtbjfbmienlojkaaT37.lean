/- The reference's Canon and Turn: the walks. -/
import Derived.Test.YtbjfbmienlojkaaT36
namespace Go.Proofs.Ytbjfbmienlojkaa
open Go.RowKit

/-- memory while the reference's Canon or Turn runs behind the copying -/
structure RtSt (w0 : World) (a1 a2 : Value) (q2 q5 : Nat) (v1 v2 : Value) (n m : Nat) (cur : List (Int × Int)) (st : List Int) (w : World) : Prop where
  b1 : Blk w w0.heap.size 26 #[a1, a2]
  t : TurnSt w0 q2 q5 v1 v2 n m cur st w
section
variable {w0 : World} {a1 a2 : Value} {q2 q5 : Nat} {v1 v2 : Value} {n m : Nat} {cur cur' : List (Int × Int)} {st st' : List Int} {w w' : World}
theorem RtSt.turn1 (h : RtSt w0 a1 a2 q2 q5 v1 v2 n m cur st w) (ho : w'.ownsRow q2 66 2 v1 n (prs cur')) (hO : Only (fun k => v1.ownBlock = some k) w w') : RtSt w0 a1 a2 q2 q5 v1 v2 n m cur' st w' := by
  have hs := h.t.s1
  exact ⟨h.b1.only hO (fun hk => by have := (h.t.o1.lt _ hk).1; omega), h.t.turn1 ho hO⟩
theorem RtSt.turn2 (h : RtSt w0 a1 a2 q2 q5 v1 v2 n m cur st w) (ho : w'.ownsRow q2 3 1 v2 m (st'.map (Value.int .i64))) (hO : Only (fun k => v2.ownBlock = some k) w w') : RtSt w0 a1 a2 q2 q5 v1 v2 n m cur st' w' := by
  have hs := h.t.s1
  exact ⟨h.b1.only hO (fun hk => by have := (h.t.o2.lt _ hk).1; omega), h.t.turn2 ho hO⟩
theorem RtSt.on (h : RtSt w0 a1 a2 q2 q5 v1 v2 n m cur st w) (hb : Below w.heap.size w w') : RtSt w0 a1 a2 q2 q5 v1 v2 n m cur st w' :=
  ⟨h.b1.below hb h.b1.lt, h.t.b2.below hb h.t.b2.lt, h.t.b5.below hb h.t.b5.lt, own_stay h.t.o1 (Only.of_below hb _), own_stay h.t.o2 (Only.of_below hb _), h.t.u1, h.t.u2, h.t.s1, h.t.below.trans (hb.mono h.t.below.size)⟩
theorem RtSt.drew (h : RtSt w0 a1 a2 q2 q5 v1 v2 n m cur st w) : RtSt w0 a1 a2 q2 q5 v1 v2 n m cur st w.drew := h.on ⟨rfl, rfl, rfl, Nat.le_refl _, fun _ _ => rfl⟩
end
/-- out.Lines[k].Class = x -/
theorem RtSt.put {w0 : World} {a1 a2 : Value} {q2 q5 g d1 : Nat} {v2 : Value} {n m : Nat} {cur : List (Int × Int)} {st : List Int} {w : World}
    (h : RtSt w0 a1 a2 q2 q5 (.slice (some ⟨g, 0, none⟩) n d1) v2 n m cur st w) (k : Nat) (hk : k < cur.length) (x : Int) : RtSt w0 a1 a2 q2 q5 (.slice (some ⟨g, 0, none⟩) n d1) v2 n m (cur.set k (x, cur[k].2)) st (w.setCell ⟨g, k * 2, none⟩ (.int .i64 x)) := by
  refine h.turn1 ?_ (Only.setCell (S := fun j => (Value.slice (some ⟨g, 0, none⟩) n d1).ownBlock = some j) (p := ⟨g, k * 2, none⟩) (Only.refl _ w) (.inl rfl) _)
  rw [← prs_set cur k x hk]
  exact own_set h.t.o1 (k * 2) _
theorem RtSt.form {w0 : World} {a1 a2 : Value} {q2 q5 n d1 : Nat} {A : Option Addr} {v2 : Value} {m : Nat} {cur : List (Int × Int)} {st : List Int} {w : World} (h : RtSt w0 a1 a2 q2 q5 (.slice A n d1) v2 n m cur st w) (hn : 0 < n) : ∃ g, A = some ⟨g, 0, none⟩ := by
  rcases h.t.o1.2 with ⟨_, h0⟩ | ⟨g, cap, cur, hv, _⟩
  · omega
  · injection hv with hv
    exact ⟨g, hv⟩
theorem RtSt.form2 {w0 : World} {a1 a2 : Value} {q2 q5 d2 m : Nat} {A : Option Addr} {v1 : Value} {n : Nat} {cur : List (Int × Int)} {st : List Int} {w : World} (h : RtSt w0 a1 a2 q2 q5 v1 (.slice A m d2) n m cur st w) (hn : 0 < m) : ∃ g, A = some ⟨g, 0, none⟩ := by
  rcases h.t.o2.2 with ⟨_, h0⟩ | ⟨g, cap, cur, hv, _⟩
  · omega
  · injection hv with hv
    exact ⟨g, hv⟩

set_option maxHeartbeats 4000000 in
set_option maxRecDepth 100000 in
theorem refCanon_any (A1 A2 : Option Addr) (n1 c1 n2 c2 L1 L2 : Nat) (ls : List (Int × Int)) (st : List Int) (w : World)
    (h1 : Rd w L1 w.heap.size 2 A1 n1 (prs ls)) (h2 : Rd w L2 w.heap.size 1 A2 n2 (st.map (Value.int .i64))) (hn1 : n1 ≤ 100000) (hn2 : n2 ≤ 100000) :
    Calls Try.prog 30 #[.agg #[.slice A1 n1 c1, .slice A2 n2 c2]] w fun e w' => ∃ B1 d1 B2 d2, e = .returned (.agg #[.slice B1 n1 d1, .slice B2 n2 d2]) ∧
      w'.ownsRow w.heap.size 66 2 (.slice B1 n1 d1) n1 (prs (canonF ls)) ∧ w'.ownsRow w.heap.size 3 1 (.slice B2 n2 d2) n2 (st.map (Value.int .i64)) ∧ Below w.heap.size w w' := by
  have hln : ls.length = n1 := by have := h1.1; rw [prs_len] at this; omega
  have HLN := Lib.hid hln
  have H1 := Lib.hid h1
  have H2 := Lib.hid h2
  clear h1 h2 hln
  go_enter Try.func30, Try.ntmps30
  go_upto_region 1 with (fail)
  refine wp_abs (fun wx => Blk wx w.heap.size 26 #[.slice A1 n1 c1, .slice A2 n2 c2] ∧ Blk wx (w.heap.size + 1) 26 #[.slice none 0 0, .slice none 0 0] ∧ Below w.heap.size w wx) ⟨(Blk.new _ _ _).alloc _, by simpa using Blk.new (w.alloc (.cells #[.slice A1 n1 c1, .slice A2 n2 c2] 26)) 26 #[.slice none 0 0, .slice none 0 0], ((Below.refl _ _).alloc (Nat.le_refl _) _).alloc (by simp) _⟩ ?_
  rintro w1 ⟨k0, k1, hb⟩
  have c00 : w1.cell? ⟨w.heap.size, 0, none⟩ = some (.slice A1 n1 c1) := k0.cell 0
  have c01 : w1.cell? ⟨w.heap.size, 1, none⟩ = some (.slice A2 n2 c2) := k0.cell 1
  have HA := Lib.hid (And.intro k0 (And.intro k1 hb))
  clear k0 k1 hb
  go_wp2_with fail
  refine (refCopy_any A1 A2 n1 c1 n2 c2 L1 L2 ls st w1 (H1.out.up HA.out.2.2 HA.out.2.2.size) (H2.out.up HA.out.2.2 HA.out.2.2.size) hn1 hn2).mono ?_
  rintro e w2 ⟨B1, d1, B2, d2, rfl, o1, o2, hb2⟩
  have zz := HA.out.2.1.lt
  have HB := Lib.hid (show Blk w2 w.heap.size 26 #[.slice A1 n1 c1, .slice A2 n2 c2] ∧ Blk w2 (w.heap.size + 1) 26 #[.slice none 0 0, .slice none 0 0] ∧ Below w.heap.size w w2 ∧ w2.ownsRow w1.heap.size 66 2 (.slice B1 n1 d1) n1 (prs ls) ∧ w2.ownsRow w1.heap.size 3 1 (.slice B2 n2 d2) n2 (st.map (Value.int .i64)) from
    ⟨HA.out.1.below hb2 HA.out.1.lt, HA.out.2.1.below hb2 HA.out.2.1.lt, HA.out.2.2.trans (hb2.mono HA.out.2.2.size), o1, o2⟩)
  clear hb2 o1 o2 c00 c01
  go_upto_region 2 with (fail)
  refine wp_abs (RtSt w (.slice A1 n1 c1) (.slice A2 n2 c2) w1.heap.size w2.heap.size (.slice B1 n1 d1) (.slice B2 n2 d2) n1 n2 (canPre ls 0) st) ⟨HB.out.1.alloc _, HB.out.2.1.alloc _, Blk.new _ _ _, by rw [canPre_zero]; exact HB.out.2.2.2.1.alloc _, HB.out.2.2.2.2.alloc _, fun k hk => (HB.out.2.2.2.1.lt k hk).2, fun k hk => (HB.out.2.2.2.2.lt k hk).2, by omega, HB.out.2.2.1.alloc HB.out.2.2.1.size _⟩ ?_
  intro w3 hC
  have c00 : w3.cell? ⟨w.heap.size, 0, none⟩ = some (.slice A1 n1 c1) := hC.b1.cell 0
  have HC := Lib.hid hC
  clear hC HB HA
  go_wp2
  clear c00
  go_loopw [4, 12] (fun nv iv wr => ∃ (i nx : Nat), i ≤ n1 ∧ nx ≤ i ∧ iv = .int .i64 i ∧ nv = .int .i64 nx ∧ Hid (nx = (heads_ ls i).length) ∧ Hid (RtSt w (.slice A1 n1 c1) (.slice A2 n2 c2) w1.heap.size w2.heap.size (.slice B1 n1 d1) (.slice B2 n2 d2) n1 n2 (canPre ls i) st wr)) (fun _ iv _ => n1 - (intOf iv).toNat)
  case atStart => exact ⟨0, 0, by omega, by omega, rfl, rfl, Lib.hid rfl, HC⟩
  case round =>
    obtain ⟨i, nx, hi, hxi, rfl, rfl, HX, HS⟩ := hrel
    clear HC
    by_cases hlt : i < n1
    · have hrd := H1.out.up HS.out.t.below HS.out.t.below.size
      have c00 : wr.cell? ⟨w.heap.size, 0, none⟩ = some (.slice A1 n1 c1) := HS.out.b1.cell 0
      have c01 : wr.cell? ⟨w.heap.size, 1, none⟩ = some (.slice A2 n2 c2) := HS.out.b1.cell 1
      have HR := Lib.hid hrd
      clear hrd
      go_wp2_with fail
      refine (first_any A1 A2 n1 c1 n2 c2 L1 ls i wr HR.out (by unfold maxLen; omega) hlt).mono ?_
      rintro e w4 ⟨rfl, hb4⟩
      clear c00 c01
      have HT := Lib.hid (HS.out.on hb4)
      have hfl := first_le ls i i 0
      change firstF ls i ≤ i at hfl
      have HFC := Lib.hid (firstF_cls ls (i := i))
      generalize hff : firstF ls i = ff at HFC hfl ⊢
      have HF := Lib.hid hff
      clear hff hb4 HS HR
      have hrd := H1.out.up HT.out.t.below HT.out.t.below.size
      obtain ⟨b, o, hl, rfl, hL, hB, p1, p2⟩ := hrd.two hlt
      have hce : clsAt ls i = ls[i].1 := clsAt_get hl
      generalize hx : ls[i] = x at p1 p2 hce
      obtain ⟨c, r⟩ := x
      simp only at hce p1 p2
      have c00 : w4.cell? ⟨w.heap.size, 0, none⟩ = some (.slice (some ⟨b, o, none⟩) n1 c1) := HT.out.b1.cell 0
      have HE := Lib.hid (And.intro hce hx)
      have i1 : (0 : Int) ≤ (i : Int) := by omega
      have i2 : (i : Int) < (n1 : Int) := by omega
      clear hrd hce hx hL hB p2
      by_cases hneg : c < 0
      · go_wp2
        go_roundw
        case rel => exact ⟨i + 1, nx, by omega, by omega, by go_num, rfl, Lib.hid (by
            have : headB ls i = false := by unfold headB; rw [HE.out.1]; simp [hneg]
            rw [heads_succ, this]; exact HX.out), Lib.hid (by rw [canPre_skip ls hl (by rw [HE.out.1]; exact hneg)]; exact HT.out)⟩
        case measure => simp [intOf]; omega
      · obtain ⟨g, rfl⟩ := HT.out.form (by omega)
        have d00 : w4.cell? ⟨w2.heap.size, 0, none⟩ = some (.slice (some ⟨g, 0, none⟩) n1 d1) := HT.out.t.b5.cell 0
        obtain ⟨hk1, q1, q2, f1, f2⟩ := own_two HT.out.t.o1 (k := i) hlt
        by_cases hfi : ff < i
        · have hfb : decide ((ff : Int) < (i : Int)) = true := by simpa using hfi
          obtain ⟨hk2, q3, q4, f3, f4⟩ := own_two HT.out.t.o1 (k := ff) (by omega)
          have hv : (canPre ls i)[ff].1 = clsAt (canonF ls) i := by
            have h1 := canPre_back ls hfi hl
            rw [List.getElem?_eq_getElem hk2, List.getElem?_eq_getElem (by rw [canonF_len]; omega)] at h1
            injection h1 with h1
            rw [h1, ← clsAt_get (by rw [canonF_len]; omega)]
            have := HFC.out hfi
            exact canon_same ls (by omega) hl (by omega) this.2
          rw [hv] at q3
          have hput := HT.out.put i hk1 (clsAt (canonF ls) i)
          have hsu := canPre_succ ls hl
          have hh := canPre_here ls hl
          rw [List.getElem?_eq_getElem hk1] at hh
          injection hh with hh
          rw [hh] at hput
          rw [← hsu] at hput
          have hhd : headB ls i = false := by unfold headB; rw [HF.out]; simp [hfi]
          have HP := Lib.hid (And.intro hput hhd)
          have i3 : (0 : Int) ≤ (ff : Int) := by omega
          have i4 : (ff : Int) < (n1 : Int) := by omega
          clear hput hsu hh hv hhd q2 q4 f2 f4 f3
          generalize clsAt (canonF ls) i = cc at *
          go_wp2
          go_region
          go_wp2
          go_roundw
          case rel => exact ⟨i + 1, nx, by omega, by omega, by go_num, rfl, Lib.hid (by rw [heads_succ, HP.out.2]; exact HX.out), Lib.hid HP.out.1.drew⟩
          case measure => simp [intOf]; omega
        · have hfb : decide ((ff : Int) < (i : Int)) = false := by simp; omega
          have hhd : headB ls i = true := by unfold headB; rw [HF.out, HE.out.1]; simp [hfi, hneg]
          have hnew := canon_new ls hl hhd
          rw [← HX.out] at hnew
          have hput := HT.out.put i hk1 (clsAt (canonF ls) i)
          have hsu := canPre_succ ls hl
          have hh := canPre_here ls hl
          rw [List.getElem?_eq_getElem hk1] at hh
          injection hh with hh
          rw [hh] at hput
          rw [← hsu, hnew] at hput
          have HP := Lib.hid (And.intro hput hhd)
          clear hput hsu hh hhd hnew q2 f2
          go_wp2
          go_roundw
          case rel => exact ⟨i + 1, nx + 1, by omega, by omega, by go_num, by go_num, Lib.hid (by rw [heads_succ, HP.out.2, HX.out]; simp), Lib.hid HP.out.1⟩
          case measure => simp [intOf]; omega
    · have hin : i = n1 := by omega
      have hcur : canPre ls i = canonF ls := by rw [hin, ← HLN.out, canPre_end]
      have HQ := Lib.hid (hcur ▸ HS.out)
      clear HS hcur
      have d00 : wr.cell? ⟨w2.heap.size, 0, none⟩ = some (.slice B1 n1 d1) := HQ.out.t.b5.cell 0
      have d01 : wr.cell? ⟨w2.heap.size, 1, none⟩ = some (.slice B2 n2 d2) := HQ.out.t.b5.cell 1
      have e0 : wr.cell? ⟨w.heap.size + 1, 0, none⟩ = some (.slice none 0 0) := HQ.out.t.b2.cell 0
      have e1 : wr.cell? ⟨w.heap.size + 1, 1, none⟩ = some (.slice none 0 0) := HQ.out.t.b2.cell 1
      have f0 : wr.frozen? ⟨w.heap.size + 1, 0, none⟩ = false := HQ.out.t.b2.frozen 0
      have f1 : wr.frozen? ⟨w.heap.size + 1, 1, none⟩ = false := HQ.out.t.b2.frozen 1
      have hs1 := HQ.out.t.s1
      go_wp2
      have HF := (HQ.out.t.b2.set_ 0 (.slice B1 n1 d1)).set_ 1 (.slice B2 n2 d2)
      have g0 := HF.cell 0
      have g1 := HF.cell 1
      simp at g0 g1
      refine bodyPost_ret (v := .agg #[.slice B1 n1 d1, .slice B2 n2 d2]) (by simp [results, Try.results30, go_sem, g0, g1]) rfl ?_
      exact ⟨B1, d1, B2, d2, rfl, own_more (own_setCell (own_setCell HQ.out.t.o1 (by simp; omega) _) (by simp; omega) _) (by omega), own_more (own_setCell (own_setCell HQ.out.t.o2 (by simp; omega) _) (by simp; omega) _) (by omega), (HQ.out.t.below.setCell (by simp) _).setCell (by simp) _⟩
end Go.Proofs.Ytbjfbmienlojkaa
