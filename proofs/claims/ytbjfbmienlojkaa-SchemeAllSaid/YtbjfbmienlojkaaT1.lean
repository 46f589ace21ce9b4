import Derived.Test.YtbjfbmienlojkaaChecked
import Derived.Test.YtbjfbmienlojkaaMem
namespace Go.Proofs.Ytbjfbmienlojkaa
open Go.RowKit

def lineOk (p : Int × Int) : Bool := decide (-1 ≤ p.1) && decide (p.1 < 25) && decide (0 ≤ p.2) && decide (p.2 ≤ 9) && !(p.1 == -1 && p.2 != 0)
def stanzasLeft : Int → List Int → Option Int
  | left, [] => some left
  | left, n :: t => if n < 1 ∨ left < n then none else stanzasLeft (left - n) t
def may (ls : List (Int × Int)) (st : List Int) : Bool :=
  decide (ls.length ≤ 512) && stanzasLeft ls.length st == some 0 && ls.all lineOk
def errOf (b : Bool) : Int := if b then 0 else 2

theorem lineOk_iff (p : Int × Int) : lineOk p = true ↔ -1 ≤ p.1 ∧ p.1 < 25 ∧ 0 ≤ p.2 ∧ p.2 ≤ 9 ∧ (p.1 = -1 → p.2 = 0) := by
  simp [lineOk]
  omega

set_option maxHeartbeats 400000 in
theorem check_any (A1 A2 : Option Addr) (n1 c1 n2 c2 L1 L2 : Nat) (ls : List (Int × Int)) (st : List Int) (w : World)
    (h1 : Rd w L1 w.heap.size 2 A1 n1 (prs ls)) (h2 : Rd w L2 w.heap.size 1 A2 n2 (st.map (Value.int .i64))) (hn2 : n2 ≤ maxLen) (hn1 : n1 ≤ maxLen) :
    Calls Try.prog 50 #[.agg #[.slice A1 n1 c1, .slice A2 n2 c2]] w fun e w' => e = .returned (.int .i64 (errOf (may ls st))) ∧ Below w.heap.size w w' := by
  unfold maxLen at hn1 hn2
  have l1 : ls.length = n1 := by have := h1.1; rw [prs_len] at this; omega
  have l2 : st.length = n2 := by have := h2.1; simpa using this
  have H1 := Lib.hid l1
  have H2 := Lib.hid l2
  clear l1 l2
  by_cases hbig : n1 ≤ 512
  · go_enter Try.func50, Try.ntmps50
    go_wp2
    go_loop [3, 5, 16] (fun a c i => ∃ (k : Nat) (left : Int), k ≤ n2 ∧ i = .int .i64 k ∧ a = .int .i64 left ∧ 0 ≤ left ∧ left ≤ 512 ∧ Hid (stanzasLeft ls.length st = stanzasLeft left (st.drop k))) (fun _ _ i => n2 - (intOf i).toNat)
    case atStart => exact ⟨0, n1, by omega, rfl, rfl, by omega, by omega, by rw [H1.out]; rfl⟩
    case round =>
      obtain ⟨k, left, hk, rfl, rfl, hl0, hl1, HR⟩ := hrel
      by_cases hlt : k < n2
      · obtain ⟨b, o, hkl, rfl, hL, hB, hc⟩ := h2.one hlt
        generalize hx : st[k] = x at hc
        have HX := Lib.hid hx
        clear hx
        have hst : stanzasLeft left (st.drop k) = if x < 1 ∨ left < x then none else stanzasLeft (left - x) (st.drop (k + 1)) := by
          rw [drop_at st k hkl, HX.out]; rfl
        have HS := Lib.hid hst
        clear hst
        go_wp2
        · go_ret
          refine ⟨?_, ?_⟩
          · have hcond : x < 1 ∨ left < x := by omega
            have := HR.out.trans HS.out
            rw [if_pos hcond] at this
            simp [errOf, may, this]
          · exact (Below.refl _ _).alloc (Nat.le_refl _) _
        · go_round
          case rel => exact ⟨k + 1, left - x, by omega, by go_num, rfl, by omega, by omega, by rw [HR.out, HS.out, if_neg (by omega)]; rfl⟩
          case measure => simp [intOf]; omega
        · go_ret
          refine ⟨?_, ?_⟩
          · have hcond : x < 1 ∨ left < x := by omega
            have := HR.out.trans HS.out
            rw [if_pos hcond] at this
            simp [errOf, may, this]
          · exact (Below.refl _ _).alloc (Nat.le_refl _) _
      · have hk2 : st.drop k = [] := List.drop_of_length_le (by rw [H2.out]; omega)
        have HK := Lib.hid hk2
        clear hk2
        go_wp2
        go_loopw [34] (fun i wr => ∃ j : Nat, j ≤ n1 ∧ i = .int .i64 j ∧ Below (w.heap.size + 1) (w.alloc (Obj.cells #[Value.slice A1 n1 c1, Value.slice A2 n2 c2] 26)) wr ∧ Hid (ls.all lineOk = (ls.drop j).all lineOk)) (fun i _ => n1 - (intOf i).toNat)
        case atStart => exact ⟨0, by omega, rfl, Below.refl _ _, rfl⟩
        case round =>
          obtain ⟨j, hj, rfl, hb, HA⟩ := hrel
          have hfin : Below w.heap.size w wr := ((Below.refl _ _).alloc (Nat.le_refl _) _).trans (hb.mono (by omega))
          by_cases hjlt : j < n1
          · obtain ⟨b, o, hjl, rfl, hL, hB, hc1, hc2⟩ := h1.two hjlt
            generalize hx : ls[j] = x at hc1 hc2
            obtain ⟨c, r⟩ := x
            have HX := Lib.hid hx
            clear hx
            simp only at hc1 hc2
            have hd1 : wr.cell? ⟨b, o + j * 2, none⟩ = some (.int .i64 c) := (hfin.cell (p := ⟨b, o + j * 2, none⟩) hB).trans hc1
            have hd2 : wr.cell? ⟨b, o + j * 2 + 1, none⟩ = some (.int .i64 r) := (hfin.cell (p := ⟨b, o + j * 2 + 1, none⟩) hB).trans hc2
            have hall : (ls.drop j).all lineOk = (lineOk (c, r) && (ls.drop (j + 1)).all lineOk) := by
              rw [drop_at ls j hjl, HX.out]; rfl
            have HL := Lib.hid hall
            clear hall
            go_wp2
            all_goals first
              | (go_ret
                 refine ⟨?_, hfin.alloc hfin.size _⟩
                 have hbad : lineOk (c, r) = false := Bool.eq_false_iff.2 fun hg => by
                   have := (lineOk_iff (c, r)).1 hg
                   go_light; simp only [bne_iff_ne, ne_eq] at *; omega
                 simp [errOf, may, HA.out, HL.out, hbad])
              | (have hgood : lineOk (c, r) = true := (lineOk_iff (c, r)).2 (by go_light; simp only [bne_eq_false_iff_eq] at *; omega)
                 go_roundw
                 case rel => exact ⟨j + 1, by omega, by go_num, hb.alloc (by have := hb.size; simpa using this) _, HA.out.trans (by rw [HL.out, hgood, Bool.true_and])⟩
                 case measure => simp [intOf]; omega)
          · have hj2 : ls.drop j = [] := List.drop_of_length_le (by rw [H1.out]; omega)
            have HJ := Lib.hid hj2
            clear hj2
            go_wp2
            all_goals
              go_ret
              have e : stanzasLeft ls.length st = some left := HR.out.trans (by rw [HK.out]; rfl)
              have ea : ls.all lineOk = true := HA.out.trans (by rw [HJ.out]; rfl)
            · exact ⟨ret_int (by unfold may; rw [e, show (some left == some (0 : Int)) = false from by simp; omega, Bool.and_false]; rfl), hfin⟩
            · exact ⟨ret_int (by unfold may; rw [e, ea, show (some left == some (0 : Int)) = true from by simp; omega, decide_eq_true (by rw [H1.out]; exact hbig)]; rfl), hfin⟩
  · go_enter Try.func50, Try.ntmps50
    go_wp2
    go_ret
    refine ⟨?_, ?_⟩
    · simp [errOf, may, H1.out, hbig]
    · exact (Below.refl _ _).alloc (Nat.le_refl _) _
end Go.Proofs.Ytbjfbmienlojkaa
