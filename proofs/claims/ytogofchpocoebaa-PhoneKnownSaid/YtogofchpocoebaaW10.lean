/- canticlelaw11.works. -/
import Derived.Test.YtogofchpocoebaaW9
import Derived.Test.YtogofchpocoebaaW5
import Derived.Test.YtogofchpocoebaaW6
namespace Go.Proofs.Ytogofchpocoebaa
open Go.RowKit Go.Maps

theorem own_rdB {w : World} {base B : Nat} {e : TypeId} {size : Nat} {A : Option Addr} {c n : Nat} {xs : List Value} (h : w.ownsRow base e size (.slice A n c) n xs) (hB : w.heap.size ≤ B) : Rd w base B size A n xs := (own_rd h).more (Nat.le_refl _) hB

def wzP : List Ph := [(97, false, 0), (110, false, 0), (116, false, 0), (97, false, 0)]
def wzS : List Sy := [(0, 0, 2, 0, true), (2, 3, 4, 0, false)]
def wzR : List Sy := [(0, 0, 1, 0, false), (1, 3, 4, 0, false)]
def wzT : List Sy := [(0, 0, 2, 2, true), (2, 3, 4, 0, false)]
theorem wz_read : srL [97, 46, 110, 116, 97] = (wzP, wzR, 0, 0) := by kernel_rfl
theorem wz_split : spE wzP = 0 ∧ spL wzP = wzS := by decide +kernel
theorem wz_stress : stE wzS 4 = 0 ∧ stL wzS 4 = wzT := by decide +kernel
theorem wz_print : mayF wzP wzT = 0 ∧ spT wzP wzT = [203, 136, 97, 110, 46, 116, 97] := by decide +kernel
theorem wz_fit : ∀ p ∈ wzP, fitP p := all_fit (by decide +kernel)

set_option maxHeartbeats 4000000 in
set_option maxRecDepth 100000 in
theorem works11_any (w : World) : Calls Try.prog 80 #[] w fun e w' => e = .returned (.bool true) ∧ Below w.heap.size w w' := by
  go_enter Try.func80, Try.ntmps80
  go_wp2_with fail
  refine (sread_any ⟨#[97, 46, 110, 116, 97]⟩ w (by unfold maxLen; decide)).mono ?_
  rintro e w1 ⟨v0, v1, rfl, h0, h1, hb⟩
  have hs : srL (⟨#[97, 46, 110, 116, 97]⟩ : ByteArray).data.toList = (wzP, wzR, 0, 0) := wz_read
  rw [hs] at h0 h1 ⊢
  obtain ⟨A, c, rfl⟩ := own_slice h0
  obtain ⟨D, d, rfl⟩ := own_slice h1
  have H1 := Lib.hid (And.intro h0 hb)
  clear h0 h1 hb hs
  have e1 : wzP.length = 4 := rfl
  have e2 : wzS.length = 2 := rfl
  have e4 : wzR.length = 2 := rfl
  have e3 : wzT.length = 2 := rfl
  dsimp only
  rw [e1, e4]
  go_upto_region 4 with (fail)
  refine wp_abs (fun wx => wx.ownsRow w.heap.size 43 3 (.slice A 4 c) 4 (phs wzP) ∧ Below w.heap.size w wx) ⟨H1.out.1.alloc _, H1.out.2.trans (((Below.refl _ _).alloc (Nat.le_refl _) _).mono H1.out.2.size)⟩ ?_
  rintro w2 h2
  have H2 := Lib.hid h2
  clear h2 H1
  go_wp2_with fail
  refine (split_any A 4 c w.heap.size w2.heap.size wzP _ (own_rd H2.out.1) (Nat.le_refl _) (own_cap H2.out.1).1 wz_fit).mono ?_
  rintro e w3 ⟨v, rfl, ho, hb⟩
  rw [wz_split.2] at ho
  rw [wz_split.1]
  obtain ⟨D3, d3, rfl⟩ := own_slice ho
  have H3 := Lib.hid (And.intro (own_stay H2.out.1 (Only.of_below hb _)) (And.intro ho (H2.out.2.trans (hb.mono H2.out.2.size))))
  clear ho hb H2
  rw [e2] at H3 ⊢
  go_wp2_with fail
  refine (stress_any D3 2 d3 w2.heap.size w3.heap.size wzS 4 _ (own_rd H3.out.2.1) (Nat.le_refl _)).mono ?_
  rintro e w4 ⟨v, rfl, ho, hb⟩
  rw [wz_stress.2] at ho
  rw [wz_stress.1]
  obtain ⟨D4, d4, rfl⟩ := own_slice ho
  have H4 := Lib.hid (And.intro (own_stay H3.out.1 (Only.of_below hb _)) (And.intro ho (H3.out.2.2.trans (hb.mono H3.out.2.2.size))))
  clear ho hb H3
  rw [e3] at H4 ⊢
  go_wp2_with fail
  refine (sprint_any A D4 4 c 2 d4 w.heap.size w4.heap.size w3.heap.size w4.heap.size wzP wzT _ (own_rd H4.out.1) (own_rd H4.out.2.1) (Nat.le_refl _) (Nat.le_refl _) (own_cap H4.out.1).1 wz_fit).mono ?_
  rintro e w5 ⟨rfl, hb⟩
  rw [wz_print.1, wz_print.2]
  have H5 := Lib.hid (H4.out.2.2.trans (hb.mono H4.out.2.2.size))
  clear hb H4
  have hw : (bts [203, 136, 97, 110, 46, 116, 97] == (⟨#[203, 136, 97, 110, 46, 116, 97]⟩ : ByteArray)) = true := by decide +kernel
  have hs : (bts [203, 136, 97, 110, 46, 116, 97]).toList = [203, 136, 97, 110, 46, 116, 97] := by decide +kernel
  generalize bts [203, 136, 97, 110, 46, 116, 97] = t at *
  go_wp2
  go_ret
  exact ⟨rfl, H5.out⟩
end Go.Proofs.Ytogofchpocoebaa
