/- The law PhonePrints, walked. -/
import Derived.Test.YtogofchpocoebaaS2
import Derived.Test.YtogofchpocoebaaS1
import Derived.Test.YtogofchpocoebaaR1
import Derived.Deep.DeepMust
namespace Go.Proofs.Ytogofchpocoebaa
open Go.RowKit Go.Maps

theorem rd_front {w : World} {L B sz n m : Nat} {A : Option Addr} {xs ys : List Value} (h : Rd w L B sz A m (xs ++ ys)) (hx : xs.length = n * sz) (hm : n ≤ m) : Rd w L B sz A n xs :=
  ⟨hx, fun hn => by
    obtain ⟨b, o, e, hl, hb, hc⟩ := h.2 (by omega)
    exact ⟨b, o, e, hl, hb, fun j u hu => hc j u (by rw [List.getElem?_append_left (List.getElem?_eq_some_iff.1 hu).1]; exact hu)⟩⟩

/-- memory while a law on a list from outside and its copy runs -/
structure PpSt (w0 : World) (A X : Option Addr) (n : Nat) (l : List Ph) (W : World) : Prop where
  below : Below w0.heap.size w0 W
  r0 : Rd W 0 W.heap.size 3 A n (phs l)
  r1 : Rd W 0 W.heap.size 3 X n (phs l)
theorem PpSt.on {w0 : World} {A X : Option Addr} {n : Nat} {l : List Ph} {W W' : World} (h : PpSt w0 A X n l W) (hb : Below W.heap.size W W') : PpSt w0 A X n l W' :=
  ⟨h.below.trans (hb.mono h.below.size), h.r0.up hb hb.size, h.r1.up hb hb.size⟩

set_option maxHeartbeats 4000000 in
set_option maxRecDepth 100000 in
theorem phonePrints_any (A : Option Addr) (n c : Nat) (l : List Ph) (w : World) (h : Rd w 0 w.heap.size 3 A n (phs l)) (hf : ∀ p ∈ l, fitP p) (hn : n * 12 ≤ 140737488351232) :
    Calls Try.prog 5 #[.slice A n c] w fun e w' => e = .returned (.bool true) ∧ Below w.heap.size w w' := by
  obtain ⟨i0, hi, hz0, hz1, hz2⟩ := info_parts info43'
  have HI := Lib.hid (And.intro hi (And.intro hz0 (And.intro hz1 hz2)))
  clear hi hz0 hz1 hz2
  have HF := Lib.hid hf
  have H := Lib.hid h
  have HL := Lib.hid h.len_ph
  have HN := Lib.hid (show n ≤ maxLen by unfold maxLen; omega)
  clear hf h
  go_enter Try.func5, Try.ntmps5
  go_wp2_with fail
  refine (works_any _).mono ?_
  rintro e w1 ⟨rfl, hb⟩
  have H1 := Lib.hid (And.intro hb (H.out.up hb hb.size))
  clear hb
  go_wp2_with fail
  refine (cloneH_any A n c 0 _ l _ H1.out.2 hn).mono ?_
  rintro e w2 ⟨A', C', rfl, ho, hb⟩
  have H2 := Lib.hid (And.intro (H1.out.1.trans (hb.mono H1.out.1.size)) (And.intro hb (And.intro ho hb.size)))
  clear hb ho
  go_wp2_with (at_builtin; go_must (refine wpList_append_rd _ rfl _ _ 22 rfl w1.heap.size 43 i0 (.agg #[.int .i32 0, .bool false, .int .i32 0]) 3 12 Try.underlying22 HI.out.1 HI.out.2.1 HI.out.2.2.1 HI.out.2.2.2 rfl (by decide) _ _ _ rfl (H2.out.2.2.1.alloc _) _ _ _ 1 1 _ rfl (rd_new _ _ _ _ rfl) (by simp [Value.oneCell']) (by unfold maxLen; omega) (by omega) (by have := H2.out.2.2.2; simp; omega) ?_; intro v4 w4 _ hown hgrow _; obtain ⟨g4, c4, rfl, _, _⟩ := hown.form (by omega); have hcap := (own_cap hown).1; have hb4 : Below w1.heap.size w2 w4 := ((Below.refl _ w2).alloc H2.out.2.2.2 _).grown hgrow (by have := H2.out.2.2.2; simp; omega) (fun k hk => (H2.out.2.2.1.lt k hk).1); have hb1 := H2.out.2.1.trans hb4; have hS : PpSt w A (some ⟨g4, 0, none⟩) n l w4 := ⟨H1.out.1.trans (hb1.mono H1.out.1.size), H1.out.2.up hb1 hb1.size, (rd_front (own_rd hown) (phs_len l ▸ HL.out ▸ rfl) (by omega)).more (Nat.zero_le _) (Nat.le_refl _)⟩; have HS := Lib.hid hS; clear hown hgrow hS hb4 hb1))
  refine (print_any _ n c4 0 l _ HS.out.r1 HF.out HN.out).mono ?_
  rintro e w5 ⟨rfl, hb⟩
  have H5 := Lib.hid (HS.out.on hb)
  clear hb HS H2 H1
  go_wp2_with fail
  refine (refPrint_any A n c 0 _ l _ H5.out.r0 (Nat.le_refl _) HN.out).mono ?_
  rintro e w6 ⟨rfl, hb⟩
  have H6 := Lib.hid (H5.out.on hb)
  clear hb H5
  go_wp2_with fail
  refine (equalH_any _ A n c4 n c 0 0 _ _ l l _ H6.out.r1 H6.out.r0 HN.out HN.out (Nat.le_refl _) (Nat.le_refl _)).mono ?_
  rintro e w7 ⟨rfl, hb⟩
  have H7 := Lib.hid (H6.out.on hb)
  clear hb H6
  rw [decide_eq_true (rfl : l = l)]
  go_wp2_with fail
  refine (works_any _).mono ?_
  rintro e w8 ⟨rfl, hb⟩
  have H8 := Lib.hid (H7.out.on hb)
  clear hb H7
  go_wp2
  go_ret
  exact ⟨rfl, H8.out.below⟩
end Go.Proofs.Ytogofchpocoebaa
