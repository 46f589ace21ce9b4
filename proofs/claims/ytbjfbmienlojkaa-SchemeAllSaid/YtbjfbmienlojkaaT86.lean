/- scheme.All: its contract. -/
import Derived.Test.YtbjfbmienlojkaaT85
import Derived.Test.YtbjfbmienlojkaaSteps
import Derived.Laws.EntriesVeiled
namespace Go.Proofs.Ytbjfbmienlojkaa
open Go.RowKit

set_option maxHeartbeats 4000000 in
set_option maxRecDepth 100000 in
theorem all_gives (n nb : Nat) (W : World) (hn : n ≤ 25) (hb : Blk W nb 3 #[.int .i64 n]) :
    Gives Try.prog 55 #[.pointer (some ⟨nb, 0, none⟩)] (tN n 0) (AllX n) AllT (fun b => b = nb) W := by
  intro l J Jx hJ hJx hY h0
  show Calls Try.prog 55 #[.func (.yield l) #[] #[], .pointer (some ⟨nb, 0, none⟩)] W _
  obtain ⟨i0, hi, hz0, hz1, hz2⟩ := info_parts info66
  obtain ⟨Z, hZ, hm⟩ := made_eq (P := Try.prog) 23 66 i0 _ 2 Try.underlying23 hi hz0 hz1 n (by rw [hz2]; omega) (by unfold maxLen; omega)
  refine Calls.mono (R := fun e W' => (∃ v, e = .returned v) ∧ ∃ b, TellQ W.heap.size nb n l J Jx [] (0 + tN (n - 0) 0) b W') ?_ (fun e W' ⟨he, b, hq⟩ => ⟨he, by
    cases b with
    | true => exact .inl (by have := hq.2; rw [if_pos rfl, Nat.zero_add, Nat.sub_zero] at this; exact this)
    | false => exact .inr (by have := hq.2; rwa [if_neg (by decide)] at this)⟩)
  have HT := Lib.hid (fun wx (hS : TlSt W.heap.size nb n l (.slice (some ⟨W.heap.size + 1, 0, none⟩) 0 n) [] wx) (hj : J 0 wx) => tell_any hn hJ hJx hY n 0 0 [] 0 _ wx rfl (Pre.start n) hS hj)
  have HJ := Lib.hid (And.intro hJ h0)
  have HB := Lib.hid hb
  have HZ := Lib.hid hZ
  have cn : W.cell? ⟨nb, 0, none⟩ = some (.int .i64 n) := hb.cell 0
  have hlt := hb.lt
  clear hJ hJx hY h0 hi hz0 hz1 hz2 hb hZ
  go_enter Try.func55, Try.ntmps55
  go_upto_region 5 with (fail)
  refine wp_abs (fun wx => TlSt W.heap.size nb n l (.slice (some ⟨W.heap.size + 1, 0, none⟩) 0 n) [] wx ∧ J 0 wx) ⟨⟨((((Blk.new W 42 #[.func (.yield l) #[] #[]]).alloc _).alloc _).alloc _), ?b2, ?b3, ?own, ?bn, hlt⟩, ?jj⟩ ?_
  case b2 => exact (blk_new_eq (by simp)).alloc _
  case b3 => exact blk_new_eq (by simp)
  case own => exact ((own_made HZ.out (by unfold maxLen; omega) (Nat.le_refl _) (blk_new_eq (by simp))).alloc _).alloc _
  case bn => exact (((HB.out.alloc _).alloc _).alloc _).alloc _
  case jj => exact HJ.out.1 _ _ _ HJ.out.2 (((((Below.refl _ _).alloc (Nat.le_refl _) _).alloc (by simp) _).alloc (by simp; omega) _).alloc (by simp; omega) _)
  rintro wx ⟨hS, hj⟩
  have c3 : wx.cell? ⟨W.heap.size + 1 + 1 + 1, 0, none⟩ = some (.func (.func 56) #[] #[.pointer (some ⟨W.heap.size + 2, 0, none⟩), .pointer (some ⟨nb, 0, none⟩), .pointer (some ⟨W.heap.size, 0, none⟩), .pointer (some ⟨W.heap.size + 3, 0, none⟩)]) := hS.b3.cell 0
  have HS := Lib.hid (And.intro hS hj)
  clear hS hj
  go_wp2_with fail
  refine (HT.out wx HS.out.1 HS.out.2).mono ?_
  rintro e w6 ⟨b, rfl, hq⟩
  have HQ := Lib.hid hq
  clear hq HS HT
  go_wp2
  go_end0
  exact ⟨⟨_, rfl⟩, b, HQ.out⟩
end Go.Proofs.Ytbjfbmienlojkaa
