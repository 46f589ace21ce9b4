/- phone.Each: what it hands over, one behind another. -/
import Derived.Test.YtogofchpocoebaaS6
import Derived.Test.YtogofchpocoebaaQ8
namespace Go.Proofs.Ytogofchpocoebaa
open Go.RowKit Go.Maps
attribute [local go_sem] Oper.semAt_some

theorem each_call (s : ByteArray) (w : World) : Calls Try.prog 60 #[.string s] w fun e w' => e = .returned (.func (.func 128) #[] #[.pointer (some ⟨w.heap.size, 0, none⟩)]) ∧ w' = w.alloc (.cells #[.string s] 9) := by
  go_enter Try.func60, Try.ntmps60
  go_wp2
  go_ret
  exact ⟨rfl, rfl⟩

/-- what Each says of a phone that it hands over -/
def EvX (l : List UInt8) (_B k : Nat) (args : Array Value) (_W : World) : Prop := ∃ h : k < (evL l).1.length,
  args = #[.agg #[.int .i64 (((evL l).1[k].2 : Nat) : Int), .int .i64 ((((evL l).1[k].2 + (nextL (l.drop (evL l).1[k].2)).2 : Nat)) : Int)], .agg #[.int .i32 (evL l).1[k].1.1, .bool (evL l).1[k].1.2.1, .int .i32 (evL l).1[k].1.2.2]]

theorem drop_some {α : Type} {l r : List α} {x : α} {k : Nat} (h : l.drop k = x :: r) : ∃ hk : k < l.length, l[k] = x ∧ l.drop (k + 1) = r := by
  have hk : k < l.length := by
    rcases Nat.lt_or_ge k l.length with hk | hk
    · exact hk
    · rw [List.drop_eq_nil_of_le hk] at h; cases h
  rw [List.drop_eq_getElem_cons hk] at h
  injection h with h1 h2
  exact ⟨hk, h1, h2⟩
theorem drop_none {α : Type} {l : List α} {k : Nat} (h : l.drop k = []) (hk : k ≤ l.length) : k = l.length := by
  have := congrArg List.length h
  simp at this
  omega

set_option maxHeartbeats 8000000 in
set_option maxRecDepth 100000 in
theorem each_gives (s : ByteArray) (sb : Nat) (W : World) (hsb : Blk W sb 9 #[.string s]) (hz : s.size ≤ maxLen) : Gives Try.prog 128 #[.pointer (some ⟨sb, 0, none⟩)] (evL s.data.toList).1.length (EvX s.data.toList) (fun _ _ => False) (fun b => b = sb) W := by
  intro l J Jx hJ hJx hY h0
  show Calls Try.prog 128 #[.func (.yield l) #[] #[], .pointer (some ⟨sb, 0, none⟩)] W _
  have HJ := Lib.hid (And.intro hJ h0)
  have HY := Lib.hid hY
  have HB := Lib.hid hsb
  have HZ := Lib.hid hz
  have hlt := hsb.lt
  clear hJ hJx hY h0 hsb
  unfold maxLen at hz
  go_enter Try.func128, Try.ntmps128
  refine wp_scope_labels (fun _ _ _ _ => False) ?first (fun _ _ _ _ h => h.elim)
  go_wp2_with fail
  refine (table_any W).mono ?_
  rintro e w1 ⟨tb, rfl, hlo, ht, hb⟩
  have HS := Lib.hid (And.intro (HJ.out.1 _ _ _ HJ.out.2 hb) (And.intro ht (And.intro (HB.out.below hb hlt) (And.intro hb.size hlo))))
  have HD := Lib.hid (show ∀ n, s.extract n s.size = bts (s.data.toList.drop n) from fun n => bts_drop s.data.toList n)
  have HL := Lib.hid (show s.size = s.data.toList.length from rfl)
  have hdr := HD.out
  clear ht hb hlo
  generalize hev : evL s.data.toList = ev at *
  have HE := Lib.hid hev
  clear hev
  go_wp2
  rename_i K hK
  refine wp_label ?_
  simp only [Exit.then]
  apply hK
  clear hK
  go_wp2
  go_loopw [4, 5, 6] (fun v4 _ _ wr => ∃ (k pos f : Nat), k ≤ ev.1.length ∧ pos ≤ s.size ∧ v4 = .int .i64 pos ∧ Hid (J k wr ∧ TabIs wr tb ∧ Blk wr sb 9 #[.string s] ∧ W.heap.size ≤ wr.heap.size ∧ W.heap.size ≤ tb) ∧ Hid (ev.1.drop k = (evGo s.data.toList f pos).1 ∧ s.size - pos < f)) (fun v _ _ _ => s.size - (intOf v).toNat)
  case atStart => exact ⟨0, 0, s.size + 1, by omega, by omega, rfl, HS, Lib.hid ⟨by rw [List.drop_zero, ← HE.out]; rfl, by omega⟩⟩
  case round =>
    obtain ⟨k, pos, f, hk, hpos, rfl, HR, HF⟩ := hrel
    clear HS
    have cs : wr.cell? ⟨sb, 0, none⟩ = some (.string s) := HR.out.2.2.1.cell 0
    by_cases hp : pos < s.size
    · go_wp2_with fail
      refine (next_any tb (bts (s.data.toList.drop pos)) wr HR.out.2.1 (by rw [bts_size, List.length_drop]; have := HZ.out; have := HL.out; omega)).mono ?_
      rintro e wa ⟨rfl, hb⟩
      rw [show (bts (s.data.toList.drop pos)).data.toList = s.data.toList.drop pos from rfl]
      have hle := nextL_le (s.data.toList.drop pos)
      rw [List.length_drop, ← HL.out] at hle
      have HA := Lib.hid (And.intro (HJ.out.1 _ _ _ HR.out.1 (hb.mono HR.out.2.2.2.1)) (And.intro (HR.out.2.1.on hb) (And.intro (HR.out.2.2.1.below hb HR.out.2.2.1.lt) (And.intro (Nat.le_trans HR.out.2.2.2.1 hb.size) HR.out.2.2.2.2))))
      clear hb cs HR
      generalize hN : nextL (s.data.toList.drop pos) = N at *
      have HN := Lib.hid hN
      obtain ⟨⟨pr, plg, pg⟩, nw⟩ := N
      dsimp only at hle ⊢
      clear hN
      go_upto_region 4 with (fail)
      refine wp_abs (fun wx => (J k wx ∧ TabIs wx tb ∧ Blk wx sb 9 #[.string s] ∧ W.heap.size ≤ wx.heap.size ∧ W.heap.size ≤ tb) ∧ Blk wx wa.heap.size 43 #[.int .i32 pr, .bool plg, .int .i32 pg]) ⟨⟨HJ.out.1 _ _ _ HA.out.1 ((Below.refl _ _).alloc HA.out.2.2.2.1 _), HA.out.2.1.on ((Below.refl _ _).alloc (Nat.le_refl _) _), HA.out.2.2.1.alloc _, by have := HA.out.2.2.2.1; simp; omega, HA.out.2.2.2.2⟩, Blk.new _ _ _⟩ ?_
      generalize wa.heap.size = xb at *
      rintro wx ⟨hS, hX⟩
      have b0 : wx.cell? ⟨xb, 0, none⟩ = some (.int .i32 pr) := hX.cell 0
      have b1 : wx.cell? ⟨xb, 1, none⟩ = some (.bool plg) := hX.cell 1
      have b2 : wx.cell? ⟨xb, 2, none⟩ = some (.int .i32 pg) := hX.cell 2
      have HX := Lib.hid hS
      clear hS hX HA
      by_cases hnw : nw = 0
      · have hnb : ((nw : Int) == 0) = true := by rw [hnw]; rfl
        have hke : k = ev.1.length := by
          refine drop_none ?_ hk
          rw [HF.out.1, evGo_end _ _ _ (.inr (by rw [HN.out]; exact hnw))]
        subst hke
        clear hnw
        go_wp2
        dsimp only [Exit.jumps]
        go_end0
        exact ⟨⟨_, rfl⟩, .inl (by rw [HE.out]; exact HX.out.1)⟩
      · have hnb : ((nw : Int) == 0) = false := by simp; omega
        obtain ⟨f', hf1, hf2⟩ := evGo_step (f := f) HN.out (by have := HL.out; omega) (by have := HL.out; have := HF.out.2; omega) hnw
        dsimp only at hf1 hf2
        have hdk := HF.out.1
        rw [hf2] at hdk
        obtain ⟨hkl, hkx, hkr⟩ := drop_some hdk
        have hx : EvX s.data.toList W.heap.size k #[.agg #[.int .i64 (pos : Int), .int .i64 ((pos + nw : Nat) : Int)], .agg #[.int .i32 pr, .bool plg, .int .i32 pg]] wx := by
          unfold EvX
          rw [HE.out]
          refine ⟨hkl, ?_⟩
          rw [hkx]
          dsimp only
          rw [HN.out]
        obtain ⟨fn, tmps, assign, body, hy, hR⟩ := roundR (HY.out k _ wx hkl HX.out.1 HX.out.2.2.2.1 hx)
        have HRR := Lib.hid hR
        have HF2 := Lib.hid (And.intro hkr hf1)
        have hcast : ((pos + nw : Nat) : Int) = (pos : Int) + (nw : Int) := by omega
        rw [hcast] at hy
        clear hR hx hkr hkx hdk hf2 hf1 hcast HF
        refine (wpIn_wide (n := 0)).1 ?_
        have wf : ∀ k, Fence.wide.fn k := fun _ => trivial
        have wd : Fence.wide.depth = none := rfl
        gi_wp2_with (with_reducible refine HRR.out.mono ?_)
        rintro e w3 ⟨b2, rfl, hq, ho⟩
        have HQ := Lib.hid (And.intro (HX.out.2.1.only ho (fun h => by rcases h with h | h; have := HX.out.2.2.2.2; omega; exact h)) (And.intro (HX.out.2.2.1.only ho (fun h => by rcases h with h | h; exact h.2 rfl; exact h)) (And.intro (Nat.le_trans HX.out.2.2.2.1 ho.size) HX.out.2.2.2.2)))
        clear ho HX HRR b0 b1 hy
        cases b2 with
        | true =>
          have HJ3 := Lib.hid (hq.1 rfl)
          clear hq
          gi_wp2
          go_wp2
          go_roundw
          case rel => exact ⟨k + 1, pos + nw, f', by omega, by omega, by go_num, Lib.hid ⟨HJ3.out, HQ.out⟩, HF2⟩
          case measure => simp [intOf]; omega
        | false =>
          have HJ3 := Lib.hid (hq.2 rfl)
          clear hq
          gi_wp2
          go_wp2
          dsimp only [Exit.jumps]
          go_end0
          exact ⟨⟨_, rfl⟩, .inr ⟨k + 1, by omega, by rw [HE.out]; omega, HJ3.out⟩⟩
    · have hpe : pos = s.size := by omega
      have hke : k = ev.1.length := by
        refine drop_none ?_ hk
        rw [HF.out.1, evGo_end _ _ _ (.inl (by have := HL.out; omega))]
      subst hke
      have hd : decide ((pos : Int) < (s.size : Int)) = false := by simp; omega
      go_wp2
      dsimp only [Exit.jumps]
      go_end0
      exact ⟨⟨_, rfl⟩, .inl (by rw [HE.out]; exact HR.out.1)⟩
end Go.Proofs.Ytogofchpocoebaa
