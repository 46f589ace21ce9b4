/- The reference's Faults: the walk. -/
import Derived.Test.YtbjfbmienlojkaaT47
import Derived.Test.YtbjfbmienlojkaaT46
namespace Go.Proofs.Ytbjfbmienlojkaa
open Go.RowKit Go.Maps

theorem posB_first {l : List ByteArray} {s : ByteArray} {k : Nat} (h : l[k]? = some s) (hn : ∀ q, q < k → l[q]? ≠ some s) : posB l s = some k := by
  cases hp : posB l s with
  | none => exact absurd h (posB_none.1 hp k)
  | some p =>
    obtain ⟨h1, h2⟩ := posB_some hp
    have a1 : ¬ p < k := fun hlt => hn p hlt h1
    have a2 : ¬ k < p := fun hlt => h2 k hlt h
    rw [show p = k by omega]

/-- memory while the reference's Faults runs -/
structure RlSt (w0 : World) (a1 a2 : Value) (v : Value) (out : List (Int × Int × Int)) (w : World) : Prop where
  b0 : Blk w w0.heap.size 26 #[a1, a2]
  own : w.ownsRow (w0.heap.size + 1) 63 3 v out.length (tps out)
  below : Below w0.heap.size w0 w
section
variable {w0 : World} {a1 a2 v v' : Value} {out out' : List (Int × Int × Int)} {w w' : World}
theorem RlSt.on (h : RlSt w0 a1 a2 v out w) (hb : Below w.heap.size w w') : RlSt w0 a1 a2 v out w' :=
  ⟨h.b0.below hb h.b0.lt, own_stay h.own (Only.of_below hb _), h.below.trans (hb.mono h.below.size)⟩
theorem RlSt.app {n : Nat} {xs : List Value} (h : RlSt w0 a1 a2 v out w) (hown : w'.ownsRow (w0.heap.size + 1) 63 3 v' n xs) (hg : w.grownBy w' v.ownBlock) (hc : xs = tps out') : RlSt w0 a1 a2 v' out' w' := by
  subst hc
  have hn : n = out'.length := by have := hown.1; rw [tps_len] at this; omega
  subst hn
  have ho : Only (fun k => v.ownBlock = some k) w w' := (Only.refl _ _).grown hg (fun _ hg => .inl hg)
  exact ⟨h.b0.only ho (fun hk => by have := (h.own.lt _ hk).1; omega), hown, h.below.trans (ho.below h.below.size (fun k hk hh => by have := (h.own.lt _ hh).1; omega))⟩
end
theorem ne_lists {x s : ByteArray} (h : x ≠ s) : x.toList ≠ s.toList := fun e => h (ByteArray.ext (Array.toList_inj.1 (by rw [← ByteArray.toList_eq, ← ByteArray.toList_eq, e])))

set_option maxHeartbeats 4000000 in
set_option maxRecDepth 100000 in
theorem refFaults_any (A1 A2 A : Option Addr) (c1 n2 c2 n c L1 L3 : Nat) (ls : List (Int × Int)) (ks : List ByteArray) (w : World)
    (h1 : Rd w L1 w.heap.size 2 A1 n (prs ls)) (h3 : Rd w L3 w.heap.size 1 A n (strs ks)) (hn : n ≤ 512) :
    Calls Try.prog 37 #[.agg #[.slice A1 n c1, .slice A2 n2 c2], .slice A n c] w fun e w' => ∃ X C, e = .returned (.slice X (faultsPre ls ks n).length C) ∧
      w'.ownsRow w.heap.size 63 3 (.slice X (faultsPre ls ks n).length C) (faultsPre ls ks n).length (tps (faultsPre ls ks n)) ∧ Below w.heap.size w w' := by
  have hkn := h3.slen
  have HKN := Lib.hid hkn
  have H1 := Lib.hid h1
  have H3 := Lib.hid h3
  have hinfo : (Try.prog.info? 63).map (fun i => (i.zero, i.size, i.bytes)) = some (some (.agg #[.int .i64 0, .int .i64 0, .int .i64 0]), 3, 24) := by kernel_rfl
  obtain ⟨i0, hi, hz0, hz1, hz2⟩ := info_parts hinfo
  have HI := Lib.hid (And.intro hi (And.intro hz0 (And.intro hz1 hz2)))
  clear h1 h3 hkn hi hz0 hz1 hz2 hinfo
  go_enter Try.func37, Try.ntmps37
  go_upto_region 2 with (fail)
  refine wp_abs (RlSt w (.slice A1 n c1) (.slice A2 n2 c2) (.slice none 0 0) (faultsPre ls ks 0)) ⟨Blk.new _ _ _, World.ownsRow_nil _ _ _ _, (Below.refl _ _).alloc (Nat.le_refl _) _⟩ ?_
  intro w1 hS
  have HS := Lib.hid hS
  clear hS
  go_wp2
  go_loopw [5, 11] (fun lv iv wr => ∃ i : Nat, i ≤ n ∧ iv = .int .i64 i ∧ Hid (RlSt w (.slice A1 n c1) (.slice A2 n2 c2) lv (faultsPre ls ks i) wr)) (fun _ iv _ => n - (intOf iv).toNat)
  case atStart => exact ⟨0, by omega, rfl, HS⟩
  case round =>
    obtain ⟨i, hi, rfl, HS⟩ := hrel
    by_cases hlt : i < n
    · have c00 : wr.cell? ⟨w.heap.size, 0, none⟩ = some (.slice A1 n c1) := HS.out.b0.cell 0
      have c01 : wr.cell? ⟨w.heap.size, 1, none⟩ = some (.slice A2 n2 c2) := HS.out.b0.cell 1
      obtain ⟨XV, XC, rfl⟩ := own_slice HS.out.own
      go_wp2_with fail
      refine (first_any A1 A2 n c1 n2 c2 L1 ls i wr (H1.out.up HS.out.below HS.out.below.size) (by unfold maxLen; omega) hlt).mono ?_
      rintro e w2 ⟨rfl, hb2⟩
      have HT := Lib.hid (HS.out.on hb2)
      clear c00 c01 hb2 HS
      obtain ⟨b, o, hil, rfl, hL, hB, hc⟩ := (H3.out.below HT.out.below (Nat.le_refl _)).str hlt
      have hki : ks[i]? = some ks[i] := List.getElem?_eq_getElem hil
      generalize ks[i] = s at hc hki
      have hfs := faultsPre_succ ls ks i
      have hfa := faultAt_eq ls ks i s hki
      have hff := firstF_le ls i
      generalize hfg : firstF ls i = ff at hff hfa ⊢
      have hfp := faultsPre_len ls ks i
      have HKI := Lib.hid hki
      have HFS := Lib.hid hfs
      have HFA := Lib.hid hfa
      have bwl := HT.out.below.size
      have bwq := HT.out.b0.lt
      have i1 : (0 : Int) ≤ (i : Int) := by omega
      have i2 : (i : Int) < (n : Int) := by omega
      clear hki hfs hfa hfg hL hB
      by_cases hcond : ff < i
      · have hcb : decide ((ff : Int) < (i : Int)) = true := by simpa using hcond
        obtain ⟨b', o', hfl, hA', hL', hB', hcf⟩ := (H3.out.below HT.out.below (Nat.le_refl _)).str (k := ff) (by omega)
        injection hA' with hA'
        injection hA' with hA1' hA2'
        subst hA1' hA2'
        have hkf : ks[ff]? = some ks[ff] := List.getElem?_eq_getElem hfl
        generalize ks[ff] = x at hcf hkf
        have HKF := Lib.hid hkf
        have i3 : (0 : Int) ≤ (ff : Int) := by omega
        have i4 : (ff : Int) < (n : Int) := by omega
        clear hL' hB' hkf
        by_cases hxs : x = s
        · subst hxs
          have hfe : faultAt ls ks i = [] := by rw [HFA.out]; unfold faultAs; rw [if_pos hcond, HKF.out, if_pos (by simp)]
          have HFE := Lib.hid hfe
          clear hfe
          go_wp2
          go_quiet (fail)
          go_wp2
          go_roundw
          case rel => exact ⟨i + 1, by omega, by go_num, Lib.hid (by rw [HFS.out, HFE.out, List.append_nil]; exact HT.out.on (bdrawn (Below.refl _ _) _))⟩
          case measure => simp [intOf]; omega
        · have hb3 := ne_lists hxs
          have hb4 : (x.toList == s.toList) = false := by simpa using hb3
          have hb5 : (x.toList != s.toList) = true := by simpa using hb3
          have hfe : faultAt ls ks i = [((i : Int), (ff : Int), 161)] := by rw [HFA.out]; unfold faultAs; rw [if_pos hcond, HKF.out, if_neg (by simpa using hxs)]
          have HFE := Lib.hid hfe
          clear hfe
          go_wp2
          go_quiet (fail)
          go_wp2_with (at_builtin; go_must (refine wpList_append_rd _ rfl _ _ 58 rfl (w.heap.size + 1) 63 i0 (.agg #[.int .i64 0, .int .i64 0, .int .i64 0]) 3 24 Try.underlying58 HI.out.1 HI.out.2.1 HI.out.2.2.1 HI.out.2.2.2 rfl (by decide) _ _ _ rfl ((HT.out.on (bdrawn (Below.refl _ _) _)).own.alloc _) _ _ _ 1 1 _ rfl (rd_newT _ _ _ _ _) (by simp [Value.oneCell']) (by unfold maxLen; omega) (by omega) (by simp; omega) ?_; intro v4 w4 _ hown hgrow _; have HN := Lib.hid (((HT.out.on (bdrawn (Below.refl _ _) _)).on ((Below.refl _ _).alloc (Nat.le_refl _) _)).app (out' := faultsPre ls ks i ++ [((i : Int), (ff : Int), 161)]) hown hgrow (by rw [tps_append]; rfl)); clear hown hgrow))
          go_roundw
          case rel => exact ⟨i + 1, by omega, by go_num, Lib.hid (by rw [HFS.out, HFE.out]; exact HN.out)⟩
          case measure => simp [intOf]; omega
      · have hcb : decide ((ff : Int) < (i : Int)) = false := by simp; omega
        go_wp2
        go_loopw [5, 8] (fun lv kv wq => ∃ k : Nat, k ≤ i ∧ kv = .int .i64 k ∧ lv = .slice XV (faultsPre ls ks i).length XC ∧ Hid ((∀ q, q < k → ks[q]? ≠ some s) ∧ RlSt w (.slice A1 n c1) (.slice A2 n2 c2) (.slice XV (faultsPre ls ks i).length XC) (faultsPre ls ks i) wq)) (fun _ kv _ => i - (intOf kv).toNat)
        case atStart => exact ⟨0, by omega, rfl, rfl, Lib.hid ⟨fun q hq => absurd hq (Nat.not_lt_zero _), HT.out⟩⟩
        case round =>
          rename_i wq
          obtain ⟨k, hk, rfl, rfl, HR⟩ := hrel
          clear hc
          by_cases hki : k < i
          · obtain ⟨b', o', hkl, hA, hL, hB, hck⟩ := (H3.out.below HR.out.2.below (Nat.le_refl _)).str (k := k) (by omega)
            obtain ⟨b'', o'', hil', hA', hL', hB', hci⟩ := (H3.out.below HR.out.2.below (Nat.le_refl _)).str (k := i) hlt
            injection hA with hA
            injection hA with hA1 hA2
            injection hA' with hA'
            injection hA' with hA1' hA2'
            subst hA1 hA2 hA1' hA2'
            have hsi := HKI.out
            rw [List.getElem?_eq_getElem hil'] at hsi
            injection hsi with hsi
            rw [hsi] at hci
            have hkk : ks[k]? = some ks[k] := List.getElem?_eq_getElem hkl
            generalize ks[k] = x at hck hkk
            have HKK := Lib.hid hkk
            have j1 : (0 : Int) ≤ (k : Int) := by omega
            have j2 : (k : Int) < (n : Int) := by omega
            have bw3 := HR.out.2.below.size
            have bw4 := HR.out.2.b0.lt
            clear hkk hsi hL hB hL' hB'
            by_cases hxs : x = s
            · subst hxs
              have hps : posB (ks.take i) x = some k := posB_first (by rw [List.getElem?_take, if_pos hki]; exact HKK.out) (fun q hq => by rw [List.getElem?_take, if_pos (by omega)]; exact HR.out.1 q hq)
              have hfe : faultAt ls ks i = [((i : Int), (k : Int), 162)] := by rw [HFA.out]; unfold faultAs; rw [if_neg hcond, hps]
              have HFE := Lib.hid hfe
              clear hfe hps
              go_wp2
              go_quiet (fail)
              go_wp2_with (at_builtin; go_must (refine wpList_append_rd _ rfl _ _ 58 rfl (w.heap.size + 1) 63 i0 (.agg #[.int .i64 0, .int .i64 0, .int .i64 0]) 3 24 Try.underlying58 HI.out.1 HI.out.2.1 HI.out.2.2.1 HI.out.2.2.2 rfl (by decide) _ _ _ rfl ((HR.out.2.on (bdrawn (Below.refl _ _) _)).own.alloc _) _ _ _ 1 1 _ rfl (rd_newT _ _ _ _ _) (by simp [Value.oneCell']) (by unfold maxLen; omega) (by omega) (by simp; omega) ?_; intro v4 w4 _ hown hgrow _; have HN := Lib.hid (((HR.out.2.on (bdrawn (Below.refl _ _) _)).on ((Below.refl _ _).alloc (Nat.le_refl _) _)).app (out' := faultsPre ls ks i ++ [((i : Int), (k : Int), 162)]) hown hgrow (by rw [tps_append]; rfl)); clear hown hgrow))
              go_roundw
              case rel => exact ⟨i + 1, by omega, by go_num, Lib.hid (by rw [HFS.out, HFE.out]; exact HN.out)⟩
              case measure => simp [intOf]; omega
            · have hb3 := ne_lists hxs
              have hb4 : (x.toList == s.toList) = false := by simpa using hb3
              go_wp2
              go_quiet (fail)
              go_wp2
              go_roundw
              case rel => exact ⟨k + 1, by omega, by go_num, rfl, Lib.hid ⟨fun q hq => by
                rcases Nat.lt_or_ge q k with h | h
                · exact HR.out.1 q h
                · rw [show q = k by omega, HKK.out]; intro h; injection h with h; exact hxs h, HR.out.2.on (bdrawn (Below.refl _ _) _)⟩⟩
              case measure => simp [intOf]; omega
          · have hke : k = i := by omega
            subst hke
            have hps : posB (ks.take k) s = none := posB_none.2 (fun q => by
              rcases Nat.lt_or_ge q k with h | h
              · rw [List.getElem?_take, if_pos h]; exact HR.out.1 q h
              · rw [List.getElem?_take, if_neg (by omega)]; simp)
            have hfe : faultAt ls ks k = [] := by rw [HFA.out]; unfold faultAs; rw [if_neg hcond, hps]
            have HFE := Lib.hid hfe
            clear hfe hps
            go_wp2
            go_roundw
            case rel => exact ⟨k + 1, by omega, by go_num, Lib.hid (by rw [HFS.out, HFE.out, List.append_nil]; exact HR.out.2)⟩
            case measure => simp [intOf]; omega
    · have hin : i = n := by omega
      subst hin
      obtain ⟨XV, XC, rfl⟩ := own_slice HS.out.own
      go_wp2
      go_ret
      exact ⟨XV, XC, rfl, own_more HS.out.own (by omega), HS.out.below⟩
end Go.Proofs.Ytbjfbmienlojkaa
