/- The reference's both: words for memory, and the walk. -/
import Derived.Test.YtbjfbmienlojkaaT65
import Derived.Test.YtbjfbmienlojkaaT58
import Derived.Test.YtbjfbmienlojkaaT47
import Derived.Deep.QuietTactic
import Derived.BigQuiet
namespace Go.Proofs.Ytbjfbmienlojkaa
open Go.RowKit Go.Maps

/-- memory while both runs -/
structure BtSt (w0 : World) (a1 a2 b1 b2 : Value) (q : Nat) (v sv : Value) (out : List (Int × Int)) (st : List Int) (w : World) : Prop where
  b3 : Blk w w0.heap.size 26 #[a1, a2]
  b4 : Blk w (w0.heap.size + 1) 26 #[b1, b2]
  b6 : Blk w (w0.heap.size + 2) 26 #[.slice none 0 0, .slice none 0 0]
  b8 : Blk w q 26 #[v, sv]
  own : w.ownsRow (q + 1) 66 2 v out.length (prs out)
  os : w.ownsRow (w0.heap.size + 3) 3 1 sv st.length (st.map (Value.int .i64))
  below : Below w0.heap.size w0 w
  s1 : w0.heap.size + 3 ≤ q
  s2 : ∀ k, sv.ownBlock = some k → k < q
section
variable {w0 : World} {a1 a2 b1 b2 : Value} {q : Nat} {v v' sv : Value} {out out' : List (Int × Int)} {st : List Int} {w w' : World}
theorem BtSt.on (h : BtSt w0 a1 a2 b1 b2 q v sv out st w) (hb : Below w.heap.size w w') : BtSt w0 a1 a2 b1 b2 q v sv out st w' :=
  ⟨h.b3.below hb h.b3.lt, h.b4.below hb h.b4.lt, h.b6.below hb h.b6.lt, h.b8.below hb h.b8.lt, own_stay h.own (Only.of_below hb _), own_stay h.os (Only.of_below hb _), h.below.trans (hb.mono h.below.size), h.s1, h.s2⟩
theorem BtSt.app {n : Nat} {cs : List Value} (h : BtSt w0 a1 a2 b1 b2 q v sv out st w) (hown : w'.ownsRow (q + 1) 66 2 v' n cs) (hg : w.grownBy w' v.ownBlock) (hc : cs = prs out') :
    BtSt w0 a1 a2 b1 b2 q v' sv out' st (w'.setCell ⟨q, 0, none⟩ v') ∧ Blk w' q 26 #[v, sv] := by
  subst hc
  have hn : n = out'.length := by have := hown.1; rw [prs_len] at this; omega
  subst hn
  have hs := h.s1
  have ho : Only (fun k => v.ownBlock = some k) w w' := (Only.refl _ _).grown hg (fun _ hg => .inl hg)
  have hq : ∀ {k : Nat}, k ≤ q → ¬ (v.ownBlock = some k) := fun hk hh => by have := (h.own.lt _ hh).1; omega
  have hb8 := h.b8.only ho (hq (Nat.le_refl _))
  have h3 : ∀ k, sv.ownBlock = some k → k ≠ q := fun k hk => by have := h.s2 k hk; omega
  refine ⟨⟨(h.b3.only ho (hq (by omega))).far (by simp; omega) _, (h.b4.only ho (hq (by omega))).far (by simp; omega) _, (h.b6.only ho (hq (by omega))).far (by simp; omega) _, hb8.set_ 0 v',
    own_setCell hown (by simp) _, own_far (own_only h.os ho (fun k _ _ hk => hq (by have := h.s2 k hk; omega))) (fun hh => h3 _ hh rfl) _, (h.below.trans (ho.below h.below.size (fun k hk hh => by have := (h.own.lt _ hh).1; omega))).setCell (by simp; omega) _, hs, h.s2⟩, hb8⟩
end

/-- has no line of the first k, but i, the mark s? -/
def bAl (mk : List Int) (s : Int) (i : Nat) : Nat → Bool
  | 0 => true
  | k + 1 => if k ≠ i ∧ mk[k]? = some s then false else bAl mk s i k
theorem bAl_iff (mk : List Int) (s : Int) (i : Nat) : ∀ k, bAl mk s i k = true ↔ ∀ q, q < k → q ≠ i → mk[q]? ≠ some s := by
  intro k
  induction k with
  | zero => exact ⟨fun _ q hq => absurd hq (Nat.not_lt_zero _), fun _ => rfl⟩
  | succ k ih =>
    unfold bAl
    by_cases e : k ≠ i ∧ mk[k]? = some s
    · rw [if_pos e]
      exact ⟨fun h => absurd h (by simp), fun h => absurd e.2 (h k (by omega) e.1)⟩
    · rw [if_neg e, ih]
      constructor
      · intro h q hq hne hs
        rcases Nat.lt_or_ge q k with h1 | h1
        · exact h q h1 hne hs
        · have : q = k := by omega
          subst this
          exact e ⟨hne, hs⟩
      · intro h q hq
        exact h q (by omega)
theorem bAl_all {mk : List Int} {s : Int} {i : Nat} (h : mk[i]? = some s) : bAl mk s i mk.length = decide (cntI mk s = 1) := by
  rw [Bool.eq_iff_iff, bAl_iff, decide_eq_true_iff, cntI_one h]
  constructor
  · intro h1 q hne hs
    exact h1 q (List.getElem?_eq_some_iff.1 hs).1 hne hs
  · intro h1 q _ hne
    exact h1 q hne

set_option maxHeartbeats 4000000 in
set_option maxRecDepth 100000 in
theorem both_any (A1 A2 B1 B2 M : Option Addr) (n c1 n2 c2 d1 m2 d2 cm L1 L2 L3 L5 : Nat) (l1 l2 : List (Int × Int)) (st mk : List Int) (w : World)
    (h1 : Rd w L1 w.heap.size 2 A1 n (prs l1)) (h2 : Rd w L2 w.heap.size 1 A2 n2 (st.map (Value.int .i64))) (h3 : Rd w L3 w.heap.size 2 B1 n (prs l2)) (h5 : Rd w L5 w.heap.size 1 M n (mk.map (Value.int .i64)))
    (hn : n ≤ 512) (hn2 : n2 ≤ 512) :
    Calls Try.prog 74 #[.agg #[.slice A1 n c1, .slice A2 n2 c2], .agg #[.slice B1 n d1, .slice B2 m2 d2], .slice M n cm] w fun e w' => ∃ E1 e1 E2 e2, e = .returned (.tuple #[.agg #[.slice E1 (madeL l1 l2 mk).length e1, .slice E2 (madeS l1 l2 mk st).length e2], .int .i64 (madeE l1 l2 mk)]) ∧
      w'.ownsRow w.heap.size 66 2 (.slice E1 (madeL l1 l2 mk).length e1) (madeL l1 l2 mk).length (prs (madeL l1 l2 mk)) ∧ w'.ownsRow w.heap.size 3 1 (.slice E2 (madeS l1 l2 mk st).length e2) (madeS l1 l2 mk st).length ((madeS l1 l2 mk st).map (Value.int .i64)) ∧ Below w.heap.size w w' := by
  have hmn : mk.length = n := by have := h5.1; simpa using this
  have hsn : st.length = n2 := by have := h2.1; simpa using this
  have H1 := Lib.hid h1
  have H2 := Lib.hid h2
  have H3 := Lib.hid h3
  have H5 := Lib.hid h5
  have HMN := Lib.hid hmn
  have hinfo : (Try.prog.info? 66).map (fun i => (i.zero, i.size, i.bytes)) = some (some (.agg #[.int .i64 0, .int .i64 0]), 2, 16) := by kernel_rfl
  obtain ⟨i0, hi, hz0, hz1, hz2⟩ := info_parts hinfo
  have HI := Lib.hid (And.intro hi (And.intro hz0 (And.intro hz1 hz2)))
  have hinfo3 : (Try.prog.info? 3).map (fun i => (i.zero, i.size, i.bytes)) = some (some (.int .i64 0), 1, 8) := by kernel_rfl
  obtain ⟨j0, hj', jz0, jz1, jz2⟩ := info_parts hinfo3
  have HJ := Lib.hid (And.intro hj' (And.intro jz0 (And.intro jz1 jz2)))
  subst hsn
  clear h1 h2 h3 h5 hmn hi hz0 hz1 hz2 hinfo hinfo3 hj' jz0 jz1 jz2
  go_enter Try.func74, Try.ntmps74
  go_upto_region 1 with (fail)
  refine wp_abs (fun wx => TwoIn w (.slice A1 n c1) (.slice A2 st.length c2) (.slice B1 n d1) (.slice B2 m2 d2) wx ∧ Blk wx (w.heap.size + 2) 26 #[.slice none 0 0, .slice none 0 0] ∧ wx.heap.size = w.heap.size + 3) ⟨(TwoIn.init w _ _ _ _).on ((Below.refl _ _).alloc (Nat.le_refl _) _), blk_new_eq (by simp), by simp⟩ ?_
  rintro w1 ⟨hw, hq, hsz⟩
  have c1' : w1.cell? ⟨w.heap.size, 1, none⟩ = some (.slice A2 st.length c2) := hw.b0.cell 1
  have HW := Lib.hid (And.intro hw hq)
  clear hw hq
  have ho2 : (w1.alloc (.cells #[] 3)).ownsRow w1.heap.size 3 1 (.slice (some ⟨w1.heap.size, 0, none⟩) 0 0) 0 [] := own_made (c := 0) rfl (by unfold maxLen; omega) (Nat.le_refl _) (Blk.new _ _ _)
  have HO2 := Lib.hid ho2
  clear ho2
  have hx0 : w.heap.size ≤ w1.heap.size := by omega
  have hx3 : w.heap.size + 3 ≤ w1.heap.size := by omega
  clear hsz
  have c1a : (w1.alloc (.cells #[] 3)).cell? ⟨w.heap.size, 1, none⟩ = some (.slice A2 st.length c2) := (HW.out.1.on ((Below.refl _ _).alloc (Nat.le_refl _) _)).b0.cell 1
  go_upto_region 2 with (at_builtin; go_must (refine wpList_append_rd _ rfl _ _ 24 rfl w1.heap.size 3 j0 (.int .i64 0) 1 8 Try.underlying24 HJ.out.1 HJ.out.2.1 HJ.out.2.2.1 HJ.out.2.2.2 rfl (by decide) _ _ _ rfl HO2.out L2 w.heap.size A2 st.length c2 _ rfl (H2.out.below (HW.out.1.below.alloc hx0 _) (Nat.le_refl _)) (ints_one st) (by unfold maxLen; omega) (by omega) (by simp) ?_; intro v4 w4 _ hown hgrow _; obtain ⟨X4, C4, rfl⟩ := own_slice hown; have HG := Lib.hid (And.intro hown hgrow); clear hown hgrow))
  have hgs := HG.out.2.size
  have hz4 : w1.heap.size < w4.heap.size := by simp at hgs; omega
  refine wp_abs (BtSt w (.slice A1 n c1) (.slice A2 st.length c2) (.slice B1 n d1) (.slice B2 m2 d2) w4.heap.size (.slice none 0 0) (.slice X4 st.length C4) (md l1 l2 mk 0).2 st) ?_ ?_
  · have ho : w4.ownsRow w1.heap.size 3 1 (.slice X4 st.length C4) st.length (st.map (Value.int .i64)) := by
      have h5 := HG.out.1
      rw [Nat.zero_add] at h5
      exact h5
    have hb : Below w1.heap.size w1 w4 := (((Only.refl (fun k => k = w1.heap.size) w1).alloc _).grown HG.out.2 (fun _ hk => .inl (by have hk' : some w1.heap.size = some _ := hk; injection hk' with hk'; exact hk'.symm))).below (Nat.le_refl _) (fun k hk he => by omega)
    have hB := hb.alloc hb.size (.cells #[.slice none 0 0, .slice X4 st.length C4] 26)
    exact ⟨HW.out.1.b0.below hB HW.out.1.b0.lt, HW.out.1.b1.below hB HW.out.1.b1.lt, HW.out.2.below hB HW.out.2.lt, Blk.new _ _ _, World.ownsRow_nil _ _ _ _, own_more (ho.alloc _) hx3, HW.out.1.below.trans (hB.mono hx0), by omega, fun k hk => (ho.lt k hk).2⟩
  intro w5 hS
  have c0 : w5.cell? ⟨w.heap.size, 0, none⟩ = some (.slice A1 n c1) := hS.b3.cell 0
  have HS := Lib.hid hS
  clear hS HG HO2 HW c1' c1a hgs
  go_wp2
  clear c0
  go_loopw [9, 22] (fun nv iv wr => ∃ (i nx : Nat) (lv : Value), i ≤ n ∧ nx ≤ i ∧ iv = .int .i64 i ∧ nv = .int .i64 nx ∧ Hid (nx = (md l1 l2 mk i).1.length) ∧ Hid (BtSt w (.slice A1 n c1) (.slice A2 st.length c2) (.slice B1 n d1) (.slice B2 m2 d2) w4.heap.size lv (.slice X4 st.length C4) (md l1 l2 mk i).2 st wr)) (fun _ iv _ => n - (intOf iv).toNat)
  case atStart => exact ⟨0, 0, _, by omega, by omega, rfl, rfl, Lib.hid rfl, HS⟩
  case round =>
    obtain ⟨i, nx, lv, hi, hxi, rfl, rfl, HNX, HR⟩ := hrel
    clear HS
    by_cases hlt : i < n
    · obtain ⟨b, o, hil, rfl, _, _, hci0⟩ := (H5.out.below HR.out.below (Nat.le_refl _)).one hlt
      have hki : mk[i]? = some mk[i] := List.getElem?_eq_getElem hil
      have hgd : mk.getD i 0 = mk[i] := by rw [List.getD_eq_getElem?_getD, hki]; rfl
      have hsu : md l1 l2 mk (i + 1) = mdStep (loneAt l1 l2 mk i mk[i]) mk[i] (md l1 l2 mk i) := by rw [← hgd]; rfl
      obtain ⟨fl1, fl2⟩ := md_len l1 l2 mk i
      obtain ⟨iv1, iv2⟩ := md_inv l1 l2 mk i (by omega)
      generalize mk[i] = s at *
      generalize hst : md l1 l2 mk i = st0 at *
      obtain ⟨ds, out⟩ := st0
      simp only at fl1 fl2 iv1 iv2
      have hX : nx = ds.length := HNX.out
      have hSt : BtSt w _ _ _ _ _ lv _ out st wr := HR.out
      obtain ⟨XV, XC, rfl⟩ := own_slice hSt.own
      have HST := Lib.hid hSt
      have HX := Lib.hid hX
      have HSU := Lib.hid hsu
      have HIV := Lib.hid (And.intro iv1 iv2)
      have HKI := Lib.hid hki
      have HFL := Lib.hid fl1
      have c0 : wr.cell? ⟨w.heap.size, 0, none⟩ = some (.slice A1 n c1) := hSt.b3.cell 0
      have hp0 : (0 : Int) ≤ (((posI ds s).getD 0 : Nat) : Int) := by omega
      have hpl : (((posI ds s).getD 0 : Nat) : Int) ≤ 512 := by
        cases hq : posI ds s with
        | none => simp
        | some p => have := posI_lt hq; simp; omega
      generalize hpp : (((posI ds s).getD 0 : Nat) : Int) = pp at hp0 hpl
      have HPP := Lib.hid hpp
      clear hst hsu hki hgd iv1 iv2 hSt hX HNX HR hpp fl1 fl2 hci0
      go_wp2
      clear c0
      go_loopw [11, 12, 28] (fun cv av kv wq => ∃ (k : Nat) (cc : Int) (al : Bool), k ≤ n ∧ kv = .int .i64 k ∧ cv = .int .i64 cc ∧ av = .bool al ∧ -1 ≤ cc ∧ cc ≤ 512 ∧ Hid (cc = refClI mk s pp (min k i)) ∧ Hid (al = bAl mk s i k) ∧ Hid (BtSt w (.slice A1 n c1) (.slice A2 st.length c2) (.slice B1 n d1) (.slice B2 m2 d2) w4.heap.size (.slice XV out.length XC) (.slice X4 st.length C4) out st wq)) (fun _ _ kv _ => n - (intOf kv).toNat)
      case atStart => exact ⟨0, -1, true, by omega, rfl, rfl, rfl, by omega, by omega, Lib.hid (by rw [Nat.zero_min]; rfl), Lib.hid rfl, HST⟩
      case round =>
        clear HST
        obtain ⟨k, cc, al, hk, rfl, rfl, rfl, hc1, hc2, HC, HA, HST⟩ := hrel
        by_cases hkn : k < n
        · by_cases hke : k = i
          · subst hke
            have hb1 : ((k : Int) != (k : Int)) = false := by simp
            go_wp2
            go_quiet (fail)
            go_wp2
            go_roundw
            case rel => exact ⟨k + 1, cc, al, by omega, by go_num, rfl, rfl, by omega, by omega, Lib.hid (by rw [HC.out, show min (k + 1) k = min k k by omega]), Lib.hid (by rw [HA.out]; show _ = (if _ then _ else _); rw [if_neg (by simp)]), Lib.hid (HST.out.on (bdrawn (Below.refl _ _) _))⟩
            case measure => simp [intOf]; omega
          · obtain ⟨b1, o1, hil', hA, _, _, hci⟩ := (H5.out.below HST.out.below (Nat.le_refl _)).one (k := i) hlt
            obtain ⟨b2, o2, hkl, hA', _, _, hck⟩ := (H5.out.below HST.out.below (Nat.le_refl _)).one (k := k) hkn
            injection hA with hA
            injection hA with hA1 hA2
            injection hA' with hA'
            injection hA' with hA1' hA2'
            subst hA1 hA2 hA1' hA2'
            have hsi := HKI.out
            rw [List.getElem?_eq_getElem hil'] at hsi
            injection hsi with hsi
            rw [hsi] at hci
            have hkk : mk[k]? = some mk[k] := List.getElem?_eq_getElem hkl
            generalize mk[k] = x at hck hkk
            have HKK := Lib.hid hkk
            have hb1 : ((k : Int) != (i : Int)) = true := by simp; omega
            have i1 : (0 : Int) ≤ (k : Int) := by omega
            have i2 : (k : Int) < (n : Int) := by omega
            have i3 : (0 : Int) ≤ (i : Int) := by omega
            have i4 : (i : Int) < (n : Int) := by omega
            clear hkk hsi
            by_cases hxs : x = s
            · subst hxs
              have hb2 : (x == x) = true := by simp
              by_cases hki : k < i
              · obtain ⟨p, hp1, hp2⟩ : ∃ p : Nat, posI ds x = some p ∧ out[k]? = some ((p : Int), 0) := by
                  rcases HIV.out.1 k x hki HKK.out with ⟨a, _⟩ | ⟨_, h⟩
                  · rw [lone_twice HKI.out HKK.out hke k] at a; cases a
                  · exact h
                have hpq : pp = (p : Int) := by rw [← HPP.out, hp1]; rfl
                have hfl : out.length = i := HFL.out
                obtain ⟨g, rfl⟩ : ∃ g, XV = some ⟨g, 0, none⟩ := by
                  rcases HST.out.own.2 with ⟨_, h0⟩ | ⟨g, cap, cur, hv, _⟩
                  · omega
                  · injection hv with hv
                    exact ⟨g, hv⟩
                obtain ⟨hk1, q1, q2, f1, f2⟩ := own_two HST.out.own (k := k) (by omega)
                have hq1 : out[k] = ((p : Int), 0) := by
                  rw [List.getElem?_eq_getElem hk1] at hp2
                  injection hp2
                rw [hq1] at q1
                have d0 : wr.cell? ⟨w4.heap.size, 0, none⟩ = some (.slice (some ⟨g, 0, none⟩) out.length XC) := HST.out.b8.cell 0
                have i5 : (k : Int) < (out.length : Int) := by omega
                have HPQ := Lib.hid hpq
                have hp512 : (p : Int) ≤ 512 := by omega
                clear hpq hq1 q2 f1 f2 hp1 hp2 hfl
                go_wp2
                go_quiet (fail)
                go_wp2
                go_roundw
                case rel => exact ⟨k + 1, (p : Int), false, by omega, by go_num, rfl, rfl, by omega, by omega, Lib.hid (by rw [show min (k + 1) i = min k i + 1 by omega]; unfold refClI; rw [show min k i = k by omega, if_pos HKK.out, HPQ.out]), Lib.hid (by show _ = (if _ then _ else _); rw [if_pos ⟨hke, HKK.out⟩]), Lib.hid (HST.out.on (bdrawn (Below.refl _ _) _))⟩
                case measure => simp [intOf]; omega
              · go_wp2
                go_quiet (fail)
                go_wp2
                go_roundw
                case rel => exact ⟨k + 1, cc, false, by omega, by go_num, rfl, rfl, by omega, by omega, Lib.hid (by rw [HC.out, show min (k + 1) i = min k i by omega]), Lib.hid (by show _ = (if _ then _ else _); rw [if_pos ⟨hke, HKK.out⟩]), Lib.hid (HST.out.on (bdrawn (Below.refl _ _) _))⟩
                case measure => simp [intOf]; omega
            · have hb2 : (s == x) = false := by simpa using fun h => hxs h.symm
              go_wp2
              go_quiet (fail)
              go_wp2
              go_roundw
              case rel => exact ⟨k + 1, cc, al, by omega, by go_num, rfl, rfl, by omega, by omega, Lib.hid (by
                  rw [HC.out]
                  by_cases hki : k < i
                  · rw [show min (k + 1) i = min k i + 1 by omega]
                    show _ = refClI mk s pp (min k i + 1)
                    conv => rhs; unfold refClI
                    rw [show min k i = k by omega, if_neg (by rw [HKK.out]; intro h; injection h with h; exact hxs h)]
                  · rw [show min (k + 1) i = min k i by omega]), Lib.hid (by rw [HA.out]; show _ = (if _ then _ else _); rw [if_neg (by rw [HKK.out]; rintro ⟨_, h⟩; injection h with h; exact hxs h)]), Lib.hid (HST.out.on (bdrawn (Below.refl _ _) _))⟩
              case measure => simp [intOf]; omega
        · have hke : k = mk.length := by have := HMN.out; omega
          have hal : al = decide (cntI mk s = 1) := by rw [HA.out, hke]; exact bAl_all HKI.out
          have hcc : cc = refClI mk s pp i := by rw [HC.out, show min k i = i by omega]
          obtain ⟨b1, o1, hl1, rfl, _, _, p1, _⟩ := (H1.out.below HST.out.below (Nat.le_refl _)).two hlt
          obtain ⟨b2, o2, hl2, rfl, _, _, p2, _⟩ := (H3.out.below HST.out.below (Nat.le_refl _)).two hlt
          have hlone : loneAt l1 l2 mk i s = (decide (cntI mk s = 1) && (decide (l1[i].1 < 0) && decide (l2[i].1 < 0))) := by unfold loneAt; rw [clsAt_get hl1, clsAt_get hl2]
          generalize l1[i].1 = ca at *
          generalize l2[i].1 = cb at *
          have c30 : wr.cell? ⟨w.heap.size, 0, none⟩ = some (.slice (some ⟨b1, o1, none⟩) n c1) := HST.out.b3.cell 0
          have c40 : wr.cell? ⟨w.heap.size + 1, 0, none⟩ = some (.slice (some ⟨b2, o2, none⟩) n d1) := HST.out.b4.cell 0
          have c80 : wr.cell? ⟨w4.heap.size, 0, none⟩ = some (.slice XV out.length XC) := HST.out.b8.cell 0
          have bw := HST.out.below.size
          have bw2 := HST.out.b8.lt
          have bs1 := HST.out.s1
          have hfl : out.length ≤ 512 := by have := HFL.out; omega
          clear H5 HA HC
          cases hpos : posI ds s with
          | some p =>
            obtain ⟨q, hq1, hq2⟩ := HIV.out.2 s p hpos
            have hcp : cc = (p : Int) := by rw [hcc, refClI_hit mk s pp i ⟨q, hq1, hq2⟩, ← HPP.out, hpos]; rfl
            have hm2 : mdStep (loneAt l1 l2 mk i s) s (ds, out) = (ds, out ++ [((p : Int), 0)]) := by rw [lone_twice HKI.out hq2 (by omega) i]; unfold mdStep; simp [hpos]
            have HM2 := Lib.hid hm2
            subst hcp
            have hd1 : decide ((p : Int) < 0) = false := by simp
            clear hq1 hq2 hpos hcc hm2 hal hlone
            go_wp2_with (at_builtin; go_must (refine wpList_append_rd _ rfl _ _ 23 rfl (w4.heap.size + 1) 66 i0 (.agg #[.int .i64 0, .int .i64 0]) 2 16 Try.underlying23 HI.out.1 HI.out.2.1 HI.out.2.2.1 HI.out.2.2.2 rfl (by decide) _ _ _ rfl (HST.out.own.alloc _) _ _ _ 1 1 _ rfl (rd_newP _ _ _ _) (by simp [Value.oneCell']) (by unfold maxLen; omega) (by omega) (by simp; omega) ?_; intro v6 w6 _ hown hgrow _; obtain ⟨X6, C6, rfl⟩ := own_slice hown; have HN := Lib.hid ((HST.out.on ((Below.refl _ _).alloc (Nat.le_refl _) _)).app (out' := out ++ [((p : Int), 0)]) hown hgrow (by rw [prs_append]; rfl)); have d0 : w6.cell? ⟨w4.heap.size, 0, none⟩ = some (.slice XV out.length XC) := HN.out.2.cell 0; have d1 : w6.frozen? ⟨w4.heap.size, 0, none⟩ = false := HN.out.2.frozen 0; clear hown hgrow))
            go_roundw
            case rel => exact ⟨i + 1, nx, _, by omega, by omega, by go_num, by go_num, Lib.hid (by rw [HSU.out, HM2.out]; exact HX.out), Lib.hid (by rw [HSU.out, HM2.out]; exact HN.out.1)⟩
            case measure => simp [intOf]; omega
          | none =>
            have hcp : cc = -1 := by
              rw [hcc]
              refine refClI_miss mk s pp i fun q hq hqs => ?_
              rcases HIV.out.1 q s hq hqs with ⟨a, _⟩ | ⟨_, p, hp, _⟩
              · rw [lone_twice HKI.out hqs (by omega) q] at a; cases a
              · rw [hpos] at hp; cases hp
            subst hcp
            cases hlo : loneAt l1 l2 mk i s with
            | true =>
              rw [hlo] at hlone
              have hl3 := hlone.symm
              simp only [Bool.and_eq_true, decide_eq_true_eq] at hl3
              obtain ⟨k1, k2, k3⟩ := hl3
              have hal2 : al = true := by rw [hal]; exact decide_eq_true k1
              have hm2 : mdStep (loneAt l1 l2 mk i s) s (ds, out) = (ds, out ++ [(-1, 0)]) := by rw [hlo]; rfl
              have HM2 := Lib.hid hm2
              subst hal2
              have k4 : ¬ 0 ≤ ca := by omega
              have k5 : ¬ 0 ≤ cb := by omega
              clear hal hlone hlo hm2 hcc hpos k1
              go_wp2_with (at_builtin; go_must (refine wpList_append_rd _ rfl _ _ 23 rfl (w4.heap.size + 1) 66 i0 (.agg #[.int .i64 0, .int .i64 0]) 2 16 Try.underlying23 HI.out.1 HI.out.2.1 HI.out.2.2.1 HI.out.2.2.2 rfl (by decide) _ _ _ rfl (HST.out.own.alloc _) _ _ _ 1 1 _ rfl (rd_newP _ _ _ _) (by simp [Value.oneCell']) (by unfold maxLen; omega) (by omega) (by simp; omega) ?_; intro v6 w6 _ hown hgrow _; obtain ⟨X6, C6, rfl⟩ := own_slice hown; have HN := Lib.hid ((HST.out.on ((Below.refl _ _).alloc (Nat.le_refl _) _)).app (out' := out ++ [(-1, 0)]) hown hgrow (by rw [prs_append]; rfl)); have d0 : w6.cell? ⟨w4.heap.size, 0, none⟩ = some (.slice XV out.length XC) := HN.out.2.cell 0; have d1 : w6.frozen? ⟨w4.heap.size, 0, none⟩ = false := HN.out.2.frozen 0; clear hown hgrow))
              go_roundw
              case rel => exact ⟨i + 1, nx, _, by omega, by omega, by go_num, by go_num, Lib.hid (by rw [HSU.out, HM2.out]; exact HX.out), Lib.hid (by rw [HSU.out, HM2.out]; exact HN.out.1)⟩
              case measure => simp [intOf]; omega
            | false =>
              rw [hlo] at hlone
              have hcases : al = false ∨ (al = true ∧ 0 ≤ ca) ∨ (al = true ∧ ¬ 0 ≤ ca ∧ 0 ≤ cb) := by
                rw [← hal] at hlone
                cases al with
                | false => exact .inl rfl
                | true =>
                  right
                  simp only [Bool.true_and] at hlone
                  by_cases h : 0 ≤ ca
                  · exact .inl ⟨rfl, h⟩
                  · refine .inr ⟨rfl, h, ?_⟩
                    have := hlone.symm
                    simp only [Bool.and_eq_false_iff, decide_eq_false_iff_not] at this
                    omega
              have hm2 : mdStep (loneAt l1 l2 mk i s) s (ds, out) = (ds ++ [s], out ++ [((nx : Int), 0)]) := by rw [hlo, HX.out]; unfold mdStep; simp [hpos]
              have HM2 := Lib.hid hm2
              clear hal hlone hlo hm2 hcc hpos
              rcases hcases with rfl | ⟨rfl, k4⟩ | ⟨rfl, k4, k5⟩
              all_goals go_wp2_with (at_builtin; go_must (refine wpList_append_rd _ rfl _ _ 23 rfl (w4.heap.size + 1) 66 i0 (.agg #[.int .i64 0, .int .i64 0]) 2 16 Try.underlying23 HI.out.1 HI.out.2.1 HI.out.2.2.1 HI.out.2.2.2 rfl (by decide) _ _ _ rfl (HST.out.own.alloc _) _ _ _ 1 1 _ rfl (rd_newP _ _ _ _) (by simp [Value.oneCell']) (by unfold maxLen; omega) (by omega) (by simp; omega) ?_; intro v6 w6 _ hown hgrow _; obtain ⟨X6, C6, rfl⟩ := own_slice hown; have HN := Lib.hid ((HST.out.on ((Below.refl _ _).alloc (Nat.le_refl _) _)).app (out' := out ++ [((nx : Int), 0)]) hown hgrow (by rw [prs_append]; rfl)); have d0 : w6.cell? ⟨w4.heap.size, 0, none⟩ = some (.slice XV out.length XC) := HN.out.2.cell 0; have d1 : w6.frozen? ⟨w4.heap.size, 0, none⟩ = false := HN.out.2.frozen 0; clear hown hgrow))
              all_goals go_roundw
              case rel => exact ⟨i + 1, nx + 1, _, by omega, by omega, by go_num, by go_num, Lib.hid (by rw [HSU.out, HM2.out]; rw [List.length_append, ← HX.out]; rfl), Lib.hid (by rw [HSU.out, HM2.out]; exact HN.out.1)⟩
              case measure => simp [intOf]; omega
              case rel => exact ⟨i + 1, nx + 1, _, by omega, by omega, by go_num, by go_num, Lib.hid (by rw [HSU.out, HM2.out]; rw [List.length_append, ← HX.out]; rfl), Lib.hid (by rw [HSU.out, HM2.out]; exact HN.out.1)⟩
              case measure => simp [intOf]; omega
              case rel => exact ⟨i + 1, nx + 1, _, by omega, by omega, by go_num, by go_num, Lib.hid (by rw [HSU.out, HM2.out]; rw [List.length_append, ← HX.out]; rfl), Lib.hid (by rw [HSU.out, HM2.out]; exact HN.out.1)⟩
              case measure => simp [intOf]; omega
    · have hji : i = mk.length := by have := HMN.out; omega
      subst hji
      have hE : madeE l1 l2 mk = if 25 < (md l1 l2 mk mk.length).1.length then 5 else 0 := rfl
      have hLL : madeL l1 l2 mk = if madeE l1 l2 mk = 0 then (md l1 l2 mk mk.length).2 else [] := rfl
      have hSS : madeS l1 l2 mk st = if madeE l1 l2 mk = 0 then st else [] := rfl
      have hNX : nx = (md l1 l2 mk mk.length).1.length := HNX.out
      rw [← hNX] at hE
      generalize hst : md l1 l2 mk mk.length = st0 at *
      obtain ⟨ds, out⟩ := st0
      simp only at hLL
      have hSt : BtSt w _ _ _ _ _ lv _ out st wr := HR.out
      obtain ⟨XV, XC, rfl⟩ := own_slice hSt.own
      have HX := Lib.hid hSt
      have f0 : wr.frozen? ⟨w.heap.size + 2, 0, none⟩ = false := hSt.b6.frozen 0
      have f1 : wr.frozen? ⟨w.heap.size + 2, 1, none⟩ = false := hSt.b6.frozen 1
      have e0 : wr.cell? ⟨w.heap.size + 2, 0, none⟩ = some (.slice none 0 0) := hSt.b6.cell 0
      have e1 : wr.cell? ⟨w.heap.size + 2, 1, none⟩ = some (.slice none 0 0) := hSt.b6.cell 1
      have d0 : wr.cell? ⟨w4.heap.size, 0, none⟩ = some (.slice XV out.length XC) := hSt.b8.cell 0
      have d1 : wr.cell? ⟨w4.heap.size, 1, none⟩ = some (.slice X4 st.length C4) := hSt.b8.cell 1
      have bw2 := hSt.b8.lt
      have bs1 := hSt.s1
      clear hSt HR hst HNX hNX
      by_cases h25 : 25 < nx
      · rw [if_pos h25] at hE
        rw [hE, if_neg (by decide)] at hLL hSS
        have HE := Lib.hid (And.intro hE (And.intro hLL hSS))
        clear hE hLL hSS
        go_wp2
        have HF2 := (HX.out.b6.set_ 0 (.slice none 0 0)).set_ 1 (.slice none 0 0)
        have g0 := HF2.cell 0
        have g1 := HF2.cell 1
        simp at g0 g1
        refine bodyPost_ret (v := .tuple #[.agg #[.slice none 0 0, .slice none 0 0], .int .i64 5]) (by simp [results, Try.results74, go_sem, g0, g1]) rfl ?_
        rw [HE.out.1, HE.out.2.1, HE.out.2.2]
        exact ⟨none, 0, none, 0, rfl, World.ownsRow_nil _ _ _ _, World.ownsRow_nil _ _ _ _, (HX.out.below.setCell (by simp; omega) _).setCell (by simp; omega) _⟩
      · rw [if_neg h25] at hE
        rw [hE, if_pos rfl] at hLL hSS
        have HE := Lib.hid (And.intro hE (And.intro hLL hSS))
        clear hE hLL hSS
        go_wp2
        have HF2 := (HX.out.b6.set_ 0 (.slice XV out.length XC)).set_ 1 (.slice X4 st.length C4)
        have g0 := HF2.cell 0
        have g1 := HF2.cell 1
        simp at g0 g1
        refine bodyPost_ret (v := .tuple #[.agg #[.slice XV out.length XC, .slice X4 st.length C4], .int .i64 0]) (by simp [results, Try.results74, go_sem, g0, g1]) rfl ?_
        rw [HE.out.1, HE.out.2.1, HE.out.2.2]
        exact ⟨XV, XC, X4, C4, rfl, own_more (own_setCell (own_setCell HX.out.own (by simp; omega) _) (by simp; omega) _) (by omega), own_more (own_setCell (own_setCell HX.out.os (by simp) _) (by simp) _) (by omega), (HX.out.below.setCell (by simp; omega) _).setCell (by simp; omega) _⟩
end Go.Proofs.Ytbjfbmienlojkaa
