/- The reference's Found: the walk. -/
import Derived.Test.YtbjfbmienlojkaaT45
import Derived.Test.YtbjfbmienlojkaaT32
import Derived.Deep.QuietTactic
import Derived.BigQuiet
namespace Go.Proofs.Ytbjfbmienlojkaa
open Go.RowKit Go.Maps

theorem fnd_inv (ks : List ByteArray) : ∀ i, i ≤ ks.length → (∀ q s, q < i → ks[q]? = some s → ∃ p, posB (fnd ks i).1 s = some p ∧ (fnd ks i).2[q]? = some ((p : Int), 0)) ∧ (∀ s p, posB (fnd ks i).1 s = some p → ∃ q, q < i ∧ ks[q]? = some s) := by
  intro i
  induction i with
  | zero => intro _; exact ⟨fun q s hq => absurd hq (Nat.not_lt_zero _), fun s p h => by simp [fnd_zero, posB] at h⟩
  | succ i ih =>
    intro hi
    obtain ⟨h1, h2⟩ := ih (by omega)
    obtain ⟨l1, l2⟩ := fnd_len ks i (by omega)
    have hil : i < ks.length := by omega
    have hki : ks[i]? = some ks[i] := List.getElem?_eq_getElem hil
    rw [fnd_succ ks hil]
    generalize fnd ks i = st at *
    obtain ⟨ds, out⟩ := st
    simp only at h1 h2 l1 l2
    unfold fndStep
    cases hp : posB ds ks[i] with
    | some p =>
      dsimp only
      refine ⟨fun q s hq hs => ?_, fun s p' h => ?_⟩
      · rcases Nat.lt_or_ge q i with hlt | hge
        · obtain ⟨p', a, b⟩ := h1 q s hlt hs
          exact ⟨p', a, by rw [List.getElem?_append_left (by omega)]; exact b⟩
        · have : q = i := by omega
          subst this
          rw [hki] at hs
          injection hs with hs
          subst hs
          exact ⟨p, hp, by rw [List.getElem?_append_right (by omega), l1, Nat.sub_self]; rfl⟩
      · obtain ⟨q, a, b⟩ := h2 s p' h
        exact ⟨q, by omega, b⟩
    | none =>
      dsimp only
      refine ⟨fun q s hq hs => ?_, fun s p' h => ?_⟩
      · rcases Nat.lt_or_ge q i with hlt | hge
        · obtain ⟨p', a, b⟩ := h1 q s hlt hs
          exact ⟨p', by rw [posB_snoc, a], by rw [List.getElem?_append_left (by omega)]; exact b⟩
        · have : q = i := by omega
          subst this
          rw [hki] at hs
          injection hs with hs
          subst hs
          exact ⟨ds.length, by rw [posB_snoc, hp]; simp, by rw [List.getElem?_append_right (by omega), l1, Nat.sub_self]; rfl⟩
      · rw [posB_snoc] at h
        cases hd : posB ds s with
        | some r =>
          obtain ⟨q, a, b⟩ := h2 s r hd
          exact ⟨q, by omega, b⟩
        | none =>
          rw [hd] at h
          simp only at h
          by_cases e : ks[i] = s
          · exact ⟨i, by omega, by rw [hki, e]⟩
          · rw [if_neg e] at h; cases h

/-- the class that the reference has found among the first k keys -/
def refCl (ks : List ByteArray) (s : ByteArray) (p : Int) : Nat → Int
  | 0 => -1
  | k + 1 => if ks[k]? = some s then p else refCl ks s p k
theorem refCl_hit (ks : List ByteArray) (s : ByteArray) (p : Int) : ∀ k, (∃ q, q < k ∧ ks[q]? = some s) → refCl ks s p k = p := by
  intro k
  induction k with
  | zero => rintro ⟨q, hq, _⟩; omega
  | succ k ih =>
    rintro ⟨q, hq, hs⟩
    unfold refCl
    by_cases e : ks[k]? = some s
    · rw [if_pos e]
    · rw [if_neg e]
      refine ih ⟨q, ?_, hs⟩
      rcases Nat.lt_or_ge q k with h | h
      · exact h
      · have : q = k := by omega
        subst this
        exact absurd hs e
theorem refCl_miss (ks : List ByteArray) (s : ByteArray) (p : Int) : ∀ k, (∀ q, q < k → ks[q]? ≠ some s) → refCl ks s p k = -1 := by
  intro k
  induction k with
  | zero => intro _; rfl
  | succ k ih =>
    intro h
    unfold refCl
    rw [if_neg (h k (by omega))]
    exact ih fun q hq => h q (by omega)
theorem refCl_range (ks : List ByteArray) (s : ByteArray) (p : Int) (hp : 0 ≤ p) : ∀ k, -1 ≤ refCl ks s p k ∧ refCl ks s p k ≤ p := by
  intro k
  induction k with
  | zero => unfold refCl; omega
  | succ k ih => unfold refCl; split <;> omega

/-- memory while the reference's Found runs -/
structure RfSt (w0 : World) (v : Value) (out : List (Int × Int)) (w : World) : Prop where
  b0 : Blk w w0.heap.size 26 #[.slice none 0 0, .slice none 0 0]
  b1 : Blk w (w0.heap.size + 1) 26 #[v, .slice none 0 0]
  own : w.ownsRow (w0.heap.size + 2) 66 2 v out.length (prs out)
  below : Below w0.heap.size w0 w
section
variable {w0 : World} {v v' : Value} {out out' : List (Int × Int)} {w w' : World}
theorem RfSt.on (h : RfSt w0 v out w) (hb : Below w.heap.size w w') : RfSt w0 v out w' :=
  ⟨h.b0.below hb h.b0.lt, h.b1.below hb h.b1.lt, own_stay h.own (Only.of_below hb _), h.below.trans (hb.mono h.below.size)⟩
theorem RfSt.app {n : Nat} {cs : List Value} (h : RfSt w0 v out w) (hown : w'.ownsRow (w0.heap.size + 2) 66 2 v' n cs) (hg : w.grownBy w' v.ownBlock) (hc : cs = prs out') :
    RfSt w0 v' out' (w'.setCell ⟨w0.heap.size + 1, 0, none⟩ v') ∧ Blk w' (w0.heap.size + 1) 26 #[v, .slice none 0 0] := by
  subst hc
  have hn : n = out'.length := by have := hown.1; rw [prs_len] at this; omega
  subst hn
  have ho : Only (fun k => v.ownBlock = some k) w w' := (Only.refl _ _).grown hg (fun _ hg => .inl hg)
  have hb1 := h.b1.only ho (fun hk => by have := (h.own.lt _ hk).1; omega)
  refine ⟨⟨(h.b0.only ho (fun hk => by have := (h.own.lt _ hk).1; omega)).far (by simp) _, ?_, own_setCell hown (by simp) _, (h.below.trans (ho.below h.below.size (fun k hk hh => by have := (h.own.lt _ hh).1; omega))).setCell (by simp) _⟩, hb1⟩
  exact hb1.set_ 0 v'
end

set_option maxHeartbeats 4000000 in
set_option maxRecDepth 100000 in
theorem refFound_any (A : Option Addr) (n c L : Nat) (ks : List ByteArray) (w : World) (h : Rd w L w.heap.size 1 A n (strs ks)) (hnm : n ≤ maxLen) :
    Calls Try.prog 34 #[.slice A n c] w fun e w' => ∃ B1 d1 B2 d2, e = .returned (.tuple #[.agg #[.slice B1 (foundL ks).length d1, .slice B2 (foundS ks).length d2], .int .i64 (foundE ks)]) ∧
      w'.ownsRow w.heap.size 66 2 (.slice B1 (foundL ks).length d1) (foundL ks).length (prs (foundL ks)) ∧ w'.ownsRow w.heap.size 3 1 (.slice B2 (foundS ks).length d2) (foundS ks).length ((foundS ks).map (Value.int .i64)) ∧ Below w.heap.size w w' := by
  have hq := hnm
  unfold maxLen at hq
  have hl := h.slen
  have HL := Lib.hid hl
  have H := Lib.hid h
  clear h hl hnm
  by_cases hbig : 512 < n
  · have hE : foundE ks = 3 := if_pos (by rw [HL.out]; exact hbig)
    have hLL : foundL ks = [] := if_neg (by rw [hE]; decide)
    have hSS : foundS ks = [] := if_neg (by rw [hE]; decide)
    rw [hE, hLL, hSS]
    clear hE hLL hSS
    go_enter Try.func34, Try.ntmps34
    go_wp2
    refine bodyPost_ret (v := .tuple #[.agg #[.slice none 0 0, .slice none 0 0], .int .i64 3]) (by simp [results, Try.results34, go_sem]) rfl ?_
    exact ⟨none, 0, none, 0, rfl, World.ownsRow_nil _ _ _ _, World.ownsRow_nil _ _ _ _, (Below.refl _ _).alloc (Nat.le_refl _) _⟩
  · have hinfo : (Try.prog.info? 66).map (fun i => (i.zero, i.size, i.bytes)) = some (some (.agg #[.int .i64 0, .int .i64 0]), 2, 16) := by kernel_rfl
    obtain ⟨i0, hi, hz0, hz1, hz2⟩ := info_parts hinfo
    have HI := Lib.hid (And.intro hi (And.intro hz0 (And.intro hz1 hz2)))
    clear hi hz0 hz1 hz2 hinfo
    go_enter Try.func34, Try.ntmps34
    go_upto_region 5 with (fail)
    refine wp_abs (RfSt w (.slice none 0 0) []) ⟨(Blk.new _ _ _).alloc _, blk_new_eq (by simp), World.ownsRow_nil _ _ _ _, ((Below.refl _ _).alloc (Nat.le_refl _) _).alloc (by simp) _⟩ ?_
    intro w1 hS
    have HS := Lib.hid hS
    clear hS
    go_wp2
    go_loopw [5, 15] (fun nv iv wr => ∃ (i nx : Nat) (lv : Value), i ≤ n ∧ nx ≤ i ∧ iv = .int .i64 i ∧ nv = .int .i64 nx ∧ Hid (nx = (fnd ks i).1.length) ∧ Hid (RfSt w lv (fnd ks i).2 wr)) (fun _ iv _ => n - (intOf iv).toNat)
    case atStart => exact ⟨0, 0, _, by omega, by omega, rfl, rfl, Lib.hid rfl, HS⟩
    case round =>
      obtain ⟨i, nx, lv, hi, hxi, rfl, rfl, HX, HS⟩ := hrel
      by_cases hlt : i < n
      · obtain ⟨b, o, hil, rfl, hL, hB, hc⟩ := (H.out.below HS.out.below (Nat.le_refl _)).str hlt
        have hsu := fnd_succ ks hil
        obtain ⟨fl1, fl2⟩ := fnd_len ks i (by omega)
        obtain ⟨iv1, iv2⟩ := fnd_inv ks i (by omega)
        generalize hs0 : ks[i] = s at hc hsu
        generalize hst : fnd ks i = st at *
        obtain ⟨ds, out⟩ := st
        simp only at fl1 fl2 iv1 iv2
        have hX : nx = ds.length := HX.out
        have hSt : RfSt w lv out wr := HS.out
        obtain ⟨XV, XC, rfl⟩ := own_slice hSt.own
        have HST := Lib.hid hSt
        have HNX := Lib.hid hX
        have HSU := Lib.hid hsu
        have HIV := Lib.hid (And.intro iv1 iv2)
        have HS0 := Lib.hid (show ks[i]? = some s by rw [List.getElem?_eq_getElem hil, hs0])
        have HFL := Lib.hid fl1
        clear hst hsu HS hSt HX hX iv1 iv2 fl2 hs0 hc hL hB
        have hp0 : (0 : Int) ≤ (((posB ds s).getD 0 : Nat) : Int) := by omega
        generalize hpp : (((posB ds s).getD 0 : Nat) : Int) = pp at hp0
        have HPP := Lib.hid hpp
        have hpl : pp ≤ 512 := by
          rw [← hpp]
          cases hq : posB ds s with
          | none => simp
          | some p => have := posB_lt hq; have := HNX.out; simp; omega
        clear hpp fl1
        go_wp2
        go_loopw [7, 8] (fun cv kv wq => ∃ (k : Nat) (cc : Int), k ≤ i ∧ kv = .int .i64 k ∧ cv = .int .i64 cc ∧ -1 ≤ cc ∧ cc ≤ 512 ∧ Hid (cc = refCl ks s pp k) ∧ Hid (RfSt w (.slice XV out.length XC) out wq)) (fun _ kv _ => i - (intOf kv).toNat)
        case atStart => exact ⟨0, -1, by omega, rfl, rfl, by omega, by omega, Lib.hid rfl, HST⟩
        case round =>
          rename_i wq
          clear HST
          obtain ⟨k, cc, hk, rfl, rfl, hc1, hc2, HC, HST⟩ := hrel
          by_cases hki : k < i
          · obtain ⟨b', o', hkl, hA, hL, hB, hck⟩ := (H.out.below HST.out.below (Nat.le_refl _)).str (k := k) (by omega)
            obtain ⟨b'', o'', hil', hA', hL', hB', hci⟩ := (H.out.below HST.out.below (Nat.le_refl _)).str (k := i) hlt
            injection hA with hA
            injection hA with hA1 hA2
            injection hA' with hA'
            injection hA' with hA1' hA2'
            subst hA1 hA2 hA1' hA2'
            have hsi := HS0.out
            rw [List.getElem?_eq_getElem hil'] at hsi
            injection hsi with hsi
            rw [hsi] at hci
            have hkk : ks[k]? = some ks[k] := List.getElem?_eq_getElem hkl
            generalize ks[k] = x at hck hkk
            have HKK := Lib.hid hkk
            have i1 : (0 : Int) ≤ (k : Int) := by omega
            have i2 : (k : Int) < (n : Int) := by omega
            have i3 : (0 : Int) ≤ (i : Int) := by omega
            have i4 : (i : Int) < (n : Int) := by omega
            clear hkk hsi
            by_cases hxs : x = s
            · subst hxs
              obtain ⟨p, hp1, hp2⟩ := HIV.out.1 k x hki HKK.out
              have hpq : pp = (p : Int) := by rw [← HPP.out, hp1]; rfl
              obtain ⟨g, rfl⟩ : ∃ g, XV = some ⟨g, 0, none⟩ := by
                rcases HST.out.own.2 with ⟨_, h0⟩ | ⟨g, cap, cur, hv, _⟩
                · have := HFL.out; omega
                · injection hv with hv
                  exact ⟨g, hv⟩
              have hfl : out.length = i := HFL.out
              obtain ⟨hk1, q1, q2, f1, f2⟩ := own_two HST.out.own (k := k) (by omega)
              have hq1 : out[k] = ((p : Int), 0) := by
                rw [List.getElem?_eq_getElem hk1] at hp2
                injection hp2
              rw [hq1] at q1
              have d0 : wr.cell? ⟨w.heap.size + 1, 0, none⟩ = some (.slice (some ⟨g, 0, none⟩) out.length XC) := HST.out.b1.cell 0
              have i5 : (k : Int) < (out.length : Int) := by omega
              have HPQ := Lib.hid hpq
              have hp512 : (p : Int) ≤ 512 := by omega
              clear hpq hq1 q2 f1 f2 hp1 hp2 hfl
              go_wp2
              go_quiet (fail)
              go_wp2
              go_roundw
              case rel => exact ⟨k + 1, (p : Int), by omega, by go_num, rfl, by omega, by omega, Lib.hid (by unfold refCl; rw [if_pos HKK.out, HPQ.out]), Lib.hid (HST.out.on (bdrawn (Below.refl _ _) _))⟩
              case measure => simp [intOf]; omega
            · have hb2 : decide (x = s) = false := by simpa using hxs
              have hb3 : x.toList ≠ s.toList := fun h => hxs (ByteArray.ext (Array.toList_inj.1 (by rw [← ByteArray.toList_eq, ← ByteArray.toList_eq, h])))
              have hb4 : (x.toList == s.toList) = false := by simpa using hb3
              go_wp2
              go_quiet (fail)
              go_wp2
              go_roundw
              case rel => exact ⟨k + 1, cc, by omega, by go_num, rfl, by omega, by omega, Lib.hid (by unfold refCl; rw [if_neg (by rw [HKK.out]; intro h; injection h with h; exact hxs h)]; exact HC.out), Lib.hid (HST.out.on (bdrawn (Below.refl _ _) _))⟩
              case measure => simp [intOf]; omega
          · have hke : k = i := by omega
            subst hke
            have bw := HST.out.below.size
            have bw2 := HST.out.b1.lt
            have hfl : out.length ≤ 512 := by have := HFL.out; omega
            have c0 : wr.cell? ⟨w.heap.size + 1, 0, none⟩ = some (.slice XV out.length XC) := HST.out.b1.cell 0
            clear H
            cases hpos : posB ds s with
            | some p =>
              obtain ⟨q, hq1, hq2⟩ := HIV.out.2 s p hpos
              have hcp : cc = (p : Int) := by rw [HC.out, refCl_hit ks s pp k ⟨q, hq1, hq2⟩, ← HPP.out, hpos]; rfl
              have HP := Lib.hid hpos
              subst hcp
              have hd1 : decide ((p : Int) < 0) = false := by simp
              clear hq1 hq2 hpos HC
              go_wp2_with (at_builtin; go_must (refine wpList_append_rd _ rfl _ _ 23 rfl (w.heap.size + 2) 66 i0 (.agg #[.int .i64 0, .int .i64 0]) 2 16 Try.underlying23 HI.out.1 HI.out.2.1 HI.out.2.2.1 HI.out.2.2.2 rfl (by decide) _ _ _ rfl (HST.out.own.alloc _) _ _ _ 1 1 _ rfl (rd_newP _ _ _ _) (by simp [Value.oneCell']) (by unfold maxLen; omega) (by omega) (by simp; omega) ?_; intro v4 w4 _ hown hgrow _; obtain ⟨X4, C4, rfl⟩ := own_slice hown; have HN := Lib.hid ((HST.out.on ((Below.refl _ _).alloc (Nat.le_refl _) _)).app (out' := out ++ [((p : Int), 0)]) hown hgrow (by rw [prs_append]; rfl)); have d0 : w4.cell? ⟨w.heap.size + 1, 0, none⟩ = some (.slice XV out.length XC) := HN.out.2.cell 0; have d1 : w4.frozen? ⟨w.heap.size + 1, 0, none⟩ = false := HN.out.2.frozen 0; clear hown hgrow))
              go_roundw
              case rel => exact ⟨k + 1, nx, _, by omega, by omega, by go_num, rfl, Lib.hid (by rw [HSU.out]; unfold fndStep; simp only [HP.out]; exact HNX.out), Lib.hid (by rw [HSU.out]; unfold fndStep; simp only [HP.out]; exact HN.out.1)⟩
              case measure => simp [intOf]; omega
            | none =>
              have hcp : cc = -1 := by
                rw [HC.out]
                refine refCl_miss ks s pp k fun q hq hqs => ?_
                obtain ⟨p, hp, _⟩ := HIV.out.1 q s hq hqs
                rw [hpos] at hp
                cases hp
              have HP := Lib.hid hpos
              subst hcp
              clear hpos HC
              go_wp2_with (at_builtin; go_must (refine wpList_append_rd _ rfl _ _ 23 rfl (w.heap.size + 2) 66 i0 (.agg #[.int .i64 0, .int .i64 0]) 2 16 Try.underlying23 HI.out.1 HI.out.2.1 HI.out.2.2.1 HI.out.2.2.2 rfl (by decide) _ _ _ rfl (HST.out.own.alloc _) _ _ _ 1 1 _ rfl (rd_newP _ _ _ _) (by simp [Value.oneCell']) (by unfold maxLen; omega) (by omega) (by simp; omega) ?_; intro v4 w4 _ hown hgrow _; obtain ⟨X4, C4, rfl⟩ := own_slice hown; have HN := Lib.hid ((HST.out.on ((Below.refl _ _).alloc (Nat.le_refl _) _)).app (out' := out ++ [((nx : Int), 0)]) hown hgrow (by rw [prs_append]; rfl)); have d0 : w4.cell? ⟨w.heap.size + 1, 0, none⟩ = some (.slice XV out.length XC) := HN.out.2.cell 0; have d1 : w4.frozen? ⟨w.heap.size + 1, 0, none⟩ = false := HN.out.2.frozen 0; clear hown hgrow))
              go_roundw
              case rel => exact ⟨k + 1, nx + 1, _, by omega, by omega, by go_num, by go_num, Lib.hid (by rw [HSU.out]; unfold fndStep; simp only [HP.out]; rw [List.length_append, ← HNX.out]; rfl), Lib.hid (by rw [HSU.out]; unfold fndStep; simp only [HP.out]; rw [← HNX.out]; exact HN.out.1)⟩
              case measure => simp [intOf]; omega
      · have hin : i = ks.length := by rw [HL.out]; omega
        subst hin
        obtain ⟨fl1, fl2⟩ := fnd_len ks ks.length (Nat.le_refl _)
        have hE : foundE ks = if 25 < (fnd ks ks.length).1.length then 5 else 0 := if_neg (by rw [HL.out]; exact hbig)
        have hLL : foundL ks = if foundE ks = 0 then (fnd ks ks.length).2 else [] := rfl
        have hSS : foundS ks = if foundE ks = 0 then plainS ks.length else [] := rfl
        have hNX : nx = (fnd ks ks.length).1.length := HX.out
        rw [← hNX] at hE
        generalize fnd ks ks.length = st at *
        obtain ⟨ds, out⟩ := st
        simp only at fl1 fl2 hLL
        have hSt : RfSt w lv out wr := HS.out
        obtain ⟨XV, XC, rfl⟩ := own_slice hSt.own
        have HXX := Lib.hid hSt
        have f0 : wr.frozen? ⟨w.heap.size, 0, none⟩ = false := hSt.b0.frozen 0
        have f1 : wr.frozen? ⟨w.heap.size, 1, none⟩ = false := hSt.b0.frozen 1
        have e0 : wr.cell? ⟨w.heap.size, 0, none⟩ = some (.slice none 0 0) := hSt.b0.cell 0
        have e1 : wr.cell? ⟨w.heap.size, 1, none⟩ = some (.slice none 0 0) := hSt.b0.cell 1
        have d0 : wr.cell? ⟨w.heap.size + 1, 0, none⟩ = some (.slice XV out.length XC) := hSt.b1.cell 0
        have d1 : wr.cell? ⟨w.heap.size + 1, 1, none⟩ = some (.slice none 0 0) := hSt.b1.cell 1
        have d2 : wr.frozen? ⟨w.heap.size + 1, 1, none⟩ = false := hSt.b1.frozen 1
        have bw2 := hSt.b1.lt
        clear hSt HS hNX HX fl2 hxi
        by_cases h25 : 25 < nx
        · rw [if_pos h25] at hE
          rw [hE, if_neg (by decide)] at hLL hSS
          have HE := Lib.hid (And.intro hE (And.intro hLL hSS))
          clear hE hLL hSS fl1
          go_wp2
          have HF2 := (HXX.out.b0.set_ 0 (.slice none 0 0)).set_ 1 (.slice none 0 0)
          have g0 := HF2.cell 0
          have g1 := HF2.cell 1
          simp at g0 g1
          refine bodyPost_ret (v := .tuple #[.agg #[.slice none 0 0, .slice none 0 0], .int .i64 5]) (by simp [results, Try.results34, go_sem, g0, g1]) rfl ?_
          rw [HE.out.1, HE.out.2.1, HE.out.2.2]
          exact ⟨none, 0, none, 0, rfl, World.ownsRow_nil _ _ _ _, World.ownsRow_nil _ _ _ _, (HXX.out.below.setCell (by simp) _).setCell (by simp) _⟩
        · rw [if_neg h25] at hE
          rw [hE, if_pos rfl] at hLL hSS
          have HE := Lib.hid (And.intro hE (And.intro hLL hSS))
          have FL := Lib.hid fl1
          clear hE hLL hSS
          by_cases hn0 : ks.length = 0
          · have hps : plainS ks.length = [] := if_pos hn0
            have HPS := Lib.hid hps
            have hnb : decide (0 < n) = false := decide_eq_false (by have := HL.out; omega)
            have hnb2 : decide ((0 : Int) < (n : Int)) = false := decide_eq_false (by have := HL.out; omega)
            have hnn : n = 0 := by rw [← HL.out]; exact hn0
            clear hps hn0 fl1
            subst hnn
            go_wp2
            have HF2 := (HXX.out.b0.set_ 0 (.slice XV out.length XC)).set_ 1 (.slice none 0 0)
            have g0 := HF2.cell 0
            have g1 := HF2.cell 1
            simp at g0 g1
            refine bodyPost_ret (v := .tuple #[.agg #[.slice XV out.length XC, .slice none 0 0], .int .i64 0]) (by simp [results, Try.results34, go_sem, g0, g1]) rfl ?_
            rw [HE.out.1, HE.out.2.1, HE.out.2.2, HPS.out]
            exact ⟨XV, XC, none, 0, rfl, own_more (own_setCell (own_setCell HXX.out.own (by simp) _) (by simp) _) (by omega), World.ownsRow_nil _ _ _ _, (HXX.out.below.setCell (by simp) _).setCell (by simp) _⟩
          · have hps : plainS ks.length = [(ks.length : Int)] := if_neg hn0
            have HPS := Lib.hid hps
            have hnb : decide (0 < n) = true := decide_eq_true (by have := HL.out; omega)
            have hnb2 : decide ((0 : Int) < (n : Int)) = true := decide_eq_true (by have := HL.out; omega)
            have hn1 : 0 < n := by rw [← HL.out]; omega
            clear hps hn0 fl1
            go_upto_region 23 with (fail)
            refine wp_abs (fun wx => Blk wx w.heap.size 26 #[.slice none 0 0, .slice none 0 0] ∧ Blk wx (w.heap.size + 1) 26 #[.slice XV out.length XC, .slice (some ⟨wr.heap.size, 0, none⟩) 1 1] ∧ wx.ownsRow (w.heap.size + 2) 66 2 (.slice XV out.length XC) out.length (prs out) ∧ wx.ownsRow (w.heap.size + 2) 3 1 (.slice (some ⟨wr.heap.size, 0, none⟩) 1 1) 1 [.int .i64 n] ∧ Below w.heap.size w wx)
              ⟨(HXX.out.b0.far (by simp) _).alloc _, (HXX.out.b1.set_ 1 _).alloc _, (own_setCell HXX.out.own (by simp) _).alloc _, own_lit (blk_new_eq (by simp)) (by omega), ((HXX.out.below.setCell (by simp) _).alloc (by simpa using HXX.out.below.size) _)⟩ ?_
            clear e0 e1 f0 f1 d0 d1 d2
            rintro wx ⟨t0, t1, t2, t3, t4⟩
            have f0 : wx.frozen? ⟨w.heap.size, 0, none⟩ = false := t0.frozen 0
            have f1 : wx.frozen? ⟨w.heap.size, 1, none⟩ = false := t0.frozen 1
            have e0 : wx.cell? ⟨w.heap.size, 0, none⟩ = some (.slice none 0 0) := t0.cell 0
            have e1 : wx.cell? ⟨w.heap.size, 1, none⟩ = some (.slice none 0 0) := t0.cell 1
            have d0 : wx.cell? ⟨w.heap.size + 1, 0, none⟩ = some (.slice XV out.length XC) := t1.cell 0
            have d1 : wx.cell? ⟨w.heap.size + 1, 1, none⟩ = some (.slice (some ⟨wr.heap.size, 0, none⟩) 1 1) := t1.cell 1
            have HT := Lib.hid (And.intro t0 (And.intro t2 (And.intro t3 t4)))
            clear t0 t1 t2 t3 t4 HXX
            go_wp2
            have HF2 := (HT.out.1.set_ 0 (.slice XV out.length XC)).set_ 1 (.slice (some ⟨wr.heap.size, 0, none⟩) 1 1)
            have g0 := HF2.cell 0
            have g1 := HF2.cell 1
            simp at g0 g1
            refine bodyPost_ret (v := .tuple #[.agg #[.slice XV out.length XC, .slice (some ⟨wr.heap.size, 0, none⟩) 1 1], .int .i64 0]) (by simp [results, Try.results34, go_sem, g0, g1]) rfl ?_
            rw [HE.out.1, HE.out.2.1, HE.out.2.2, HPS.out, HL.out]
            exact ⟨XV, XC, _, _, rfl, own_more (own_setCell (own_setCell HT.out.2.1 (by simp) _) (by simp) _) (by omega), own_more (own_setCell (own_setCell HT.out.2.2.1 (by simp) _) (by simp) _) (by omega), (HT.out.2.2.2.setCell (by simp) _).setCell (by simp) _⟩
end Go.Proofs.Ytbjfbmienlojkaa
