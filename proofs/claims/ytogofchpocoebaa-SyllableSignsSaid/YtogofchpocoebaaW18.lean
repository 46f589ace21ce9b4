/- The law SyllableSigns, walked. -/
import Derived.Test.YtogofchpocoebaaW14
import Derived.Test.YtogofchpocoebaaW17
namespace Go.Proofs.Ytogofchpocoebaa
open Go.RowKit Go.Maps

theorem sg_more {L : List UInt8} {f p : Nat} (h : p < L.length) : sgGo L (f + 1) p = (if isSg ((Utf8.decode (bts L) p).1 : Int) then 1 else 0) + sgGo L f (p + (Utf8.decode (bts L) p).2) := by
  rw [dec_at]
  show (if p < L.length then _ else _) = _
  rw [if_pos h]
theorem sg_done {L : List UInt8} {f p : Nat} (h : ¬ p < L.length) : sgGo L f p = 0 := by
  cases f with
  | zero => rfl
  | succ f => show (if p < L.length then _ else _) = _; rw [if_neg h]

set_option maxHeartbeats 16000000 in
set_option maxRecDepth 100000 in
theorem syllableSigns_any (A D : Option Addr) (n c m d : Nat) (l : List Ph) (ss : List Sy) (w : World) (h : Rd w 0 w.heap.size 3 A n (phs l)) (h2 : Rd w 0 w.heap.size 5 D m (sys ss)) (hf : ∀ p ∈ l, fitP p) (hnc : n ≤ c) :
    Calls Try.prog 20 #[.slice A n c, .slice D m d] w fun e w' => e = .returned (.bool true) ∧ Below w.heap.size w w' := by
  have HF := Lib.hid hf
  have HL := Lib.hid (And.intro h.len_ph h2.len_sy)
  have H0 := Lib.hid (SbSt.mk (Below.refl w.heap.size w) h h2)
  clear hf h h2
  go_enter Try.func20, Try.ntmps20
  go_wp2_with fail
  refine (works11_any _).mono ?_
  rintro e w1 ⟨rfl, hb⟩
  have H1 := Lib.hid (H0.out.on hb)
  clear hb H0
  go_wp2_with fail
  refine (sprint_any A D n c m d 0 _ 0 _ l ss _ H1.out.r0 H1.out.r1 (Nat.le_refl _) (Nat.le_refl _) hnc HF.out).mono ?_
  rintro e w2 ⟨rfl, hb⟩
  have H2 := Lib.hid (H1.out.on hb)
  clear hb H1
  by_cases hM : mayF l ss = 0
  case neg =>
    have hMb : (mayF l ss != 0) = true := by simpa using hM
    have hMc : (mayF l ss == 0) = false := beq_eq_false_iff_ne.2 hM
    have hT : spT l ss = [] := if_neg hM
    have hE : bts (spT l ss) = ⟨#[]⟩ := by rw [hT]; rfl
    rw [hE]
    clear hE hT
    generalize mayF l ss = M at *
    clear hM
    go_wp2_with fail
    refine (works11_any _).mono ?_
    rintro e w3 ⟨rfl, hb⟩
    have H3 := Lib.hid (H2.out.on hb).below
    clear hb H2
    go_wp2
    go_ret
    exact ⟨rfl, H3.out⟩
  have hcnt := sg_count hM
  have hsp : spT l ss = spGo l 0 ss := if_pos hM
  rw [← hsp] at hcnt
  have hlen := spT_len (l := l) (ss := ss)
  have hs0 : 0 < ss.length := by
    rcases ss with _ | ⟨s, r⟩
    · exfalso
      unfold mayF at hM
      split at hM
      · cases hM
      · split at hM
        · rw [if_pos rfl] at hM; cases hM
        · cases hM
    · simp
  have hm64 := (may_fit hM).2.2
  rw [hM]
  clear hM hsp
  obtain ⟨b0, o0, hl0, eD, _, _, _, _, _, x3, _⟩ := H2.out.r1.sy (k := 0) (by have := HL.out.2; omega)
  clear x3
  have hgd : ss.getD 0 sy0 = ss[0] := by rw [List.getD_eq_getElem?_getD, List.getElem?_eq_getElem hl0]; rfl
  rw [hgd, HL.out.2] at hcnt
  rw [HL.out.2] at hm64 hs0
  generalize spT l ss = L at *
  have hTS : (bts L).size = L.length := bts_size L
  have hall : ∀ f p, p < (bts L).size → sgGo L (f + 1) p = (if isSg ((Utf8.decode (bts L) p).1 : Int) then 1 else 0) + sgGo L f (p + (Utf8.decode (bts L) p).2) := fun f p hp => sg_more (by omega)
  have hend : ∀ f p, ¬ p < (bts L).size → sgGo L f p = 0 := fun f p hp => sg_done (by omega)
  generalize hG : sgGo L (L.length + 1) 0 = G at *
  generalize bts L = T at *
  have HC := Lib.hid (And.intro hcnt (And.intro hG (And.intro hall (And.intro hend hTS))))
  clear hcnt hG hall hend hgd hTS
  go_wp2
  go_loopw [7, 9] (fun v7 _ wr => ∃ k : Nat, k ≤ 60000 ∧ v7 = .int .i64 k ∧ ∃ pos f : Nat, k ≤ pos ∧ Hid (k + sgGo L f pos = G ∧ T.size - pos < f ∧ Below w2.heap.size w2 wr ∧ wr.heap[w2.heap.size]? = some (.stringIter T pos))) (fun _ _ w' => T.size - w'.iterPos w2.heap.size)
  case atStart => exact ⟨0, by omega, rfl, 0, L.length + 1, by omega, Lib.hid ⟨by rw [HC.out.2.1]; omega, by have := HC.out.2.2.2.2; omega, iter_below _ _ _, World.iter_heap _ _ _⟩⟩
  case round =>
    obtain ⟨k, hk, rfl, pos, f, hkp, HR⟩ := hrel
    by_cases hp : pos < T.size
    · have hnx : ∀ ty, (Instr.next (.pointer (some ⟨w2.heap.size, 0, none⟩)) true ty).run Try.prog wr = _ := fun ty => Lib.run_next_any_at wr w2.heap.size T pos ty HR.out.2.2.2 hp
      obtain ⟨g, rfl⟩ : ∃ g, f = g + 1 := ⟨f - 1, by have := HR.out.2.1; omega⟩
      have hst := HC.out.2.2.1 g pos hp
      have hd := decode_le T pos
      have hw1 := width_pos T pos hp
      have hk6 : k < 60000 := by have := HC.out.2.2.2.2; omega
      generalize hdr : (Utf8.decode T pos).1 = r at *
      generalize hdw : (Utf8.decode T pos).2 = dw at *
      have HST := Lib.hid hst
      clear hst hdr hdw
      have hbe : Below w2.heap.size w2 (wr.iterAt w2.heap.size T (pos + dw)) := HR.out.2.2.1.trans ((Only.iterAt (S := fun b => b = w2.heap.size) (Only.refl _ wr) (.inl rfl) T _).below HR.out.2.2.1.size (fun b hlt e => by omega))
      have HBE := Lib.hid (And.intro hbe (Lib.iterAt_heap wr w2.heap.size T pos (pos + dw) HR.out.2.2.2))
      have HTL := Lib.hid HC.out.2.2.2.2
      clear hbe
      have hkw : IntKind.i64.wrap ((k : Int) + 1) = ((k + 1 : Nat) : Int) := IntWalk.i64_in _ (by omega)

      cases b1 : ((r : Int) == 46) with
      | true =>
        have HSG := Lib.hid (show isSg (r : Int) = true by unfold isSg; rw [b1]; rfl)
        go_wp2
        go_roundw
        case rel => exact ⟨k + 1, by omega, by go_num, pos + dw, g, by omega, Lib.hid ⟨by have h1 := HR.out.1; rw [HST.out, HSG.out, if_pos rfl] at h1; omega, by have h1 := HR.out.2.1; omega, HBE.out.1, HBE.out.2⟩⟩
        case measure => exact Nat.lt_of_le_of_lt (Nat.le_of_eq (congrArg (T.size - ·) (iterPos_of HBE.out.2))) (by rw [iterPos_of HR.out.2.2.2]; omega)
      | false =>
        cases b2 : ((r : Int) == 712) with
        | true =>
          have HSG := Lib.hid (show isSg (r : Int) = true by unfold isSg; rw [b1, b2]; rfl)
          go_wp2
          go_roundw
          case rel => exact ⟨k + 1, by omega, by go_num, pos + dw, g, by omega, Lib.hid ⟨by have h1 := HR.out.1; rw [HST.out, HSG.out, if_pos rfl] at h1; omega, by have h1 := HR.out.2.1; omega, HBE.out.1, HBE.out.2⟩⟩
          case measure => exact Nat.lt_of_le_of_lt (Nat.le_of_eq (congrArg (T.size - ·) (iterPos_of HBE.out.2))) (by rw [iterPos_of HR.out.2.2.2]; omega)
        | false =>
          cases b3 : ((r : Int) == 716) with
          | true =>
            have HSG := Lib.hid (show isSg (r : Int) = true by unfold isSg; rw [b1, b2, b3]; rfl)
            go_wp2
            go_roundw
            case rel => exact ⟨k + 1, by omega, by go_num, pos + dw, g, by omega, Lib.hid ⟨by have h1 := HR.out.1; rw [HST.out, HSG.out, if_pos rfl] at h1; omega, by have h1 := HR.out.2.1; omega, HBE.out.1, HBE.out.2⟩⟩
            case measure => exact Nat.lt_of_le_of_lt (Nat.le_of_eq (congrArg (T.size - ·) (iterPos_of HBE.out.2))) (by rw [iterPos_of HR.out.2.2.2]; omega)
          | false =>
            have HSG := Lib.hid (show isSg (r : Int) = false by unfold isSg; rw [b1, b2, b3]; rfl)
            go_wp2
            go_roundw
            case rel => exact ⟨k, by omega, rfl, pos + dw, g, by omega, Lib.hid ⟨by have h1 := HR.out.1; rw [HST.out, HSG.out, if_neg (by decide)] at h1; omega, by have h1 := HR.out.2.1; omega, HBE.out.1, HBE.out.2⟩⟩
            case measure => exact Nat.lt_of_le_of_lt (Nat.le_of_eq (congrArg (T.size - ·) (iterPos_of HBE.out.2))) (by rw [iterPos_of HR.out.2.2.2]; omega)
    · have hnx : ∀ ty, (Instr.next (.pointer (some ⟨w2.heap.size, 0, none⟩)) true ty).run Try.prog wr = _ := fun ty => Lib.run_next_end_at wr w2.heap.size T pos ty HR.out.2.2.2 hp
      have hkG : k = G := by have := HR.out.1; rw [HC.out.2.2.2.1 f pos hp] at this; omega
      subst hkG
      have HRR := Lib.hid (H2.out.on HR.out.2.2.1)
      obtain ⟨b, o, _, eD', _, _, _, _, _, x3, _⟩ := HRR.out.r1.sy (k := 0) (by omega)
      rw [eD] at eD'
      cases eD'
      subst eD
      have hkw : IntKind.i64.wrap ((k : Int) + 1) = ((k + 1 : Nat) : Int) := IntWalk.i64_in _ (by omega)
      have x3 : wr.cell? ⟨b0, o0 + 3, none⟩ = some (.int .i64 (ss[0]).st) := by simpa using x3
      have i2 : (0 : Int) < (m : Int) := by omega
      have hcs := HC.out.1
      generalize (ss[0]).st = st at *
      by_cases hst : st = 0
      · rw [if_pos hst] at hcs
        subst hst
        clear HR HC
        have hke : ((k + 1 : Nat) : Int) = (m : Int) := by omega
        clear hcs
        go_wp2_with fail
        refine (works11_any _).mono ?_
        rintro e w9 ⟨rfl, hb⟩
        have H9 := Lib.hid (HRR.out.on hb).below
        clear hb HRR
        go_wp2
        go_ret
        exact ⟨rfl, H9.out⟩
      · have hb0 : (st == 0) = false := beq_eq_false_iff_ne.2 hst
        rw [if_neg hst] at hcs
        clear HR HC hst
        have hke : k = m := by omega
        subst hke
        clear hcs
        go_wp2_with fail
        refine (works11_any _).mono ?_
        rintro e w9 ⟨rfl, hb⟩
        have H9 := Lib.hid (HRR.out.on hb).below
        clear hb HRR
        go_wp2
        go_ret
        exact ⟨rfl, H9.out⟩
end Go.Proofs.Ytogofchpocoebaa
