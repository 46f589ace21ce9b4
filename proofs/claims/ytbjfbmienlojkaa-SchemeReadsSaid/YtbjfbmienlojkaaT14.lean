/- canticleref16.Read: the walk. -/
import Derived.Test.YtbjfbmienlojkaaT13
namespace Go.Proofs.Ytbjfbmienlojkaa
open Go.RowKit

set_option maxHeartbeats 16000000 in
set_option maxRecDepth 100000 in
/-- canticleref16.Read: every text. -/
theorem refRead_any (s : ByteArray) (w : World) (hm : s.size ≤ maxLen) : Calls Try.prog 14 #[.string s] w (ResPost w (readF s)) := by
  unfold maxLen at hm
  rcases Nat.lt_or_ge 65536 s.size with hbig | hs
  · have hr : readF s = .bad 3 65536 := by unfold readF; rw [if_pos hbig]
    have HR := Lib.hid hr
    clear hr
    go_enter Try.func14, Try.ntmps14
    go_wp2
    refine bodyPost_ret (v := .tuple #[.agg #[.slice none 0 0, .slice none 0 0], .agg #[.int .i64 3, .int .i64 65536]]) (by simp [results, Try.results14, go_sem]) rfl ⟨?_, ?_⟩
    · exact ((Below.refl _ _).alloc (Nat.le_refl _) _).alloc (by simp) _
    · rw [HR.out]
  go_enter Try.func14, Try.ntmps14
  go_wp2
  refine wp_abs (RSt w [] [] (.slice none 0 0) (.slice none 0 0)) (rst_init w) ?_
  intro w1 H1
  have HH1 := Lib.hid H1
  clear H1
  have hr0 : s.size = 0 ∨ readF s = rdF (s.data.toList.drop 0) 0 0 [] [] := by
    by_cases h0 : s.size = 0
    · exact .inl h0
    · right; unfold readF; rw [if_neg (by omega), if_neg h0]; rfl
  have HR0 := Lib.hid hr0
  clear hr0
  go_loopw [5] (fun v wr => ∃ (i n : Nat) (ls : List (Int × Int)) (st : List Int) (v1 v2 : Value), i ≤ s.size ∧ v = .int .i64 i ∧ n ≤ i ∧ st.length ≤ i ∧ ls.length ≤ 512 ∧ ls.length ≤ i ∧ Hid (RSt w ls (if n = 0 then st else st ++ [(n : Int)]) v1 v2 wr ∧
      (n = 0 ↔ (i = 0 ∨ s.data.toList[i - 1]? = some 32)) ∧ (s.size = 0 ∨ readF s = rdF (s.data.toList.drop i) i n ls st))) (fun v _ => s.size - (intOf v).toNat)
  case atStart => exact ⟨0, 0, [], [], _, _, by omega, rfl, by omega, by simp, by simp, by simp, HH1.out, by simp, HR0.out⟩
  case round =>
    obtain ⟨i, n, ls, st, v1, v2, hi, rfl, hni, hsti, hls, hlsi, HX⟩ := hrel
    by_cases hlt : i < s.size
    · obtain ⟨c, hc⟩ : ∃ c, c = s[i] := ⟨_, rfl⟩
      have hrd : readF s = rdF (c :: s.data.toList.drop (i + 1)) i n ls st := by
        rw [HX.out.2.2.resolve_left (by omega), drop_at s.data.toList i (by simpa using hlt), hc]; rfl
      have HRD := Lib.hid hrd
      have HC := Lib.hid (show s.data.toList[i]? = some c by rw [hc]; rw [List.getElem?_eq_getElem (by simpa using hlt)]; rfl)
      clear hrd hc
      have hsp : i = 0 ∨ 0 < i := by omega
      by_cases h32 : c = 32
      · have hidx := run_index_at s i c HC.out i rfl
        have hc32 : ((c.toNat : Int) == 32) = true := by rw [h32]; rfl
        by_cases hn0 : n = 0
        · have hbad : readF s = .bad 160 i := by
            rw [HRD.out, rdF_cons, h32, hn0]; rfl
          have HTB := Lib.hid hbad
          have H := Lib.hid HX.out.1
          have hpr := HX.out.2.1.1 hn0
          clear hbad
          by_cases hi0 : i = 0
          · have hi0b : ((i : Int) == 0) = true := by rw [hi0]; rfl
            clear h32 hn0 hpr hi0
            go_wp2_with fail
            refine (wrong_any _ _ _).mono ?_
            rintro e9 w9 ⟨rfl, hb9⟩
            have H9 := Lib.hid (H.out.on hb9)
            clear hb9
            have b10 : w9.cell? ⟨w.heap.size, 0, none⟩ = some (.slice none 0 0) := H9.out.b0.cell 0
            have b11 : w9.cell? ⟨w.heap.size, 1, none⟩ = some (.slice none 0 0) := H9.out.b0.cell 1
            have b20 : w9.cell? ⟨w.heap.size + 1, 0, none⟩ = some (.int .i64 0) := H9.out.b1.cell 0
            have b21 : w9.cell? ⟨w.heap.size + 1, 1, none⟩ = some (.int .i64 0) := H9.out.b1.cell 1
            have f10 := H9.out.b0.frozen 0
            have f11 := H9.out.b0.frozen 1
            have f20 := H9.out.b1.frozen 0
            have f21 := H9.out.b1.frozen 1
            go_wp2
            refine bodyPost_ret (v := .tuple #[.agg #[.slice none 0 0, .slice none 0 0], .agg #[.int .i64 160, .int .i64 i]]) (by simp [results, Try.results14, go_sem, b10, b11, b20, b21]) rfl ⟨?_, ?_⟩
            · exact (((H9.out.below.setCell (by simp) _).setCell (by simp) _).setCell (by simp) _).setCell (by simp) _
            · rw [HTB.out]

          · have hi0b : ((i : Int) == 0) = false := by simp; omega
            have hpi := run_index_at s (i - 1) 32 (hpr.resolve_left hi0) ((i : Int) - 1) (by omega)
            clear h32 hn0 hpr hi0
            go_wp2_with fail
            refine (wrong_any _ _ _).mono ?_
            rintro e9 w9 ⟨rfl, hb9⟩
            have H9 := Lib.hid (H.out.on hb9)
            clear hb9
            have b10 : w9.cell? ⟨w.heap.size, 0, none⟩ = some (.slice none 0 0) := H9.out.b0.cell 0
            have b11 : w9.cell? ⟨w.heap.size, 1, none⟩ = some (.slice none 0 0) := H9.out.b0.cell 1
            have b20 : w9.cell? ⟨w.heap.size + 1, 0, none⟩ = some (.int .i64 0) := H9.out.b1.cell 0
            have b21 : w9.cell? ⟨w.heap.size + 1, 1, none⟩ = some (.int .i64 0) := H9.out.b1.cell 1
            have f10 := H9.out.b0.frozen 0
            have f11 := H9.out.b0.frozen 1
            have f20 := H9.out.b1.frozen 0
            have f21 := H9.out.b1.frozen 1
            go_wp2
            refine bodyPost_ret (v := .tuple #[.agg #[.slice none 0 0, .slice none 0 0], .agg #[.int .i64 160, .int .i64 i]]) (by simp [results, Try.results14, go_sem, b10, b11, b20, b21]) rfl ⟨?_, ?_⟩
            · exact (((H9.out.below.setCell (by simp) _).setCell (by simp) _).setCell (by simp) _).setCell (by simp) _
            · rw [HTB.out]

        · have hi0b : ((i : Int) == 0) = false := by
            have := HX.out.2.1
            simp; omega
          have hne : ¬ (i = 0 ∨ s.data.toList[i - 1]? = some 32) := fun hh => hn0 (HX.out.2.1.2 hh)
          obtain ⟨p, hp⟩ : ∃ p, s.data.toList[i - 1]? = some p := ⟨_, List.getElem?_eq_getElem (by simp; omega)⟩
          have hpb : ((p.toNat : Int) == 32) = false := by
            rw [beq_eq_false_iff_ne]
            intro hh
            exact hne (.inr (by rw [hp]; congr 1; exact UInt8.toNat.inj (by show p.toNat = 32; omega)))
          have hpi := run_index_at s (i - 1) p hp ((i : Int) - 1) (by omega)
          have hst : (if n = 0 then st else st ++ [(n : Int)]) = st ++ [(n : Int)] := if_neg hn0
          have hnx : readF s = rdF (s.data.toList.drop (i + 1)) (i + 1) 0 ls (st ++ [(n : Int)]) := by
            rw [HRD.out, rdF_cons, if_pos ⟨by rw [h32]; rfl, by omega⟩]
          have H := Lib.hid HX.out.1
          have HST := Lib.hid hst
          have HNX := Lib.hid hnx
          have H32 := Lib.hid h32
          clear hst hnx hne hp h32 hn0
          go_wp2
          go_roundw
          case rel => exact ⟨i + 1, 0, ls, st ++ [(n : Int)], v1, v2, by omega, by go_num, by omega, by simp; omega, hls, by omega, Lib.hid ⟨by rw [if_pos rfl, ← HST.out]; exact H.out, by simp [HC.out, H32.out], .inr HNX.out⟩⟩
          case measure => simp [intOf]; omega
      · have hidx := run_index_at s i c HC.out i rfl
        have hc32 : ((c.toNat : Int) == 32) = false := by
          rw [beq_eq_false_iff_ne]
          intro hh
          exact h32 (UInt8.toNat.inj (by show c.toNat = 32; omega))
        have H32 := Lib.hid h32
        clear h32
        by_cases hup : 65 ≤ c.toNat ∧ c.toNat ≤ 90
        · obtain ⟨hu1, hu2⟩ := hup
          have hu1' : (65 : Int) ≤ (c.toNat : Int) := by omega
          have hu2' : decide ((c.toNat : Int) ≤ 90) = true := by simp; omega
          have hcx : ((c.toNat : Int) == 120) = false := by rw [beq_eq_false_iff_ne]; omega
          have HSM := Lib.hid (show ((smallC c).toNat : Int) = (c.toNat : Int) - 65 + 97 from smallC_up c hu1 hu2)
          have HC0 := Lib.hid (show refCls c = clsF (lettersB.data.toList.drop 0) (0 : Nat) (smallC c) (-2) by unfold refCls; rw [if_neg (by rintro rfl; simp at hu2)]; rfl)
          have HUP := Lib.hid (isUp_of c hu1 hu2)
          go_wp2
          go_loopw [8, 9] (fun u v wq => ∃ (k : Nat) (cur : Int), k ≤ 25 ∧ u = .int .i64 cur ∧ v = .int .i64 k ∧ wr = wq ∧ Hid (refCls c = clsF (lettersB.data.toList.drop k) k (smallC c) cur)) (fun _ v _ => 25 - (intOf v).toNat)
          case atStart => exact ⟨0, _, by omega, rfl, rfl, rfl, HC0.out⟩
          case round =>
            obtain ⟨k, cur, hk, rfl, rfl, rfl, HK⟩ := hrel
            by_cases hk25 : k < 25
            · have hkl : lettersB.data.toList[k]? = some (lettersB.data.toList[k]'(show k < 25 from hk25)) := List.getElem?_eq_getElem _
              obtain ⟨q, hq⟩ : ∃ q, q = lettersB.data.toList[k]'(show k < 25 from hk25) := ⟨_, rfl⟩
              rw [← hq] at hkl
              have hdr : lettersB.data.toList.drop k = q :: lettersB.data.toList.drop (k + 1) := by rw [drop_at lettersB.data.toList k (show k < 25 from hk25), hq]
              have HKS := Lib.hid (show refCls c = clsF (lettersB.data.toList.drop (k + 1)) ((k : Int) + 1) (smallC c) (if q = smallC c then (k : Int) else cur) by rw [HK.out, hdr]; rfl)
              have hix : ∀ w, (Instr.index 9 (.string ⟨#[97, 98, 99, 100, 101, 102, 103, 104, 105, 106, 107, 108, 109, 110, 111, 112, 113, 114, 115, 116, 117, 118, 119, 121, 122]⟩) (.int .i64 (k : Int))).run Try.prog w = .ok (.int .u8 q.toNat) w := fun w => run_index_at lettersB k q hkl k rfl w
              clear hdr hkl hq
              by_cases hqe : q = smallC c
              · have hqb : ((q.toNat : Int) == ((c.toNat : Int) - 65 + 97)) = true := by rw [beq_iff_eq, hqe]; exact HSM.out
                have HQE := Lib.hid hqe
                clear hqe
                go_wp2
                go_roundw
                case rel => exact ⟨k + 1, k, by omega, by first | rfl | trivial, by go_num, by first | rfl | trivial, by rw [HKS.out, if_pos HQE.out]; rfl⟩
                case measure => simp [intOf]; omega
              · have hqb : ((q.toNat : Int) == ((c.toNat : Int) - 65 + 97)) = false := by
                  rw [beq_eq_false_iff_ne]
                  intro hh
                  exact hqe (UInt8.toNat.inj (by have := HSM.out; omega))
                have HQE := Lib.hid hqe
                clear hqe
                go_wp2
                go_roundw
                case rel => exact ⟨k + 1, cur, by omega, by first | rfl | trivial, by go_num, by first | rfl | trivial, by rw [HKS.out, if_neg HQE.out]; rfl⟩
                case measure => simp [intOf]; omega
            · have hcl : refCls c = cur := by rw [HK.out, List.drop_of_length_le (by show 25 ≤ k; omega)]; rfl
              have HCL := Lib.hid hcl
              clear hcl
              by_cases h2 : cur = -2
              · have hb := cls_ge c
                have hbad : readF s = .bad 160 i := by
                  have hcl := HCL.out
                  obtain ⟨g1, g2⟩ := hb.2.2 (by omega)
                  rw [HRD.out, rdF_cons, if_neg (by rintro ⟨h3, _⟩; exact H32.out (UInt8.toNat.inj h3)), if_neg g1, if_neg g2]
                have HTB := Lib.hid hbad
                have H := Lib.hid HX.out.1
                have h2b : (cur == -2) = true := by simpa using h2
                have H2 := Lib.hid h2
                clear hbad hb h2
                go_wp2_with fail
                refine (wrong_any _ _ _).mono ?_
                rintro e9 w9 ⟨rfl, hb9⟩
                have H9 := Lib.hid (H.out.on hb9)
                clear hb9
                have b10 : w9.cell? ⟨w.heap.size, 0, none⟩ = some (.slice none 0 0) := H9.out.b0.cell 0
                have b11 : w9.cell? ⟨w.heap.size, 1, none⟩ = some (.slice none 0 0) := H9.out.b0.cell 1
                have b20 : w9.cell? ⟨w.heap.size + 1, 0, none⟩ = some (.int .i64 0) := H9.out.b1.cell 0
                have b21 : w9.cell? ⟨w.heap.size + 1, 1, none⟩ = some (.int .i64 0) := H9.out.b1.cell 1
                have f10 := H9.out.b0.frozen 0
                have f11 := H9.out.b0.frozen 1
                have f20 := H9.out.b1.frozen 0
                have f21 := H9.out.b1.frozen 1
                go_wp2
                refine bodyPost_ret (v := .tuple #[.agg #[.slice none 0 0, .slice none 0 0], .agg #[.int .i64 160, .int .i64 i]]) (by simp [results, Try.results14, go_sem, b10, b11, b20, b21]) rfl ⟨?_, ?_⟩
                · exact (((H9.out.below.setCell (by simp) _).setCell (by simp) _).setCell (by simp) _).setCell (by simp) _
                · rw [HTB.out]

              · have h2b : (cur == -2) = false := by simpa using h2
                have hge := cls_ge c
                have hcl0 := HCL.out
                have hcur1 : -1 ≤ cur := by omega
                have hcur2 : cur ≤ 25 := by omega
                have hgood : (c.toNat = 120 ∨ 0 ≤ smallOf c.toNat) ∨ (¬ (c.toNat = 120 ∨ 0 ≤ smallOf c.toNat) ∧ 0 ≤ greatOf c.toNat) := by
                  by_cases a1 : c.toNat = 120 ∨ 0 ≤ smallOf c.toNat
                  · exact .inl a1
                  · by_cases a2 : 0 ≤ greatOf c.toNat
                    · exact .inr ⟨a1, a2⟩
                    · exact absurd (cls_none c a1 a2) (by rw [hcl0]; exact h2)
                have HG := Lib.hid hgood
                clear hge hcl0 hgood h2
                obtain ⟨A1, C1, rfl⟩ := own_slice HX.out.1.o1
                obtain ⟨A2, C2, rfl⟩ := own_slice HX.out.1.o2
                have c20 : wr.cell? ⟨w.heap.size + 1 + 1, 0, none⟩ = some (.slice A1 ls.length C1) := HX.out.1.b2.cell 0
                by_cases h512 : ls.length = 512
                · have hbad : readF s = .bad 3 i := by
                    rw [HRD.out, rdF_cons, if_neg (by rintro ⟨h3, _⟩; exact H32.out (UInt8.toNat.inj h3))]
                    rcases HG.out with a1 | ⟨a1, a2⟩
                    · rw [if_pos a1, if_pos h512]
                    · rw [if_neg a1, if_pos a2]; unfold grF; rw [if_pos h512]
                  have HTB := Lib.hid hbad
                  have H := Lib.hid HX.out.1
                  clear hbad
                  go_wp2_with fail
                  refine (wrong_any _ _ _).mono ?_
                  rintro e9 w9 ⟨rfl, hb9⟩
                  have H9 := Lib.hid (H.out.on hb9)
                  clear hb9
                  have b10 : w9.cell? ⟨w.heap.size, 0, none⟩ = some (.slice none 0 0) := H9.out.b0.cell 0
                  have b11 : w9.cell? ⟨w.heap.size, 1, none⟩ = some (.slice none 0 0) := H9.out.b0.cell 1
                  have b20 : w9.cell? ⟨w.heap.size + 1, 0, none⟩ = some (.int .i64 0) := H9.out.b1.cell 0
                  have b21 : w9.cell? ⟨w.heap.size + 1, 1, none⟩ = some (.int .i64 0) := H9.out.b1.cell 1
                  have f10 := H9.out.b0.frozen 0
                  have f11 := H9.out.b0.frozen 1
                  have f20 := H9.out.b1.frozen 0
                  have f21 := H9.out.b1.frozen 1
                  go_wp2
                  refine bodyPost_ret (v := .tuple #[.agg #[.slice none 0 0, .slice none 0 0], .agg #[.int .i64 3, .int .i64 i]]) (by simp [results, Try.results14, go_sem, b10, b11, b20, b21]) rfl ⟨?_, ?_⟩
                  · exact (((H9.out.below.setCell (by simp) _).setCell (by simp) _).setCell (by simp) _).setCell (by simp) _
                  · rw [HTB.out]

                · have h512b : ((ls.length : Int) == 512) = false := by rw [beq_eq_false_iff_ne]; omega
                  have H512 := Lib.hid h512
                  clear h512
                  have hsplit : (n = 0 ∧ i = 0) ∨ (n = 0 ∧ 0 < i) ∨ 0 < n := by omega
                  have hinfo : (Try.prog.info? 3).map (fun i => (i.zero, i.size, i.bytes)) = some (some (.int .i64 0), 1, 8) := by kernel_rfl
                  obtain ⟨i0, hi0, hz0, hz1, hz2⟩ := info_parts hinfo
                  have HI := Lib.hid (And.intro hi0 (And.intro hz0 (And.intro hz1 hz2)))
                  clear hinfo hi0 hz0 hz1 hz2
                  rcases hsplit with hn0 | hn0 | hn0
                  case' inl =>
                    have hi0b : ((i : Int) == 0) = true := by rw [hn0.2]; rfl
                    have HP0 := Lib.hid hn0.1
                    have HS := Lib.hid (show RSt w ls st (.slice A1 ls.length C1) (.slice A2 st.length C2) wr by have := HX.out.1; simp only [if_pos HP0.out] at this; exact this)
                    have c21 : wr.cell? ⟨w.heap.size + 1 + 1, 1, none⟩ = some (.slice A2 st.length C2) := HS.out.b2.cell 1
                    clear hn0
                    go_upto_region 28 with (at_builtin; refine wpList_append_own _ rfl _ _ 24 rfl (w.heap.size + 3) 3 i0 (.int .i64 0) 1 8 Try.underlying24 HI.out.1 HI.out.2.1 HI.out.2.2.1 HI.out.2.2.2 rfl (by decide) _ _ _ rfl (HS.out.o2.alloc _) ⟨wr.heap.size, 0, none⟩ 1 1 [.int .i64 0] rfl rfl (cell_one_new _ _ _) (by intro u hu; simp at hu; subst hu; rfl) (by unfold maxLen; omega) (by omega) (by have := HS.out.b2.lt; simp; omega) ?_)
                    intro v' w4 hown' hgrow _
                    have hrow : ∀ k, (Value.slice A2 st.length C2).ownBlock = some k → w.heap.size + 3 ≤ k := fun k hk => (HS.out.o2.lt k hk).1
                    have hmid := HS.out.mid _ hrow _ hgrow
                    have g1 : w4.cell? ⟨w.heap.size + 1 + 1, 1, none⟩ = some (.slice A2 st.length C2) := hmid.cell 1
                    have g2 : w4.frozen? ⟨w.heap.size + 1 + 1, 1, none⟩ = false := hmid.frozen 1
                    have H4 := Lib.hid (HS.out.put (ls' := ls) (st' := st ++ [(n : Int)]) _ hrow _ hgrow 1 v' rfl ((HS.out.o1.alloc _).kept hgrow (own_ne HS.out.o1 HS.out.o2 (by decide))) (by rw [HP0.out]; simpa using hown'))
                    obtain ⟨A3, C3, rfl⟩ := own_slice hown'
                    clear hown' hgrow hmid hrow
                    go_upto_region 28 with (fail)
                    refine wp_abs (fun wz => ∃ g C, RSt w ls (st ++ [(n : Int)]) (.slice A1 ls.length C1) (.slice (some ⟨g, 0, none⟩) (st.length + 1) C) wz) (some_slice H4.out) ?_
                    clear g1 g2 c21
                  case' inr.inl =>
                    have hi0b : ((i : Int) == 0) = false := by rw [beq_eq_false_iff_ne]; omega
                    have hpi := run_index_at s (i - 1) 32 ((HX.out.2.1.1 hn0.1).resolve_left (by omega)) ((i : Int) - 1) (by omega)
                    have HP0 := Lib.hid hn0.1
                    have HS := Lib.hid (show RSt w ls st (.slice A1 ls.length C1) (.slice A2 st.length C2) wr by have := HX.out.1; simp only [if_pos HP0.out] at this; exact this)
                    have c21 : wr.cell? ⟨w.heap.size + 1 + 1, 1, none⟩ = some (.slice A2 st.length C2) := HS.out.b2.cell 1
                    clear hn0
                    go_upto_region 28 with (at_builtin; refine wpList_append_own _ rfl _ _ 24 rfl (w.heap.size + 3) 3 i0 (.int .i64 0) 1 8 Try.underlying24 HI.out.1 HI.out.2.1 HI.out.2.2.1 HI.out.2.2.2 rfl (by decide) _ _ _ rfl (HS.out.o2.alloc _) ⟨wr.heap.size, 0, none⟩ 1 1 [.int .i64 0] rfl rfl (cell_one_new _ _ _) (by intro u hu; simp at hu; subst hu; rfl) (by unfold maxLen; omega) (by omega) (by have := HS.out.b2.lt; simp; omega) ?_)
                    intro v' w4 hown' hgrow _
                    have hrow : ∀ k, (Value.slice A2 st.length C2).ownBlock = some k → w.heap.size + 3 ≤ k := fun k hk => (HS.out.o2.lt k hk).1
                    have hmid := HS.out.mid _ hrow _ hgrow
                    have g1 : w4.cell? ⟨w.heap.size + 1 + 1, 1, none⟩ = some (.slice A2 st.length C2) := hmid.cell 1
                    have g2 : w4.frozen? ⟨w.heap.size + 1 + 1, 1, none⟩ = false := hmid.frozen 1
                    have H4 := Lib.hid (HS.out.put (ls' := ls) (st' := st ++ [(n : Int)]) _ hrow _ hgrow 1 v' rfl ((HS.out.o1.alloc _).kept hgrow (own_ne HS.out.o1 HS.out.o2 (by decide))) (by rw [HP0.out]; simpa using hown'))
                    obtain ⟨A3, C3, rfl⟩ := own_slice hown'
                    clear hown' hgrow hmid hrow
                    go_upto_region 28 with (fail)
                    refine wp_abs (fun wz => ∃ g C, RSt w ls (st ++ [(n : Int)]) (.slice A1 ls.length C1) (.slice (some ⟨g, 0, none⟩) (st.length + 1) C) wz) (some_slice H4.out) ?_
                    clear g1 g2 c21
                  case' inr.inr =>
                    have hi0b : ((i : Int) == 0) = false := by
                      have := HX.out.2.1
                      rw [beq_eq_false_iff_ne]; omega
                    have hne : ¬ (i = 0 ∨ s.data.toList[i - 1]? = some 32) := fun hh => by have := HX.out.2.1.2 hh; omega
                    obtain ⟨p, hp⟩ : ∃ p, s.data.toList[i - 1]? = some p := ⟨_, List.getElem?_eq_getElem (by simp; omega)⟩
                    have hpb : ((p.toNat : Int) == 32) = false := by
                      rw [beq_eq_false_iff_ne]
                      intro hh
                      exact hne (.inr (by rw [hp]; congr 1; exact UInt8.toNat.inj (by show p.toNat = 32; omega)))
                    have hpi := run_index_at s (i - 1) p hp ((i : Int) - 1) (by omega)
                    have HS := Lib.hid (show RSt w ls (st ++ [(n : Int)]) (.slice A1 ls.length C1) (.slice A2 _ C2) wr by have := HX.out.1; rw [if_neg (by omega)] at this; exact this)
                    clear hne hp hn0
                    go_upto_region 28 with (fail)
                    refine wp_abs (fun wz => ∃ g C, RSt w ls (st ++ [(n : Int)]) (.slice A1 ls.length C1) (.slice (some ⟨g, 0, none⟩) (st.length + 1) C) wz) (some_slice HS.out) ?_
                  all_goals
                    clear c20
                    rintro wz ⟨g, C, hz⟩
                    have HZ := Lib.hid hz
                    have c20 : wz.cell? ⟨w.heap.size + 1 + 1, 0, none⟩ = some (.slice A1 ls.length C1) := hz.b2.cell 0
                    have hzz : w.heap.size + 1 + 1 < wz.heap.size := hz.b2.lt
                    clear hz
                    have hgr : ¬ (c.toNat = 120 ∨ 0 ≤ smallOf c.toNat) ∧ 0 ≤ greatOf c.toNat := HG.out.resolve_left (fun hh => by have := (cls_small c hh).2; rw [HUP.out] at this; cases this)
                    have hcg : greatOf c.toNat = cur := by rw [← HCL.out]; exact (cls_great c hgr.1 hgr.2).1.symm
                    have hg : readF s = grF c.toNat (s.data.toList.drop (i + 1)) i n ls st := by
                      rw [HRD.out, rdF_cons, if_neg (by rintro ⟨h3, _⟩; exact H32.out (UInt8.toNat.inj h3)), if_neg hgr.1, if_pos hgr.2]
                    have HCG := Lib.hid hcg
                    have HGG := Lib.hid hg
                    clear hgr hcg hg
                    by_cases hend : i + 1 = s.size
                    · have hendb : ((i : Int) + 1 == (s.size : Int)) = true := by rw [beq_iff_eq]; omega
                      have hbad : readF s = .bad 160 ((i : Int) + 1) := by rw [HGG.out, List.drop_of_length_le (by simp; omega)]; unfold grF; rw [if_neg H512.out]; rfl
                      have HTB := Lib.hid hbad
                      clear hbad hend
                      go_wp2_with fail
                      refine (wrong_any _ _ _).mono ?_
                      rintro e9 w9 ⟨rfl, hb9⟩
                      have H9 := Lib.hid ((HZ.out.alloc _).on hb9)
                      clear hb9
                      have b10 : w9.cell? ⟨w.heap.size, 0, none⟩ = some (.slice none 0 0) := H9.out.b0.cell 0
                      have b11 : w9.cell? ⟨w.heap.size, 1, none⟩ = some (.slice none 0 0) := H9.out.b0.cell 1
                      have b20 : w9.cell? ⟨w.heap.size + 1, 0, none⟩ = some (.int .i64 0) := H9.out.b1.cell 0
                      have b21 : w9.cell? ⟨w.heap.size + 1, 1, none⟩ = some (.int .i64 0) := H9.out.b1.cell 1
                      have f10 := H9.out.b0.frozen 0
                      have f11 := H9.out.b0.frozen 1
                      have f20 := H9.out.b1.frozen 0
                      have f21 := H9.out.b1.frozen 1
                      go_wp2
                      refine bodyPost_ret (v := .tuple #[.agg #[.slice none 0 0, .slice none 0 0], .agg #[.int .i64 160, .int .i64 ((i : Int) + 1)]]) (by simp [results, Try.results14, go_sem, b10, b11, b20, b21]) rfl ⟨?_, ?_⟩
                      · exact (((H9.out.below.setCell (by simp) _).setCell (by simp) _).setCell (by simp) _).setCell (by simp) _
                      · rw [HTB.out]

                    · have hendb : ((i : Int) + 1 == (s.size : Int)) = false := by rw [beq_eq_false_iff_ne]; omega
                      have hlt2 : i + 1 < s.size := by omega
                      obtain ⟨d, hd⟩ : ∃ d, s.data.toList[i + 1]? = some d := ⟨_, List.getElem?_eq_getElem (by simp; omega)⟩
                      have hidx2 := run_index_at s (i + 1) d hd ((i : Int) + 1) (by omega)
                      have hg2 : readF s = if d.toNat < 49 ∨ 57 < d.toNat then .bad 160 (i + 1 : Nat) else rdF (s.data.toList.drop (i + 2)) (i + 2) (n + 1) (ls ++ [(cur, (d.toNat : Int) - 48)]) st := by
                        rw [HGG.out, ← HCG.out]
                        have hdd : s.data.toList.drop (i + 1) = d :: s.data.toList.drop (i + 2) := by
                          rw [drop_at s.data.toList (i + 1) (by simp; omega)]
                          congr 1
                          rw [List.getElem?_eq_getElem (by simp; omega)] at hd
                          injection hd
                        rw [hdd]; unfold grF; rw [if_neg H512.out]
                      have HG2 := Lib.hid hg2
                      have HD := Lib.hid hd
                      clear hend hg2 hd
                      by_cases hdig : d.toNat < 49 ∨ 57 < d.toNat
                      · have hbad : readF s = .bad 160 ((i : Int) + 1) := by rw [HG2.out, if_pos hdig]; rfl
                        have HTB := Lib.hid hbad
                        clear hbad
                        by_cases hd1 : (d.toNat : Int) < 49
                        · clear hdig
                          go_wp2_with fail
                          refine (wrong_any _ _ _).mono ?_
                          rintro e9 w9 ⟨rfl, hb9⟩
                          have H9 := Lib.hid ((HZ.out.alloc _).on hb9)
                          clear hb9
                          have b10 : w9.cell? ⟨w.heap.size, 0, none⟩ = some (.slice none 0 0) := H9.out.b0.cell 0
                          have b11 : w9.cell? ⟨w.heap.size, 1, none⟩ = some (.slice none 0 0) := H9.out.b0.cell 1
                          have b20 : w9.cell? ⟨w.heap.size + 1, 0, none⟩ = some (.int .i64 0) := H9.out.b1.cell 0
                          have b21 : w9.cell? ⟨w.heap.size + 1, 1, none⟩ = some (.int .i64 0) := H9.out.b1.cell 1
                          have f10 := H9.out.b0.frozen 0
                          have f11 := H9.out.b0.frozen 1
                          have f20 := H9.out.b1.frozen 0
                          have f21 := H9.out.b1.frozen 1
                          go_wp2
                          refine bodyPost_ret (v := .tuple #[.agg #[.slice none 0 0, .slice none 0 0], .agg #[.int .i64 160, .int .i64 ((i : Int) + 1)]]) (by simp [results, Try.results14, go_sem, b10, b11, b20, b21]) rfl ⟨?_, ?_⟩
                          · exact (((H9.out.below.setCell (by simp) _).setCell (by simp) _).setCell (by simp) _).setCell (by simp) _
                          · rw [HTB.out]

                        · have hd2 : (57 : Int) < (d.toNat : Int) := by omega
                          clear hdig
                          go_wp2_with fail
                          refine (wrong_any _ _ _).mono ?_
                          rintro e9 w9 ⟨rfl, hb9⟩
                          have H9 := Lib.hid ((HZ.out.alloc _).on hb9)
                          clear hb9
                          have b10 : w9.cell? ⟨w.heap.size, 0, none⟩ = some (.slice none 0 0) := H9.out.b0.cell 0
                          have b11 : w9.cell? ⟨w.heap.size, 1, none⟩ = some (.slice none 0 0) := H9.out.b0.cell 1
                          have b20 : w9.cell? ⟨w.heap.size + 1, 0, none⟩ = some (.int .i64 0) := H9.out.b1.cell 0
                          have b21 : w9.cell? ⟨w.heap.size + 1, 1, none⟩ = some (.int .i64 0) := H9.out.b1.cell 1
                          have f10 := H9.out.b0.frozen 0
                          have f11 := H9.out.b0.frozen 1
                          have f20 := H9.out.b1.frozen 0
                          have f21 := H9.out.b1.frozen 1
                          go_wp2
                          refine bodyPost_ret (v := .tuple #[.agg #[.slice none 0 0, .slice none 0 0], .agg #[.int .i64 160, .int .i64 ((i : Int) + 1)]]) (by simp [results, Try.results14, go_sem, b10, b11, b20, b21]) rfl ⟨?_, ?_⟩
                          · exact (((H9.out.below.setCell (by simp) _).setCell (by simp) _).setCell (by simp) _).setCell (by simp) _
                          · rw [HTB.out]

                      · have hd1 : (49 : Int) ≤ (d.toNat : Int) := by omega
                        have hd2 : (d.toNat : Int) ≤ 57 := by omega
                        have HNX := Lib.hid (show readF s = rdF (s.data.toList.drop (i + 2)) (i + 2) (n + 1) (ls ++ [(cur, (d.toNat : Int) - 48)]) st by rw [HG2.out, if_neg hdig])
                        clear hdig
                        have hinfo : (Try.prog.info? 66).map (fun i => (i.zero, i.size, i.bytes)) = some (some (.agg #[.int .i64 0, .int .i64 0]), 2, 16) := by kernel_rfl
                        obtain ⟨j0, hj, jz0, jz1, jz2⟩ := info_parts hinfo
                        clear hinfo
                        go_wp2_with (at_builtin; refine wpList_append_own _ rfl _ _ 23 rfl (w.heap.size + 3) 66 j0 (.agg #[.int .i64 0, .int .i64 0]) 2 16 Try.underlying23 hj jz0 jz1 jz2 rfl (by decide) _ _ _ rfl ((HZ.out.o1.alloc _).alloc _) ⟨wz.heap.size + 1, 0, none⟩ 1 1 [.int .i64 cur, .int .i64 ((d.toNat : Int) - 48)] rfl rfl ?_ ?_ ?_ ?_ ?_ ?_)
                        · intro j u hj
                          match j, hj with
                          | 0, hj => simp at hj; subst hj; simp [Addr.add]
                          | 1, hj => simp at hj; subst hj; simp [Addr.add]
                        · intro u hu; simp at hu; rcases hu with rfl | rfl <;> rfl
                        · unfold maxLen; have := H512.out; omega
                        · have := H512.out; omega
                        · have := HZ.out.b2.lt; simp; omega
                        · intro v' w4 hown' hgrow _
                          have hrow : ∀ k, (Value.slice A1 ls.length C1).ownBlock = some k → w.heap.size + 3 ≤ k := fun k hk => (HZ.out.o1.lt k hk).1
                          have hmid := (HZ.out.alloc _).mid _ hrow _ hgrow
                          have g0 : w4.cell? ⟨w.heap.size + 1 + 1, 0, none⟩ = some (.slice A1 ls.length C1) := hmid.cell 0
                          have g2 : w4.frozen? ⟨w.heap.size + 1 + 1, 0, none⟩ = false := hmid.frozen 0
                          have H4 := Lib.hid ((HZ.out.alloc _).put (ls' := ls ++ [(cur, ((d.toNat : Int) - 48))]) (st' := st ++ [(n : Int)]) _ hrow _ hgrow 0 v' rfl (by simpa [prs] using hown') (((HZ.out.o2.alloc _).alloc _).kept hgrow (own_ne (HZ.out.o2) (HZ.out.o1) (by decide))))
                          obtain ⟨A3, C3, rfl⟩ := own_slice hown'
                          clear hown' hgrow hmid hrow hj jz0 jz1 jz2
                          go_wp2_with (refine list_abs (RSt w (ls ++ [(cur, ((d.toNat : Int) - 48))]) (st ++ [(n : Int)]) _ (.slice (some ⟨g, 0, none⟩) (st.length + 1) C)) H4.out ?_)
                          intro w5 h5
                          clear g0 g2 H4
                          have c21 : w5.cell? ⟨w.heap.size + 1 + 1, 1, none⟩ = some (.slice (some ⟨g, 0, none⟩) (st.length + 1) C) := h5.b2.cell 1
                          obtain ⟨q1, q2⟩ := last_cell h5.o2
                          have HB := Lib.hid (h5.bump ((n : Int) + 1))
                          clear h5
                          go_wp2
                          go_roundw
                          case rel => exact ⟨i + 2, n + 1, ls ++ [(cur, ((d.toNat : Int) - 48))], st, _, _, by omega, by go_num, by omega, by omega, by have := H512.out; simp; omega, by simp; omega, Lib.hid ⟨by rw [if_neg (by omega)]; exact HB.out, ⟨fun hh => absurd hh (by omega), fun hh => by
                              rcases hh with hh | hh
                              · omega
                              · (rw [show i + 2 - 1 = i + 1 by omega, HD.out] at hh; injection hh with hh; subst hh; simp at hd1)⟩, .inr HNX.out⟩⟩
                          case measure => simp [intOf]; omega

        · have HUP := Lib.hid (isUp_not c hup)
          have hsc := smallC_not c hup
          have HSM := Lib.hid (show ((smallC c).toNat : Int) = (c.toNat : Int) by rw [hsc])
          by_cases hx : c = 120
          · have hcx : ((c.toNat : Int) == 120) = true := by rw [hx]; rfl
            have hu1 : (65 : Int) ≤ (c.toNat : Int) := by rw [hx]; decide
            have hu2 : (90 : Int) < (c.toNat : Int) := by rw [hx]; decide
            have HC0 := Lib.hid (show refCls c = clsF (lettersB.data.toList.drop 0) (0 : Nat) (smallC c) (-1) by unfold refCls; rw [if_pos hx]; rfl)
            clear hx hsc hup
            go_wp2
            go_loopw [8, 9] (fun u v wq => ∃ (k : Nat) (cur : Int), k ≤ 25 ∧ u = .int .i64 cur ∧ v = .int .i64 k ∧ wr = wq ∧ Hid (refCls c = clsF (lettersB.data.toList.drop k) k (smallC c) cur)) (fun _ v _ => 25 - (intOf v).toNat)
            case atStart => exact ⟨0, _, by omega, rfl, rfl, rfl, HC0.out⟩
            case round =>
              obtain ⟨k, cur, hk, rfl, rfl, rfl, HK⟩ := hrel
              by_cases hk25 : k < 25
              · have hkl : lettersB.data.toList[k]? = some (lettersB.data.toList[k]'(show k < 25 from hk25)) := List.getElem?_eq_getElem _
                obtain ⟨q, hq⟩ : ∃ q, q = lettersB.data.toList[k]'(show k < 25 from hk25) := ⟨_, rfl⟩
                rw [← hq] at hkl
                have hdr : lettersB.data.toList.drop k = q :: lettersB.data.toList.drop (k + 1) := by rw [drop_at lettersB.data.toList k (show k < 25 from hk25), hq]
                have HKS := Lib.hid (show refCls c = clsF (lettersB.data.toList.drop (k + 1)) ((k : Int) + 1) (smallC c) (if q = smallC c then (k : Int) else cur) by rw [HK.out, hdr]; rfl)
                have hix : ∀ w, (Instr.index 9 (.string ⟨#[97, 98, 99, 100, 101, 102, 103, 104, 105, 106, 107, 108, 109, 110, 111, 112, 113, 114, 115, 116, 117, 118, 119, 121, 122]⟩) (.int .i64 (k : Int))).run Try.prog w = .ok (.int .u8 q.toNat) w := fun w => run_index_at lettersB k q hkl k rfl w
                clear hdr hkl hq
                by_cases hqe : q = smallC c
                · have hqb : ((q.toNat : Int) == (c.toNat : Int)) = true := by rw [beq_iff_eq, hqe]; exact HSM.out
                  have HQE := Lib.hid hqe
                  clear hqe
                  go_wp2
                  go_roundw
                  case rel => exact ⟨k + 1, k, by omega, by first | rfl | trivial, by go_num, by first | rfl | trivial, by rw [HKS.out, if_pos HQE.out]; rfl⟩
                  case measure => simp [intOf]; omega
                · have hqb : ((q.toNat : Int) == (c.toNat : Int)) = false := by
                    rw [beq_eq_false_iff_ne]
                    intro hh
                    exact hqe (UInt8.toNat.inj (by have := HSM.out; omega))
                  have HQE := Lib.hid hqe
                  clear hqe
                  go_wp2
                  go_roundw
                  case rel => exact ⟨k + 1, cur, by omega, by first | rfl | trivial, by go_num, by first | rfl | trivial, by rw [HKS.out, if_neg HQE.out]; rfl⟩
                  case measure => simp [intOf]; omega
              · have hcl : refCls c = cur := by rw [HK.out, List.drop_of_length_le (by show 25 ≤ k; omega)]; rfl
                have HCL := Lib.hid hcl
                clear hcl
                by_cases h2 : cur = -2
                · have hb := cls_ge c
                  have hbad : readF s = .bad 160 i := by
                    have hcl := HCL.out
                    obtain ⟨g1, g2⟩ := hb.2.2 (by omega)
                    rw [HRD.out, rdF_cons, if_neg (by rintro ⟨h3, _⟩; exact H32.out (UInt8.toNat.inj h3)), if_neg g1, if_neg g2]
                  have HTB := Lib.hid hbad
                  have H := Lib.hid HX.out.1
                  have h2b : (cur == -2) = true := by simpa using h2
                  have H2 := Lib.hid h2
                  clear hbad hb h2
                  go_wp2_with fail
                  refine (wrong_any _ _ _).mono ?_
                  rintro e9 w9 ⟨rfl, hb9⟩
                  have H9 := Lib.hid (H.out.on hb9)
                  clear hb9
                  have b10 : w9.cell? ⟨w.heap.size, 0, none⟩ = some (.slice none 0 0) := H9.out.b0.cell 0
                  have b11 : w9.cell? ⟨w.heap.size, 1, none⟩ = some (.slice none 0 0) := H9.out.b0.cell 1
                  have b20 : w9.cell? ⟨w.heap.size + 1, 0, none⟩ = some (.int .i64 0) := H9.out.b1.cell 0
                  have b21 : w9.cell? ⟨w.heap.size + 1, 1, none⟩ = some (.int .i64 0) := H9.out.b1.cell 1
                  have f10 := H9.out.b0.frozen 0
                  have f11 := H9.out.b0.frozen 1
                  have f20 := H9.out.b1.frozen 0
                  have f21 := H9.out.b1.frozen 1
                  go_wp2
                  refine bodyPost_ret (v := .tuple #[.agg #[.slice none 0 0, .slice none 0 0], .agg #[.int .i64 160, .int .i64 i]]) (by simp [results, Try.results14, go_sem, b10, b11, b20, b21]) rfl ⟨?_, ?_⟩
                  · exact (((H9.out.below.setCell (by simp) _).setCell (by simp) _).setCell (by simp) _).setCell (by simp) _
                  · rw [HTB.out]

                · have h2b : (cur == -2) = false := by simpa using h2
                  have hge := cls_ge c
                  have hcl0 := HCL.out
                  have hcur1 : -1 ≤ cur := by omega
                  have hcur2 : cur ≤ 25 := by omega
                  have hgood : (c.toNat = 120 ∨ 0 ≤ smallOf c.toNat) ∨ (¬ (c.toNat = 120 ∨ 0 ≤ smallOf c.toNat) ∧ 0 ≤ greatOf c.toNat) := by
                    by_cases a1 : c.toNat = 120 ∨ 0 ≤ smallOf c.toNat
                    · exact .inl a1
                    · by_cases a2 : 0 ≤ greatOf c.toNat
                      · exact .inr ⟨a1, a2⟩
                      · exact absurd (cls_none c a1 a2) (by rw [hcl0]; exact h2)
                  have HG := Lib.hid hgood
                  clear hge hcl0 hgood h2
                  obtain ⟨A1, C1, rfl⟩ := own_slice HX.out.1.o1
                  obtain ⟨A2, C2, rfl⟩ := own_slice HX.out.1.o2
                  have c20 : wr.cell? ⟨w.heap.size + 1 + 1, 0, none⟩ = some (.slice A1 ls.length C1) := HX.out.1.b2.cell 0
                  by_cases h512 : ls.length = 512
                  · have hbad : readF s = .bad 3 i := by
                      rw [HRD.out, rdF_cons, if_neg (by rintro ⟨h3, _⟩; exact H32.out (UInt8.toNat.inj h3))]
                      rcases HG.out with a1 | ⟨a1, a2⟩
                      · rw [if_pos a1, if_pos h512]
                      · rw [if_neg a1, if_pos a2]; unfold grF; rw [if_pos h512]
                    have HTB := Lib.hid hbad
                    have H := Lib.hid HX.out.1
                    clear hbad
                    go_wp2_with fail
                    refine (wrong_any _ _ _).mono ?_
                    rintro e9 w9 ⟨rfl, hb9⟩
                    have H9 := Lib.hid (H.out.on hb9)
                    clear hb9
                    have b10 : w9.cell? ⟨w.heap.size, 0, none⟩ = some (.slice none 0 0) := H9.out.b0.cell 0
                    have b11 : w9.cell? ⟨w.heap.size, 1, none⟩ = some (.slice none 0 0) := H9.out.b0.cell 1
                    have b20 : w9.cell? ⟨w.heap.size + 1, 0, none⟩ = some (.int .i64 0) := H9.out.b1.cell 0
                    have b21 : w9.cell? ⟨w.heap.size + 1, 1, none⟩ = some (.int .i64 0) := H9.out.b1.cell 1
                    have f10 := H9.out.b0.frozen 0
                    have f11 := H9.out.b0.frozen 1
                    have f20 := H9.out.b1.frozen 0
                    have f21 := H9.out.b1.frozen 1
                    go_wp2
                    refine bodyPost_ret (v := .tuple #[.agg #[.slice none 0 0, .slice none 0 0], .agg #[.int .i64 3, .int .i64 i]]) (by simp [results, Try.results14, go_sem, b10, b11, b20, b21]) rfl ⟨?_, ?_⟩
                    · exact (((H9.out.below.setCell (by simp) _).setCell (by simp) _).setCell (by simp) _).setCell (by simp) _
                    · rw [HTB.out]

                  · have h512b : ((ls.length : Int) == 512) = false := by rw [beq_eq_false_iff_ne]; omega
                    have H512 := Lib.hid h512
                    clear h512
                    have hsplit : (n = 0 ∧ i = 0) ∨ (n = 0 ∧ 0 < i) ∨ 0 < n := by omega
                    have hinfo : (Try.prog.info? 3).map (fun i => (i.zero, i.size, i.bytes)) = some (some (.int .i64 0), 1, 8) := by kernel_rfl
                    obtain ⟨i0, hi0, hz0, hz1, hz2⟩ := info_parts hinfo
                    have HI := Lib.hid (And.intro hi0 (And.intro hz0 (And.intro hz1 hz2)))
                    clear hinfo hi0 hz0 hz1 hz2
                    rcases hsplit with hn0 | hn0 | hn0
                    case' inl =>
                      have hi0b : ((i : Int) == 0) = true := by rw [hn0.2]; rfl
                      have HP0 := Lib.hid hn0.1
                      have HS := Lib.hid (show RSt w ls st (.slice A1 ls.length C1) (.slice A2 st.length C2) wr by have := HX.out.1; simp only [if_pos HP0.out] at this; exact this)
                      have c21 : wr.cell? ⟨w.heap.size + 1 + 1, 1, none⟩ = some (.slice A2 st.length C2) := HS.out.b2.cell 1
                      clear hn0
                      go_upto_region 28 with (at_builtin; refine wpList_append_own _ rfl _ _ 24 rfl (w.heap.size + 3) 3 i0 (.int .i64 0) 1 8 Try.underlying24 HI.out.1 HI.out.2.1 HI.out.2.2.1 HI.out.2.2.2 rfl (by decide) _ _ _ rfl (HS.out.o2.alloc _) ⟨wr.heap.size, 0, none⟩ 1 1 [.int .i64 0] rfl rfl (cell_one_new _ _ _) (by intro u hu; simp at hu; subst hu; rfl) (by unfold maxLen; omega) (by omega) (by have := HS.out.b2.lt; simp; omega) ?_)
                      intro v' w4 hown' hgrow _
                      have hrow : ∀ k, (Value.slice A2 st.length C2).ownBlock = some k → w.heap.size + 3 ≤ k := fun k hk => (HS.out.o2.lt k hk).1
                      have hmid := HS.out.mid _ hrow _ hgrow
                      have g1 : w4.cell? ⟨w.heap.size + 1 + 1, 1, none⟩ = some (.slice A2 st.length C2) := hmid.cell 1
                      have g2 : w4.frozen? ⟨w.heap.size + 1 + 1, 1, none⟩ = false := hmid.frozen 1
                      have H4 := Lib.hid (HS.out.put (ls' := ls) (st' := st ++ [(n : Int)]) _ hrow _ hgrow 1 v' rfl ((HS.out.o1.alloc _).kept hgrow (own_ne HS.out.o1 HS.out.o2 (by decide))) (by rw [HP0.out]; simpa using hown'))
                      obtain ⟨A3, C3, rfl⟩ := own_slice hown'
                      clear hown' hgrow hmid hrow
                      go_upto_region 28 with (fail)
                      refine wp_abs (fun wz => ∃ g C, RSt w ls (st ++ [(n : Int)]) (.slice A1 ls.length C1) (.slice (some ⟨g, 0, none⟩) (st.length + 1) C) wz) (some_slice H4.out) ?_
                      clear g1 g2 c21
                    case' inr.inl =>
                      have hi0b : ((i : Int) == 0) = false := by rw [beq_eq_false_iff_ne]; omega
                      have hpi := run_index_at s (i - 1) 32 ((HX.out.2.1.1 hn0.1).resolve_left (by omega)) ((i : Int) - 1) (by omega)
                      have HP0 := Lib.hid hn0.1
                      have HS := Lib.hid (show RSt w ls st (.slice A1 ls.length C1) (.slice A2 st.length C2) wr by have := HX.out.1; simp only [if_pos HP0.out] at this; exact this)
                      have c21 : wr.cell? ⟨w.heap.size + 1 + 1, 1, none⟩ = some (.slice A2 st.length C2) := HS.out.b2.cell 1
                      clear hn0
                      go_upto_region 28 with (at_builtin; refine wpList_append_own _ rfl _ _ 24 rfl (w.heap.size + 3) 3 i0 (.int .i64 0) 1 8 Try.underlying24 HI.out.1 HI.out.2.1 HI.out.2.2.1 HI.out.2.2.2 rfl (by decide) _ _ _ rfl (HS.out.o2.alloc _) ⟨wr.heap.size, 0, none⟩ 1 1 [.int .i64 0] rfl rfl (cell_one_new _ _ _) (by intro u hu; simp at hu; subst hu; rfl) (by unfold maxLen; omega) (by omega) (by have := HS.out.b2.lt; simp; omega) ?_)
                      intro v' w4 hown' hgrow _
                      have hrow : ∀ k, (Value.slice A2 st.length C2).ownBlock = some k → w.heap.size + 3 ≤ k := fun k hk => (HS.out.o2.lt k hk).1
                      have hmid := HS.out.mid _ hrow _ hgrow
                      have g1 : w4.cell? ⟨w.heap.size + 1 + 1, 1, none⟩ = some (.slice A2 st.length C2) := hmid.cell 1
                      have g2 : w4.frozen? ⟨w.heap.size + 1 + 1, 1, none⟩ = false := hmid.frozen 1
                      have H4 := Lib.hid (HS.out.put (ls' := ls) (st' := st ++ [(n : Int)]) _ hrow _ hgrow 1 v' rfl ((HS.out.o1.alloc _).kept hgrow (own_ne HS.out.o1 HS.out.o2 (by decide))) (by rw [HP0.out]; simpa using hown'))
                      obtain ⟨A3, C3, rfl⟩ := own_slice hown'
                      clear hown' hgrow hmid hrow
                      go_upto_region 28 with (fail)
                      refine wp_abs (fun wz => ∃ g C, RSt w ls (st ++ [(n : Int)]) (.slice A1 ls.length C1) (.slice (some ⟨g, 0, none⟩) (st.length + 1) C) wz) (some_slice H4.out) ?_
                      clear g1 g2 c21
                    case' inr.inr =>
                      have hi0b : ((i : Int) == 0) = false := by
                        have := HX.out.2.1
                        rw [beq_eq_false_iff_ne]; omega
                      have hne : ¬ (i = 0 ∨ s.data.toList[i - 1]? = some 32) := fun hh => by have := HX.out.2.1.2 hh; omega
                      obtain ⟨p, hp⟩ : ∃ p, s.data.toList[i - 1]? = some p := ⟨_, List.getElem?_eq_getElem (by simp; omega)⟩
                      have hpb : ((p.toNat : Int) == 32) = false := by
                        rw [beq_eq_false_iff_ne]
                        intro hh
                        exact hne (.inr (by rw [hp]; congr 1; exact UInt8.toNat.inj (by show p.toNat = 32; omega)))
                      have hpi := run_index_at s (i - 1) p hp ((i : Int) - 1) (by omega)
                      have HS := Lib.hid (show RSt w ls (st ++ [(n : Int)]) (.slice A1 ls.length C1) (.slice A2 _ C2) wr by have := HX.out.1; rw [if_neg (by omega)] at this; exact this)
                      clear hne hp hn0
                      go_upto_region 28 with (fail)
                      refine wp_abs (fun wz => ∃ g C, RSt w ls (st ++ [(n : Int)]) (.slice A1 ls.length C1) (.slice (some ⟨g, 0, none⟩) (st.length + 1) C) wz) (some_slice HS.out) ?_
                    all_goals
                      clear c20
                      rintro wz ⟨g, C, hz⟩
                      have HZ := Lib.hid hz
                      have c20 : wz.cell? ⟨w.heap.size + 1 + 1, 0, none⟩ = some (.slice A1 ls.length C1) := hz.b2.cell 0
                      have hzz : w.heap.size + 1 + 1 < wz.heap.size := hz.b2.lt
                      clear hz
                      have hsm : c.toNat = 120 ∨ 0 ≤ smallOf c.toNat := by
                        rcases HG.out with hh | hh
                        · exact hh
                        · have := (cls_great c hh.1 hh.2).2; rw [HUP.out] at this; cases this
                      have hcs : smallOf c.toNat = cur := by rw [← HCL.out]; exact (cls_small c hsm).1.symm
                      have HNX := Lib.hid (show readF s = rdF (s.data.toList.drop (i + 1)) (i + 1) (n + 1) (ls ++ [(cur, 0)]) st by
                        rw [HRD.out, rdF_cons, if_neg (by rintro ⟨h3, _⟩; exact H32.out (UInt8.toNat.inj h3)), if_pos hsm, if_neg H512.out, hcs])
                      clear hsm hcs

                      have hinfo : (Try.prog.info? 66).map (fun i => (i.zero, i.size, i.bytes)) = some (some (.agg #[.int .i64 0, .int .i64 0]), 2, 16) := by kernel_rfl
                      obtain ⟨j0, hj, jz0, jz1, jz2⟩ := info_parts hinfo
                      clear hinfo
                      go_wp2_with (at_builtin; refine wpList_append_own _ rfl _ _ 23 rfl (w.heap.size + 3) 66 j0 (.agg #[.int .i64 0, .int .i64 0]) 2 16 Try.underlying23 hj jz0 jz1 jz2 rfl (by decide) _ _ _ rfl ((HZ.out.o1.alloc _).alloc _) ⟨wz.heap.size + 1, 0, none⟩ 1 1 [.int .i64 cur, .int .i64 0] rfl rfl ?_ ?_ ?_ ?_ ?_ ?_)
                      · intro j u hj
                        match j, hj with
                        | 0, hj => simp at hj; subst hj; simp [Addr.add]
                        | 1, hj => simp at hj; subst hj; simp [Addr.add]
                      · intro u hu; simp at hu; rcases hu with rfl | rfl <;> rfl
                      · unfold maxLen; have := H512.out; omega
                      · have := H512.out; omega
                      · have := HZ.out.b2.lt; simp; omega
                      · intro v' w4 hown' hgrow _
                        have hrow : ∀ k, (Value.slice A1 ls.length C1).ownBlock = some k → w.heap.size + 3 ≤ k := fun k hk => (HZ.out.o1.lt k hk).1
                        have hmid := (HZ.out.alloc _).mid _ hrow _ hgrow
                        have g0 : w4.cell? ⟨w.heap.size + 1 + 1, 0, none⟩ = some (.slice A1 ls.length C1) := hmid.cell 0
                        have g2 : w4.frozen? ⟨w.heap.size + 1 + 1, 0, none⟩ = false := hmid.frozen 0
                        have H4 := Lib.hid ((HZ.out.alloc _).put (ls' := ls ++ [(cur, 0)]) (st' := st ++ [(n : Int)]) _ hrow _ hgrow 0 v' rfl (by simpa [prs] using hown') (((HZ.out.o2.alloc _).alloc _).kept hgrow (own_ne (HZ.out.o2) (HZ.out.o1) (by decide))))
                        obtain ⟨A3, C3, rfl⟩ := own_slice hown'
                        clear hown' hgrow hmid hrow hj jz0 jz1 jz2
                        go_wp2_with (refine list_abs (RSt w (ls ++ [(cur, 0)]) (st ++ [(n : Int)]) _ (.slice (some ⟨g, 0, none⟩) (st.length + 1) C)) H4.out ?_)
                        intro w5 h5
                        clear g0 g2 H4
                        have c21 : w5.cell? ⟨w.heap.size + 1 + 1, 1, none⟩ = some (.slice (some ⟨g, 0, none⟩) (st.length + 1) C) := h5.b2.cell 1
                        obtain ⟨q1, q2⟩ := last_cell h5.o2
                        have HB := Lib.hid (h5.bump ((n : Int) + 1))
                        clear h5
                        go_wp2
                        go_roundw
                        case rel => exact ⟨i + 1, n + 1, ls ++ [(cur, 0)], st, _, _, by omega, by go_num, by omega, by omega, by have := H512.out; simp; omega, by simp; omega, Lib.hid ⟨by rw [if_neg (by omega)]; exact HB.out, ⟨fun hh => absurd hh (by omega), fun hh => by
                            rcases hh with hh | hh
                            · omega
                            · (rw [show i + 1 - 1 = i by omega, HC.out] at hh; injection hh with hh; exact absurd hh H32.out)⟩, .inr HNX.out⟩⟩
                        case measure => simp [intOf]; omega

          · have hcx : ((c.toNat : Int) == 120) = false := by
              rw [beq_eq_false_iff_ne]
              intro hh
              exact hx (UInt8.toNat.inj (by show c.toNat = 120; omega))
            have HC0 := Lib.hid (show refCls c = clsF (lettersB.data.toList.drop 0) (0 : Nat) (smallC c) (-2) by unfold refCls; rw [if_neg hx]; rfl)
            by_cases hlow : c.toNat < 65
            · have hu1 : (c.toNat : Int) < 65 := by omega
              clear hx hsc hup hlow
              go_wp2
              go_loopw [8, 9] (fun u v wq => ∃ (k : Nat) (cur : Int), k ≤ 25 ∧ u = .int .i64 cur ∧ v = .int .i64 k ∧ wr = wq ∧ Hid (refCls c = clsF (lettersB.data.toList.drop k) k (smallC c) cur)) (fun _ v _ => 25 - (intOf v).toNat)
              case atStart => exact ⟨0, _, by omega, rfl, rfl, rfl, HC0.out⟩
              case round =>
                obtain ⟨k, cur, hk, rfl, rfl, rfl, HK⟩ := hrel
                by_cases hk25 : k < 25
                · have hkl : lettersB.data.toList[k]? = some (lettersB.data.toList[k]'(show k < 25 from hk25)) := List.getElem?_eq_getElem _
                  obtain ⟨q, hq⟩ : ∃ q, q = lettersB.data.toList[k]'(show k < 25 from hk25) := ⟨_, rfl⟩
                  rw [← hq] at hkl
                  have hdr : lettersB.data.toList.drop k = q :: lettersB.data.toList.drop (k + 1) := by rw [drop_at lettersB.data.toList k (show k < 25 from hk25), hq]
                  have HKS := Lib.hid (show refCls c = clsF (lettersB.data.toList.drop (k + 1)) ((k : Int) + 1) (smallC c) (if q = smallC c then (k : Int) else cur) by rw [HK.out, hdr]; rfl)
                  have hix : ∀ w, (Instr.index 9 (.string ⟨#[97, 98, 99, 100, 101, 102, 103, 104, 105, 106, 107, 108, 109, 110, 111, 112, 113, 114, 115, 116, 117, 118, 119, 121, 122]⟩) (.int .i64 (k : Int))).run Try.prog w = .ok (.int .u8 q.toNat) w := fun w => run_index_at lettersB k q hkl k rfl w
                  clear hdr hkl hq
                  by_cases hqe : q = smallC c
                  · have hqb : ((q.toNat : Int) == (c.toNat : Int)) = true := by rw [beq_iff_eq, hqe]; exact HSM.out
                    have HQE := Lib.hid hqe
                    clear hqe
                    go_wp2
                    go_roundw
                    case rel => exact ⟨k + 1, k, by omega, by first | rfl | trivial, by go_num, by first | rfl | trivial, by rw [HKS.out, if_pos HQE.out]; rfl⟩
                    case measure => simp [intOf]; omega
                  · have hqb : ((q.toNat : Int) == (c.toNat : Int)) = false := by
                      rw [beq_eq_false_iff_ne]
                      intro hh
                      exact hqe (UInt8.toNat.inj (by have := HSM.out; omega))
                    have HQE := Lib.hid hqe
                    clear hqe
                    go_wp2
                    go_roundw
                    case rel => exact ⟨k + 1, cur, by omega, by first | rfl | trivial, by go_num, by first | rfl | trivial, by rw [HKS.out, if_neg HQE.out]; rfl⟩
                    case measure => simp [intOf]; omega
                · have hcl : refCls c = cur := by rw [HK.out, List.drop_of_length_le (by show 25 ≤ k; omega)]; rfl
                  have HCL := Lib.hid hcl
                  clear hcl
                  by_cases h2 : cur = -2
                  · have hb := cls_ge c
                    have hbad : readF s = .bad 160 i := by
                      have hcl := HCL.out
                      obtain ⟨g1, g2⟩ := hb.2.2 (by omega)
                      rw [HRD.out, rdF_cons, if_neg (by rintro ⟨h3, _⟩; exact H32.out (UInt8.toNat.inj h3)), if_neg g1, if_neg g2]
                    have HTB := Lib.hid hbad
                    have H := Lib.hid HX.out.1
                    have h2b : (cur == -2) = true := by simpa using h2
                    have H2 := Lib.hid h2
                    clear hbad hb h2
                    go_wp2_with fail
                    refine (wrong_any _ _ _).mono ?_
                    rintro e9 w9 ⟨rfl, hb9⟩
                    have H9 := Lib.hid (H.out.on hb9)
                    clear hb9
                    have b10 : w9.cell? ⟨w.heap.size, 0, none⟩ = some (.slice none 0 0) := H9.out.b0.cell 0
                    have b11 : w9.cell? ⟨w.heap.size, 1, none⟩ = some (.slice none 0 0) := H9.out.b0.cell 1
                    have b20 : w9.cell? ⟨w.heap.size + 1, 0, none⟩ = some (.int .i64 0) := H9.out.b1.cell 0
                    have b21 : w9.cell? ⟨w.heap.size + 1, 1, none⟩ = some (.int .i64 0) := H9.out.b1.cell 1
                    have f10 := H9.out.b0.frozen 0
                    have f11 := H9.out.b0.frozen 1
                    have f20 := H9.out.b1.frozen 0
                    have f21 := H9.out.b1.frozen 1
                    go_wp2
                    refine bodyPost_ret (v := .tuple #[.agg #[.slice none 0 0, .slice none 0 0], .agg #[.int .i64 160, .int .i64 i]]) (by simp [results, Try.results14, go_sem, b10, b11, b20, b21]) rfl ⟨?_, ?_⟩
                    · exact (((H9.out.below.setCell (by simp) _).setCell (by simp) _).setCell (by simp) _).setCell (by simp) _
                    · rw [HTB.out]

                  · have h2b : (cur == -2) = false := by simpa using h2
                    have hge := cls_ge c
                    have hcl0 := HCL.out
                    have hcur1 : -1 ≤ cur := by omega
                    have hcur2 : cur ≤ 25 := by omega
                    have hgood : (c.toNat = 120 ∨ 0 ≤ smallOf c.toNat) ∨ (¬ (c.toNat = 120 ∨ 0 ≤ smallOf c.toNat) ∧ 0 ≤ greatOf c.toNat) := by
                      by_cases a1 : c.toNat = 120 ∨ 0 ≤ smallOf c.toNat
                      · exact .inl a1
                      · by_cases a2 : 0 ≤ greatOf c.toNat
                        · exact .inr ⟨a1, a2⟩
                        · exact absurd (cls_none c a1 a2) (by rw [hcl0]; exact h2)
                    have HG := Lib.hid hgood
                    clear hge hcl0 hgood h2
                    obtain ⟨A1, C1, rfl⟩ := own_slice HX.out.1.o1
                    obtain ⟨A2, C2, rfl⟩ := own_slice HX.out.1.o2
                    have c20 : wr.cell? ⟨w.heap.size + 1 + 1, 0, none⟩ = some (.slice A1 ls.length C1) := HX.out.1.b2.cell 0
                    by_cases h512 : ls.length = 512
                    · have hbad : readF s = .bad 3 i := by
                        rw [HRD.out, rdF_cons, if_neg (by rintro ⟨h3, _⟩; exact H32.out (UInt8.toNat.inj h3))]
                        rcases HG.out with a1 | ⟨a1, a2⟩
                        · rw [if_pos a1, if_pos h512]
                        · rw [if_neg a1, if_pos a2]; unfold grF; rw [if_pos h512]
                      have HTB := Lib.hid hbad
                      have H := Lib.hid HX.out.1
                      clear hbad
                      go_wp2_with fail
                      refine (wrong_any _ _ _).mono ?_
                      rintro e9 w9 ⟨rfl, hb9⟩
                      have H9 := Lib.hid (H.out.on hb9)
                      clear hb9
                      have b10 : w9.cell? ⟨w.heap.size, 0, none⟩ = some (.slice none 0 0) := H9.out.b0.cell 0
                      have b11 : w9.cell? ⟨w.heap.size, 1, none⟩ = some (.slice none 0 0) := H9.out.b0.cell 1
                      have b20 : w9.cell? ⟨w.heap.size + 1, 0, none⟩ = some (.int .i64 0) := H9.out.b1.cell 0
                      have b21 : w9.cell? ⟨w.heap.size + 1, 1, none⟩ = some (.int .i64 0) := H9.out.b1.cell 1
                      have f10 := H9.out.b0.frozen 0
                      have f11 := H9.out.b0.frozen 1
                      have f20 := H9.out.b1.frozen 0
                      have f21 := H9.out.b1.frozen 1
                      go_wp2
                      refine bodyPost_ret (v := .tuple #[.agg #[.slice none 0 0, .slice none 0 0], .agg #[.int .i64 3, .int .i64 i]]) (by simp [results, Try.results14, go_sem, b10, b11, b20, b21]) rfl ⟨?_, ?_⟩
                      · exact (((H9.out.below.setCell (by simp) _).setCell (by simp) _).setCell (by simp) _).setCell (by simp) _
                      · rw [HTB.out]

                    · have h512b : ((ls.length : Int) == 512) = false := by rw [beq_eq_false_iff_ne]; omega
                      have H512 := Lib.hid h512
                      clear h512
                      have hsplit : (n = 0 ∧ i = 0) ∨ (n = 0 ∧ 0 < i) ∨ 0 < n := by omega
                      have hinfo : (Try.prog.info? 3).map (fun i => (i.zero, i.size, i.bytes)) = some (some (.int .i64 0), 1, 8) := by kernel_rfl
                      obtain ⟨i0, hi0, hz0, hz1, hz2⟩ := info_parts hinfo
                      have HI := Lib.hid (And.intro hi0 (And.intro hz0 (And.intro hz1 hz2)))
                      clear hinfo hi0 hz0 hz1 hz2
                      rcases hsplit with hn0 | hn0 | hn0
                      case' inl =>
                        have hi0b : ((i : Int) == 0) = true := by rw [hn0.2]; rfl
                        have HP0 := Lib.hid hn0.1
                        have HS := Lib.hid (show RSt w ls st (.slice A1 ls.length C1) (.slice A2 st.length C2) wr by have := HX.out.1; simp only [if_pos HP0.out] at this; exact this)
                        have c21 : wr.cell? ⟨w.heap.size + 1 + 1, 1, none⟩ = some (.slice A2 st.length C2) := HS.out.b2.cell 1
                        clear hn0
                        go_upto_region 28 with (at_builtin; refine wpList_append_own _ rfl _ _ 24 rfl (w.heap.size + 3) 3 i0 (.int .i64 0) 1 8 Try.underlying24 HI.out.1 HI.out.2.1 HI.out.2.2.1 HI.out.2.2.2 rfl (by decide) _ _ _ rfl (HS.out.o2.alloc _) ⟨wr.heap.size, 0, none⟩ 1 1 [.int .i64 0] rfl rfl (cell_one_new _ _ _) (by intro u hu; simp at hu; subst hu; rfl) (by unfold maxLen; omega) (by omega) (by have := HS.out.b2.lt; simp; omega) ?_)
                        intro v' w4 hown' hgrow _
                        have hrow : ∀ k, (Value.slice A2 st.length C2).ownBlock = some k → w.heap.size + 3 ≤ k := fun k hk => (HS.out.o2.lt k hk).1
                        have hmid := HS.out.mid _ hrow _ hgrow
                        have g1 : w4.cell? ⟨w.heap.size + 1 + 1, 1, none⟩ = some (.slice A2 st.length C2) := hmid.cell 1
                        have g2 : w4.frozen? ⟨w.heap.size + 1 + 1, 1, none⟩ = false := hmid.frozen 1
                        have H4 := Lib.hid (HS.out.put (ls' := ls) (st' := st ++ [(n : Int)]) _ hrow _ hgrow 1 v' rfl ((HS.out.o1.alloc _).kept hgrow (own_ne HS.out.o1 HS.out.o2 (by decide))) (by rw [HP0.out]; simpa using hown'))
                        obtain ⟨A3, C3, rfl⟩ := own_slice hown'
                        clear hown' hgrow hmid hrow
                        go_upto_region 28 with (fail)
                        refine wp_abs (fun wz => ∃ g C, RSt w ls (st ++ [(n : Int)]) (.slice A1 ls.length C1) (.slice (some ⟨g, 0, none⟩) (st.length + 1) C) wz) (some_slice H4.out) ?_
                        clear g1 g2 c21
                      case' inr.inl =>
                        have hi0b : ((i : Int) == 0) = false := by rw [beq_eq_false_iff_ne]; omega
                        have hpi := run_index_at s (i - 1) 32 ((HX.out.2.1.1 hn0.1).resolve_left (by omega)) ((i : Int) - 1) (by omega)
                        have HP0 := Lib.hid hn0.1
                        have HS := Lib.hid (show RSt w ls st (.slice A1 ls.length C1) (.slice A2 st.length C2) wr by have := HX.out.1; simp only [if_pos HP0.out] at this; exact this)
                        have c21 : wr.cell? ⟨w.heap.size + 1 + 1, 1, none⟩ = some (.slice A2 st.length C2) := HS.out.b2.cell 1
                        clear hn0
                        go_upto_region 28 with (at_builtin; refine wpList_append_own _ rfl _ _ 24 rfl (w.heap.size + 3) 3 i0 (.int .i64 0) 1 8 Try.underlying24 HI.out.1 HI.out.2.1 HI.out.2.2.1 HI.out.2.2.2 rfl (by decide) _ _ _ rfl (HS.out.o2.alloc _) ⟨wr.heap.size, 0, none⟩ 1 1 [.int .i64 0] rfl rfl (cell_one_new _ _ _) (by intro u hu; simp at hu; subst hu; rfl) (by unfold maxLen; omega) (by omega) (by have := HS.out.b2.lt; simp; omega) ?_)
                        intro v' w4 hown' hgrow _
                        have hrow : ∀ k, (Value.slice A2 st.length C2).ownBlock = some k → w.heap.size + 3 ≤ k := fun k hk => (HS.out.o2.lt k hk).1
                        have hmid := HS.out.mid _ hrow _ hgrow
                        have g1 : w4.cell? ⟨w.heap.size + 1 + 1, 1, none⟩ = some (.slice A2 st.length C2) := hmid.cell 1
                        have g2 : w4.frozen? ⟨w.heap.size + 1 + 1, 1, none⟩ = false := hmid.frozen 1
                        have H4 := Lib.hid (HS.out.put (ls' := ls) (st' := st ++ [(n : Int)]) _ hrow _ hgrow 1 v' rfl ((HS.out.o1.alloc _).kept hgrow (own_ne HS.out.o1 HS.out.o2 (by decide))) (by rw [HP0.out]; simpa using hown'))
                        obtain ⟨A3, C3, rfl⟩ := own_slice hown'
                        clear hown' hgrow hmid hrow
                        go_upto_region 28 with (fail)
                        refine wp_abs (fun wz => ∃ g C, RSt w ls (st ++ [(n : Int)]) (.slice A1 ls.length C1) (.slice (some ⟨g, 0, none⟩) (st.length + 1) C) wz) (some_slice H4.out) ?_
                        clear g1 g2 c21
                      case' inr.inr =>
                        have hi0b : ((i : Int) == 0) = false := by
                          have := HX.out.2.1
                          rw [beq_eq_false_iff_ne]; omega
                        have hne : ¬ (i = 0 ∨ s.data.toList[i - 1]? = some 32) := fun hh => by have := HX.out.2.1.2 hh; omega
                        obtain ⟨p, hp⟩ : ∃ p, s.data.toList[i - 1]? = some p := ⟨_, List.getElem?_eq_getElem (by simp; omega)⟩
                        have hpb : ((p.toNat : Int) == 32) = false := by
                          rw [beq_eq_false_iff_ne]
                          intro hh
                          exact hne (.inr (by rw [hp]; congr 1; exact UInt8.toNat.inj (by show p.toNat = 32; omega)))
                        have hpi := run_index_at s (i - 1) p hp ((i : Int) - 1) (by omega)
                        have HS := Lib.hid (show RSt w ls (st ++ [(n : Int)]) (.slice A1 ls.length C1) (.slice A2 _ C2) wr by have := HX.out.1; rw [if_neg (by omega)] at this; exact this)
                        clear hne hp hn0
                        go_upto_region 28 with (fail)
                        refine wp_abs (fun wz => ∃ g C, RSt w ls (st ++ [(n : Int)]) (.slice A1 ls.length C1) (.slice (some ⟨g, 0, none⟩) (st.length + 1) C) wz) (some_slice HS.out) ?_
                      all_goals
                        clear c20
                        rintro wz ⟨g, C, hz⟩
                        have HZ := Lib.hid hz
                        have c20 : wz.cell? ⟨w.heap.size + 1 + 1, 0, none⟩ = some (.slice A1 ls.length C1) := hz.b2.cell 0
                        have hzz : w.heap.size + 1 + 1 < wz.heap.size := hz.b2.lt
                        clear hz
                        have hsm : c.toNat = 120 ∨ 0 ≤ smallOf c.toNat := by
                          rcases HG.out with hh | hh
                          · exact hh
                          · have := (cls_great c hh.1 hh.2).2; rw [HUP.out] at this; cases this
                        have hcs : smallOf c.toNat = cur := by rw [← HCL.out]; exact (cls_small c hsm).1.symm
                        have HNX := Lib.hid (show readF s = rdF (s.data.toList.drop (i + 1)) (i + 1) (n + 1) (ls ++ [(cur, 0)]) st by
                          rw [HRD.out, rdF_cons, if_neg (by rintro ⟨h3, _⟩; exact H32.out (UInt8.toNat.inj h3)), if_pos hsm, if_neg H512.out, hcs])
                        clear hsm hcs

                        have hinfo : (Try.prog.info? 66).map (fun i => (i.zero, i.size, i.bytes)) = some (some (.agg #[.int .i64 0, .int .i64 0]), 2, 16) := by kernel_rfl
                        obtain ⟨j0, hj, jz0, jz1, jz2⟩ := info_parts hinfo
                        clear hinfo
                        go_wp2_with (at_builtin; refine wpList_append_own _ rfl _ _ 23 rfl (w.heap.size + 3) 66 j0 (.agg #[.int .i64 0, .int .i64 0]) 2 16 Try.underlying23 hj jz0 jz1 jz2 rfl (by decide) _ _ _ rfl ((HZ.out.o1.alloc _).alloc _) ⟨wz.heap.size + 1, 0, none⟩ 1 1 [.int .i64 cur, .int .i64 0] rfl rfl ?_ ?_ ?_ ?_ ?_ ?_)
                        · intro j u hj
                          match j, hj with
                          | 0, hj => simp at hj; subst hj; simp [Addr.add]
                          | 1, hj => simp at hj; subst hj; simp [Addr.add]
                        · intro u hu; simp at hu; rcases hu with rfl | rfl <;> rfl
                        · unfold maxLen; have := H512.out; omega
                        · have := H512.out; omega
                        · have := HZ.out.b2.lt; simp; omega
                        · intro v' w4 hown' hgrow _
                          have hrow : ∀ k, (Value.slice A1 ls.length C1).ownBlock = some k → w.heap.size + 3 ≤ k := fun k hk => (HZ.out.o1.lt k hk).1
                          have hmid := (HZ.out.alloc _).mid _ hrow _ hgrow
                          have g0 : w4.cell? ⟨w.heap.size + 1 + 1, 0, none⟩ = some (.slice A1 ls.length C1) := hmid.cell 0
                          have g2 : w4.frozen? ⟨w.heap.size + 1 + 1, 0, none⟩ = false := hmid.frozen 0
                          have H4 := Lib.hid ((HZ.out.alloc _).put (ls' := ls ++ [(cur, 0)]) (st' := st ++ [(n : Int)]) _ hrow _ hgrow 0 v' rfl (by simpa [prs] using hown') (((HZ.out.o2.alloc _).alloc _).kept hgrow (own_ne (HZ.out.o2) (HZ.out.o1) (by decide))))
                          obtain ⟨A3, C3, rfl⟩ := own_slice hown'
                          clear hown' hgrow hmid hrow hj jz0 jz1 jz2
                          go_wp2_with (refine list_abs (RSt w (ls ++ [(cur, 0)]) (st ++ [(n : Int)]) _ (.slice (some ⟨g, 0, none⟩) (st.length + 1) C)) H4.out ?_)
                          intro w5 h5
                          clear g0 g2 H4
                          have c21 : w5.cell? ⟨w.heap.size + 1 + 1, 1, none⟩ = some (.slice (some ⟨g, 0, none⟩) (st.length + 1) C) := h5.b2.cell 1
                          obtain ⟨q1, q2⟩ := last_cell h5.o2
                          have HB := Lib.hid (h5.bump ((n : Int) + 1))
                          clear h5
                          go_wp2
                          go_roundw
                          case rel => exact ⟨i + 1, n + 1, ls ++ [(cur, 0)], st, _, _, by omega, by go_num, by omega, by omega, by have := H512.out; simp; omega, by simp; omega, Lib.hid ⟨by rw [if_neg (by omega)]; exact HB.out, ⟨fun hh => absurd hh (by omega), fun hh => by
                              rcases hh with hh | hh
                              · omega
                              · (rw [show i + 1 - 1 = i by omega, HC.out] at hh; injection hh with hh; exact absurd hh H32.out)⟩, .inr HNX.out⟩⟩
                          case measure => simp [intOf]; omega

            · have hu1 : (65 : Int) ≤ (c.toNat : Int) := by omega
              have hu2 : (90 : Int) < (c.toNat : Int) := by omega
              clear hx hsc hup hlow
              go_wp2
              go_loopw [8, 9] (fun u v wq => ∃ (k : Nat) (cur : Int), k ≤ 25 ∧ u = .int .i64 cur ∧ v = .int .i64 k ∧ wr = wq ∧ Hid (refCls c = clsF (lettersB.data.toList.drop k) k (smallC c) cur)) (fun _ v _ => 25 - (intOf v).toNat)
              case atStart => exact ⟨0, _, by omega, rfl, rfl, rfl, HC0.out⟩
              case round =>
                obtain ⟨k, cur, hk, rfl, rfl, rfl, HK⟩ := hrel
                by_cases hk25 : k < 25
                · have hkl : lettersB.data.toList[k]? = some (lettersB.data.toList[k]'(show k < 25 from hk25)) := List.getElem?_eq_getElem _
                  obtain ⟨q, hq⟩ : ∃ q, q = lettersB.data.toList[k]'(show k < 25 from hk25) := ⟨_, rfl⟩
                  rw [← hq] at hkl
                  have hdr : lettersB.data.toList.drop k = q :: lettersB.data.toList.drop (k + 1) := by rw [drop_at lettersB.data.toList k (show k < 25 from hk25), hq]
                  have HKS := Lib.hid (show refCls c = clsF (lettersB.data.toList.drop (k + 1)) ((k : Int) + 1) (smallC c) (if q = smallC c then (k : Int) else cur) by rw [HK.out, hdr]; rfl)
                  have hix : ∀ w, (Instr.index 9 (.string ⟨#[97, 98, 99, 100, 101, 102, 103, 104, 105, 106, 107, 108, 109, 110, 111, 112, 113, 114, 115, 116, 117, 118, 119, 121, 122]⟩) (.int .i64 (k : Int))).run Try.prog w = .ok (.int .u8 q.toNat) w := fun w => run_index_at lettersB k q hkl k rfl w
                  clear hdr hkl hq
                  by_cases hqe : q = smallC c
                  · have hqb : ((q.toNat : Int) == (c.toNat : Int)) = true := by rw [beq_iff_eq, hqe]; exact HSM.out
                    have HQE := Lib.hid hqe
                    clear hqe
                    go_wp2
                    go_roundw
                    case rel => exact ⟨k + 1, k, by omega, by first | rfl | trivial, by go_num, by first | rfl | trivial, by rw [HKS.out, if_pos HQE.out]; rfl⟩
                    case measure => simp [intOf]; omega
                  · have hqb : ((q.toNat : Int) == (c.toNat : Int)) = false := by
                      rw [beq_eq_false_iff_ne]
                      intro hh
                      exact hqe (UInt8.toNat.inj (by have := HSM.out; omega))
                    have HQE := Lib.hid hqe
                    clear hqe
                    go_wp2
                    go_roundw
                    case rel => exact ⟨k + 1, cur, by omega, by first | rfl | trivial, by go_num, by first | rfl | trivial, by rw [HKS.out, if_neg HQE.out]; rfl⟩
                    case measure => simp [intOf]; omega
                · have hcl : refCls c = cur := by rw [HK.out, List.drop_of_length_le (by show 25 ≤ k; omega)]; rfl
                  have HCL := Lib.hid hcl
                  clear hcl
                  by_cases h2 : cur = -2
                  · have hb := cls_ge c
                    have hbad : readF s = .bad 160 i := by
                      have hcl := HCL.out
                      obtain ⟨g1, g2⟩ := hb.2.2 (by omega)
                      rw [HRD.out, rdF_cons, if_neg (by rintro ⟨h3, _⟩; exact H32.out (UInt8.toNat.inj h3)), if_neg g1, if_neg g2]
                    have HTB := Lib.hid hbad
                    have H := Lib.hid HX.out.1
                    have h2b : (cur == -2) = true := by simpa using h2
                    have H2 := Lib.hid h2
                    clear hbad hb h2
                    go_wp2_with fail
                    refine (wrong_any _ _ _).mono ?_
                    rintro e9 w9 ⟨rfl, hb9⟩
                    have H9 := Lib.hid (H.out.on hb9)
                    clear hb9
                    have b10 : w9.cell? ⟨w.heap.size, 0, none⟩ = some (.slice none 0 0) := H9.out.b0.cell 0
                    have b11 : w9.cell? ⟨w.heap.size, 1, none⟩ = some (.slice none 0 0) := H9.out.b0.cell 1
                    have b20 : w9.cell? ⟨w.heap.size + 1, 0, none⟩ = some (.int .i64 0) := H9.out.b1.cell 0
                    have b21 : w9.cell? ⟨w.heap.size + 1, 1, none⟩ = some (.int .i64 0) := H9.out.b1.cell 1
                    have f10 := H9.out.b0.frozen 0
                    have f11 := H9.out.b0.frozen 1
                    have f20 := H9.out.b1.frozen 0
                    have f21 := H9.out.b1.frozen 1
                    go_wp2
                    refine bodyPost_ret (v := .tuple #[.agg #[.slice none 0 0, .slice none 0 0], .agg #[.int .i64 160, .int .i64 i]]) (by simp [results, Try.results14, go_sem, b10, b11, b20, b21]) rfl ⟨?_, ?_⟩
                    · exact (((H9.out.below.setCell (by simp) _).setCell (by simp) _).setCell (by simp) _).setCell (by simp) _
                    · rw [HTB.out]

                  · have h2b : (cur == -2) = false := by simpa using h2
                    have hge := cls_ge c
                    have hcl0 := HCL.out
                    have hcur1 : -1 ≤ cur := by omega
                    have hcur2 : cur ≤ 25 := by omega
                    have hgood : (c.toNat = 120 ∨ 0 ≤ smallOf c.toNat) ∨ (¬ (c.toNat = 120 ∨ 0 ≤ smallOf c.toNat) ∧ 0 ≤ greatOf c.toNat) := by
                      by_cases a1 : c.toNat = 120 ∨ 0 ≤ smallOf c.toNat
                      · exact .inl a1
                      · by_cases a2 : 0 ≤ greatOf c.toNat
                        · exact .inr ⟨a1, a2⟩
                        · exact absurd (cls_none c a1 a2) (by rw [hcl0]; exact h2)
                    have HG := Lib.hid hgood
                    clear hge hcl0 hgood h2
                    obtain ⟨A1, C1, rfl⟩ := own_slice HX.out.1.o1
                    obtain ⟨A2, C2, rfl⟩ := own_slice HX.out.1.o2
                    have c20 : wr.cell? ⟨w.heap.size + 1 + 1, 0, none⟩ = some (.slice A1 ls.length C1) := HX.out.1.b2.cell 0
                    by_cases h512 : ls.length = 512
                    · have hbad : readF s = .bad 3 i := by
                        rw [HRD.out, rdF_cons, if_neg (by rintro ⟨h3, _⟩; exact H32.out (UInt8.toNat.inj h3))]
                        rcases HG.out with a1 | ⟨a1, a2⟩
                        · rw [if_pos a1, if_pos h512]
                        · rw [if_neg a1, if_pos a2]; unfold grF; rw [if_pos h512]
                      have HTB := Lib.hid hbad
                      have H := Lib.hid HX.out.1
                      clear hbad
                      go_wp2_with fail
                      refine (wrong_any _ _ _).mono ?_
                      rintro e9 w9 ⟨rfl, hb9⟩
                      have H9 := Lib.hid (H.out.on hb9)
                      clear hb9
                      have b10 : w9.cell? ⟨w.heap.size, 0, none⟩ = some (.slice none 0 0) := H9.out.b0.cell 0
                      have b11 : w9.cell? ⟨w.heap.size, 1, none⟩ = some (.slice none 0 0) := H9.out.b0.cell 1
                      have b20 : w9.cell? ⟨w.heap.size + 1, 0, none⟩ = some (.int .i64 0) := H9.out.b1.cell 0
                      have b21 : w9.cell? ⟨w.heap.size + 1, 1, none⟩ = some (.int .i64 0) := H9.out.b1.cell 1
                      have f10 := H9.out.b0.frozen 0
                      have f11 := H9.out.b0.frozen 1
                      have f20 := H9.out.b1.frozen 0
                      have f21 := H9.out.b1.frozen 1
                      go_wp2
                      refine bodyPost_ret (v := .tuple #[.agg #[.slice none 0 0, .slice none 0 0], .agg #[.int .i64 3, .int .i64 i]]) (by simp [results, Try.results14, go_sem, b10, b11, b20, b21]) rfl ⟨?_, ?_⟩
                      · exact (((H9.out.below.setCell (by simp) _).setCell (by simp) _).setCell (by simp) _).setCell (by simp) _
                      · rw [HTB.out]

                    · have h512b : ((ls.length : Int) == 512) = false := by rw [beq_eq_false_iff_ne]; omega
                      have H512 := Lib.hid h512
                      clear h512
                      have hsplit : (n = 0 ∧ i = 0) ∨ (n = 0 ∧ 0 < i) ∨ 0 < n := by omega
                      have hinfo : (Try.prog.info? 3).map (fun i => (i.zero, i.size, i.bytes)) = some (some (.int .i64 0), 1, 8) := by kernel_rfl
                      obtain ⟨i0, hi0, hz0, hz1, hz2⟩ := info_parts hinfo
                      have HI := Lib.hid (And.intro hi0 (And.intro hz0 (And.intro hz1 hz2)))
                      clear hinfo hi0 hz0 hz1 hz2
                      rcases hsplit with hn0 | hn0 | hn0
                      case' inl =>
                        have hi0b : ((i : Int) == 0) = true := by rw [hn0.2]; rfl
                        have HP0 := Lib.hid hn0.1
                        have HS := Lib.hid (show RSt w ls st (.slice A1 ls.length C1) (.slice A2 st.length C2) wr by have := HX.out.1; simp only [if_pos HP0.out] at this; exact this)
                        have c21 : wr.cell? ⟨w.heap.size + 1 + 1, 1, none⟩ = some (.slice A2 st.length C2) := HS.out.b2.cell 1
                        clear hn0
                        go_upto_region 28 with (at_builtin; refine wpList_append_own _ rfl _ _ 24 rfl (w.heap.size + 3) 3 i0 (.int .i64 0) 1 8 Try.underlying24 HI.out.1 HI.out.2.1 HI.out.2.2.1 HI.out.2.2.2 rfl (by decide) _ _ _ rfl (HS.out.o2.alloc _) ⟨wr.heap.size, 0, none⟩ 1 1 [.int .i64 0] rfl rfl (cell_one_new _ _ _) (by intro u hu; simp at hu; subst hu; rfl) (by unfold maxLen; omega) (by omega) (by have := HS.out.b2.lt; simp; omega) ?_)
                        intro v' w4 hown' hgrow _
                        have hrow : ∀ k, (Value.slice A2 st.length C2).ownBlock = some k → w.heap.size + 3 ≤ k := fun k hk => (HS.out.o2.lt k hk).1
                        have hmid := HS.out.mid _ hrow _ hgrow
                        have g1 : w4.cell? ⟨w.heap.size + 1 + 1, 1, none⟩ = some (.slice A2 st.length C2) := hmid.cell 1
                        have g2 : w4.frozen? ⟨w.heap.size + 1 + 1, 1, none⟩ = false := hmid.frozen 1
                        have H4 := Lib.hid (HS.out.put (ls' := ls) (st' := st ++ [(n : Int)]) _ hrow _ hgrow 1 v' rfl ((HS.out.o1.alloc _).kept hgrow (own_ne HS.out.o1 HS.out.o2 (by decide))) (by rw [HP0.out]; simpa using hown'))
                        obtain ⟨A3, C3, rfl⟩ := own_slice hown'
                        clear hown' hgrow hmid hrow
                        go_upto_region 28 with (fail)
                        refine wp_abs (fun wz => ∃ g C, RSt w ls (st ++ [(n : Int)]) (.slice A1 ls.length C1) (.slice (some ⟨g, 0, none⟩) (st.length + 1) C) wz) (some_slice H4.out) ?_
                        clear g1 g2 c21
                      case' inr.inl =>
                        have hi0b : ((i : Int) == 0) = false := by rw [beq_eq_false_iff_ne]; omega
                        have hpi := run_index_at s (i - 1) 32 ((HX.out.2.1.1 hn0.1).resolve_left (by omega)) ((i : Int) - 1) (by omega)
                        have HP0 := Lib.hid hn0.1
                        have HS := Lib.hid (show RSt w ls st (.slice A1 ls.length C1) (.slice A2 st.length C2) wr by have := HX.out.1; simp only [if_pos HP0.out] at this; exact this)
                        have c21 : wr.cell? ⟨w.heap.size + 1 + 1, 1, none⟩ = some (.slice A2 st.length C2) := HS.out.b2.cell 1
                        clear hn0
                        go_upto_region 28 with (at_builtin; refine wpList_append_own _ rfl _ _ 24 rfl (w.heap.size + 3) 3 i0 (.int .i64 0) 1 8 Try.underlying24 HI.out.1 HI.out.2.1 HI.out.2.2.1 HI.out.2.2.2 rfl (by decide) _ _ _ rfl (HS.out.o2.alloc _) ⟨wr.heap.size, 0, none⟩ 1 1 [.int .i64 0] rfl rfl (cell_one_new _ _ _) (by intro u hu; simp at hu; subst hu; rfl) (by unfold maxLen; omega) (by omega) (by have := HS.out.b2.lt; simp; omega) ?_)
                        intro v' w4 hown' hgrow _
                        have hrow : ∀ k, (Value.slice A2 st.length C2).ownBlock = some k → w.heap.size + 3 ≤ k := fun k hk => (HS.out.o2.lt k hk).1
                        have hmid := HS.out.mid _ hrow _ hgrow
                        have g1 : w4.cell? ⟨w.heap.size + 1 + 1, 1, none⟩ = some (.slice A2 st.length C2) := hmid.cell 1
                        have g2 : w4.frozen? ⟨w.heap.size + 1 + 1, 1, none⟩ = false := hmid.frozen 1
                        have H4 := Lib.hid (HS.out.put (ls' := ls) (st' := st ++ [(n : Int)]) _ hrow _ hgrow 1 v' rfl ((HS.out.o1.alloc _).kept hgrow (own_ne HS.out.o1 HS.out.o2 (by decide))) (by rw [HP0.out]; simpa using hown'))
                        obtain ⟨A3, C3, rfl⟩ := own_slice hown'
                        clear hown' hgrow hmid hrow
                        go_upto_region 28 with (fail)
                        refine wp_abs (fun wz => ∃ g C, RSt w ls (st ++ [(n : Int)]) (.slice A1 ls.length C1) (.slice (some ⟨g, 0, none⟩) (st.length + 1) C) wz) (some_slice H4.out) ?_
                        clear g1 g2 c21
                      case' inr.inr =>
                        have hi0b : ((i : Int) == 0) = false := by
                          have := HX.out.2.1
                          rw [beq_eq_false_iff_ne]; omega
                        have hne : ¬ (i = 0 ∨ s.data.toList[i - 1]? = some 32) := fun hh => by have := HX.out.2.1.2 hh; omega
                        obtain ⟨p, hp⟩ : ∃ p, s.data.toList[i - 1]? = some p := ⟨_, List.getElem?_eq_getElem (by simp; omega)⟩
                        have hpb : ((p.toNat : Int) == 32) = false := by
                          rw [beq_eq_false_iff_ne]
                          intro hh
                          exact hne (.inr (by rw [hp]; congr 1; exact UInt8.toNat.inj (by show p.toNat = 32; omega)))
                        have hpi := run_index_at s (i - 1) p hp ((i : Int) - 1) (by omega)
                        have HS := Lib.hid (show RSt w ls (st ++ [(n : Int)]) (.slice A1 ls.length C1) (.slice A2 _ C2) wr by have := HX.out.1; rw [if_neg (by omega)] at this; exact this)
                        clear hne hp hn0
                        go_upto_region 28 with (fail)
                        refine wp_abs (fun wz => ∃ g C, RSt w ls (st ++ [(n : Int)]) (.slice A1 ls.length C1) (.slice (some ⟨g, 0, none⟩) (st.length + 1) C) wz) (some_slice HS.out) ?_
                      all_goals
                        clear c20
                        rintro wz ⟨g, C, hz⟩
                        have HZ := Lib.hid hz
                        have c20 : wz.cell? ⟨w.heap.size + 1 + 1, 0, none⟩ = some (.slice A1 ls.length C1) := hz.b2.cell 0
                        have hzz : w.heap.size + 1 + 1 < wz.heap.size := hz.b2.lt
                        clear hz
                        have hsm : c.toNat = 120 ∨ 0 ≤ smallOf c.toNat := by
                          rcases HG.out with hh | hh
                          · exact hh
                          · have := (cls_great c hh.1 hh.2).2; rw [HUP.out] at this; cases this
                        have hcs : smallOf c.toNat = cur := by rw [← HCL.out]; exact (cls_small c hsm).1.symm
                        have HNX := Lib.hid (show readF s = rdF (s.data.toList.drop (i + 1)) (i + 1) (n + 1) (ls ++ [(cur, 0)]) st by
                          rw [HRD.out, rdF_cons, if_neg (by rintro ⟨h3, _⟩; exact H32.out (UInt8.toNat.inj h3)), if_pos hsm, if_neg H512.out, hcs])
                        clear hsm hcs

                        have hinfo : (Try.prog.info? 66).map (fun i => (i.zero, i.size, i.bytes)) = some (some (.agg #[.int .i64 0, .int .i64 0]), 2, 16) := by kernel_rfl
                        obtain ⟨j0, hj, jz0, jz1, jz2⟩ := info_parts hinfo
                        clear hinfo
                        go_wp2_with (at_builtin; refine wpList_append_own _ rfl _ _ 23 rfl (w.heap.size + 3) 66 j0 (.agg #[.int .i64 0, .int .i64 0]) 2 16 Try.underlying23 hj jz0 jz1 jz2 rfl (by decide) _ _ _ rfl ((HZ.out.o1.alloc _).alloc _) ⟨wz.heap.size + 1, 0, none⟩ 1 1 [.int .i64 cur, .int .i64 0] rfl rfl ?_ ?_ ?_ ?_ ?_ ?_)
                        · intro j u hj
                          match j, hj with
                          | 0, hj => simp at hj; subst hj; simp [Addr.add]
                          | 1, hj => simp at hj; subst hj; simp [Addr.add]
                        · intro u hu; simp at hu; rcases hu with rfl | rfl <;> rfl
                        · unfold maxLen; have := H512.out; omega
                        · have := H512.out; omega
                        · have := HZ.out.b2.lt; simp; omega
                        · intro v' w4 hown' hgrow _
                          have hrow : ∀ k, (Value.slice A1 ls.length C1).ownBlock = some k → w.heap.size + 3 ≤ k := fun k hk => (HZ.out.o1.lt k hk).1
                          have hmid := (HZ.out.alloc _).mid _ hrow _ hgrow
                          have g0 : w4.cell? ⟨w.heap.size + 1 + 1, 0, none⟩ = some (.slice A1 ls.length C1) := hmid.cell 0
                          have g2 : w4.frozen? ⟨w.heap.size + 1 + 1, 0, none⟩ = false := hmid.frozen 0
                          have H4 := Lib.hid ((HZ.out.alloc _).put (ls' := ls ++ [(cur, 0)]) (st' := st ++ [(n : Int)]) _ hrow _ hgrow 0 v' rfl (by simpa [prs] using hown') (((HZ.out.o2.alloc _).alloc _).kept hgrow (own_ne (HZ.out.o2) (HZ.out.o1) (by decide))))
                          obtain ⟨A3, C3, rfl⟩ := own_slice hown'
                          clear hown' hgrow hmid hrow hj jz0 jz1 jz2
                          go_wp2_with (refine list_abs (RSt w (ls ++ [(cur, 0)]) (st ++ [(n : Int)]) _ (.slice (some ⟨g, 0, none⟩) (st.length + 1) C)) H4.out ?_)
                          intro w5 h5
                          clear g0 g2 H4
                          have c21 : w5.cell? ⟨w.heap.size + 1 + 1, 1, none⟩ = some (.slice (some ⟨g, 0, none⟩) (st.length + 1) C) := h5.b2.cell 1
                          obtain ⟨q1, q2⟩ := last_cell h5.o2
                          have HB := Lib.hid (h5.bump ((n : Int) + 1))
                          clear h5
                          go_wp2
                          go_roundw
                          case rel => exact ⟨i + 1, n + 1, ls ++ [(cur, 0)], st, _, _, by omega, by go_num, by omega, by omega, by have := H512.out; simp; omega, by simp; omega, Lib.hid ⟨by rw [if_neg (by omega)]; exact HB.out, ⟨fun hh => absurd hh (by omega), fun hh => by
                              rcases hh with hh | hh
                              · omega
                              · (rw [show i + 1 - 1 = i by omega, HC.out] at hh; injection hh with hh; exact absurd hh H32.out)⟩, .inr HNX.out⟩⟩
                          case measure => simp [intOf]; omega
    · have hie : i = s.size := by omega
      have hdn : s.data.toList.drop i = [] := List.drop_of_length_le (by simp; omega)
      by_cases h0 : s.size = 0
      · have hn0 : n = 0 := by omega
        have hl0 : ls = [] := List.eq_nil_of_length_eq_zero (by omega)
        have hs0 : st = [] := List.eq_nil_of_length_eq_zero (by omega)
        subst hl0 hs0
        have hr : readF s = .ok [] [] := by unfold readF; rw [if_neg (by omega), if_pos h0]
        have HT2 := Lib.hid hr
        have H := HX.out.1
        simp only [if_pos hn0] at H
        obtain ⟨A1, C1, rfl⟩ := own_slice H.o1
        obtain ⟨A2, C2, rfl⟩ := own_slice H.o2
        have HF := Lib.hid H
        have h0b : decide ((0 : Int) < (s.size : Int)) = false := decide_eq_false (by omega)
        have h0c : (s.size : Int) ≤ 0 := by omega
        clear hr H hie hdn h0
        have b00 : wr.cell? ⟨w.heap.size, 0, none⟩ = some (.slice none 0 0) := HF.out.b0.cell 0
        have b01 : wr.cell? ⟨w.heap.size, 1, none⟩ = some (.slice none 0 0) := HF.out.b0.cell 1
        have b10 : wr.cell? ⟨w.heap.size + 1, 0, none⟩ = some (.int .i64 0) := HF.out.b1.cell 0
        have b11 : wr.cell? ⟨w.heap.size + 1, 1, none⟩ = some (.int .i64 0) := HF.out.b1.cell 1
        have b20 : wr.cell? ⟨w.heap.size + 1 + 1, 0, none⟩ = some (.slice A1 ([] : List (Int × Int)).length C1) := HF.out.b2.cell 0
        have b21 : wr.cell? ⟨w.heap.size + 1 + 1, 1, none⟩ = some (.slice A2 ([] : List Int).length C2) := HF.out.b2.cell 1
        have f00 := HF.out.b0.frozen 0
        have f01 := HF.out.b0.frozen 1
        have f10 := HF.out.b1.frozen 0
        have f11 := HF.out.b1.frozen 1
        generalize hL : ([] : List (Int × Int)).length = L at b20
        generalize hS : ([] : List Int).length = M at b21
        have HL := Lib.hid hL
        have HS := Lib.hid hS
        clear hL hS
        go_wp2
        refine bodyPost_ret (v := .tuple #[.agg #[.slice A1 L C1, .slice A2 M C2], .agg #[.int .i64 0, .int .i64 0]]) (by simp [results, Try.results14, go_sem, b00, b01, b10, b11]) rfl ⟨?_, ?_⟩
        · exact (((HF.out.below.setCell (by simp) _).setCell (by simp) _).setCell (by simp) _).setCell (by simp) _
        · rw [HT2.out]
          refine ⟨A1, C1, A2, C2, by rw [HL.out, HS.out], ?_, ?_⟩
          · exact own_more (own_setCell (own_setCell (own_setCell (own_setCell HF.out.o1 (by simp) _) (by simp) _) (by simp) _) (by simp) _) (by omega)
          · exact own_more (own_setCell (own_setCell (own_setCell (own_setCell HF.out.o2 (by simp) _) (by simp) _) (by simp) _) (by simp) _) (by omega)

      · have hpos : (0 : Int) < (s.size : Int) := by omega
        obtain ⟨p, hp⟩ : ∃ p, s.data.toList[s.size - 1]? = some p := ⟨_, List.getElem?_eq_getElem (by simp; omega)⟩
        have hpi := run_index_at s (s.size - 1) p hp ((s.size : Int) - 1) (by omega)
        have hrd := HX.out.2.2.resolve_left h0
        rw [hdn] at hrd
        have hiff := HX.out.2.1
        rw [hie, hp] at hiff
        by_cases hn0 : n = 0
        · have hp32 : p = 32 := by
            have := (hiff.1 hn0).resolve_left h0
            injection this
          have hpb : ((p.toNat : Int) == 32) = true := by rw [hp32]; rfl
          have hbad : readF s = .bad 160 s.size := by rw [hrd]; simp only [rdF]; rw [if_neg (show ¬ 0 < n by omega), hie]
          have HTB := Lib.hid hbad
          have H := Lib.hid HX.out.1
          clear hbad hp32 hn0 hiff hrd hp hie hdn h0
          go_wp2_with fail
          refine (wrong_any _ _ _).mono ?_
          rintro e9 w9 ⟨rfl, hb9⟩
          have H9 := Lib.hid (H.out.on hb9)
          clear hb9
          have b10 : w9.cell? ⟨w.heap.size, 0, none⟩ = some (.slice none 0 0) := H9.out.b0.cell 0
          have b11 : w9.cell? ⟨w.heap.size, 1, none⟩ = some (.slice none 0 0) := H9.out.b0.cell 1
          have b20 : w9.cell? ⟨w.heap.size + 1, 0, none⟩ = some (.int .i64 0) := H9.out.b1.cell 0
          have b21 : w9.cell? ⟨w.heap.size + 1, 1, none⟩ = some (.int .i64 0) := H9.out.b1.cell 1
          have f10 := H9.out.b0.frozen 0
          have f11 := H9.out.b0.frozen 1
          have f20 := H9.out.b1.frozen 0
          have f21 := H9.out.b1.frozen 1
          go_wp2
          refine bodyPost_ret (v := .tuple #[.agg #[.slice none 0 0, .slice none 0 0], .agg #[.int .i64 160, .int .i64 s.size]]) (by simp [results, Try.results14, go_sem, b10, b11, b20, b21]) rfl ⟨?_, ?_⟩
          · exact (((H9.out.below.setCell (by simp) _).setCell (by simp) _).setCell (by simp) _).setCell (by simp) _
          · rw [HTB.out]

        · have hpb : ((p.toNat : Int) == 32) = false := by
            rw [beq_eq_false_iff_ne]
            intro hh
            exact hn0 (hiff.2 (.inr (by congr 1; exact UInt8.toNat.inj (by show p.toNat = 32; omega))))
          have hr : readF s = .ok ls (st ++ [(n : Int)]) := by rw [hrd]; simp only [rdF]; rw [if_pos (show 0 < n by omega)]
          have HT2 := Lib.hid hr
          have H := HX.out.1
          simp only [if_neg hn0] at H
          obtain ⟨A1, C1, rfl⟩ := own_slice H.o1
          obtain ⟨A2, C2, rfl⟩ := own_slice H.o2
          have HF := Lib.hid H
          clear hr H hie hdn h0 hn0 hiff hrd hp
          have b00 : wr.cell? ⟨w.heap.size, 0, none⟩ = some (.slice none 0 0) := HF.out.b0.cell 0
          have b01 : wr.cell? ⟨w.heap.size, 1, none⟩ = some (.slice none 0 0) := HF.out.b0.cell 1
          have b10 : wr.cell? ⟨w.heap.size + 1, 0, none⟩ = some (.int .i64 0) := HF.out.b1.cell 0
          have b11 : wr.cell? ⟨w.heap.size + 1, 1, none⟩ = some (.int .i64 0) := HF.out.b1.cell 1
          have b20 : wr.cell? ⟨w.heap.size + 1 + 1, 0, none⟩ = some (.slice A1 (ls : List (Int × Int)).length C1) := HF.out.b2.cell 0
          have b21 : wr.cell? ⟨w.heap.size + 1 + 1, 1, none⟩ = some (.slice A2 ((st ++ [(n : Int)]) : List Int).length C2) := HF.out.b2.cell 1
          have f00 := HF.out.b0.frozen 0
          have f01 := HF.out.b0.frozen 1
          have f10 := HF.out.b1.frozen 0
          have f11 := HF.out.b1.frozen 1
          generalize hL : (ls : List (Int × Int)).length = L at b20
          generalize hS : ((st ++ [(n : Int)]) : List Int).length = M at b21
          have HL := Lib.hid hL
          have HS := Lib.hid hS
          clear hL hS
          go_wp2
          refine bodyPost_ret (v := .tuple #[.agg #[.slice A1 L C1, .slice A2 M C2], .agg #[.int .i64 0, .int .i64 0]]) (by simp [results, Try.results14, go_sem, b00, b01, b10, b11]) rfl ⟨?_, ?_⟩
          · exact (((HF.out.below.setCell (by simp) _).setCell (by simp) _).setCell (by simp) _).setCell (by simp) _
          · rw [HT2.out]
            refine ⟨A1, C1, A2, C2, by rw [HL.out, HS.out], ?_, ?_⟩
            · exact own_more (own_setCell (own_setCell (own_setCell (own_setCell HF.out.o1 (by simp) _) (by simp) _) (by simp) _) (by simp) _) (by omega)
            · exact own_more (own_setCell (own_setCell (own_setCell (own_setCell HF.out.o2 (by simp) _) (by simp) _) (by simp) _) (by simp) _) (by omega)
end Go.Proofs.Ytbjfbmienlojkaa
