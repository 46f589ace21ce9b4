/- Join and the reference's Join: words for memory.
   Join: the walk. -/
import Derived.Test.YtbjfbmienlojkaaT67
import Derived.Test.YtbjfbmienlojkaaT62
import Derived.Deep.QuietTactic
import Derived.BigQuiet
import Derived.StillTailTactics
namespace Go.Proofs.Ytbjfbmienlojkaa
open Go.RowKit Go.Maps

/-- marks as cells -/
def arr (n : Nat) (f : Nat → Nat) : Array Value := ((mks n f).map (Value.int .i64)).toArray
theorem arr_size (n : Nat) (f : Nat → Nat) : (arr n f).size = n := by simp [arr, mks_len]
theorem arr_get {n : Nat} (f : Nat → Nat) {j : Nat} (h : j < n) : (arr n f)[j]? = some (.int .i64 (f j)) := by
  unfold arr
  rw [List.getElem?_toArray, List.getElem?_map, mks_get f h]
  rfl
theorem arr_of {n : Nat} {f : Nat → Nat} {cs : Array Value} (h : cs.size = n) (hc : ∀ j, j < n → cs[j]? = some (.int .i64 (f j))) : cs = arr n f := by
  apply Array.ext_getElem?
  intro j
  by_cases hj : j < n
  · rw [hc j hj, arr_get f hj]
  · rw [Array.getElem?_eq_none (by omega), Array.getElem?_eq_none (by rw [arr_size]; omega)]
theorem arr_set (n : Nat) (f : Nat → Nat) (i x : Nat) : (arr n f).setIfInBounds i (.int .i64 x) = arr n (upd f i x) := by
  refine arr_of (by simp [arr_size]) fun j hj => ?_
  rw [Array.getElem?_setIfInBounds]
  by_cases e : i = j
  · subst e
    rw [if_pos rfl, if_pos (by rw [arr_size]; exact hj), upd_same]
  · rw [if_neg e, arr_get f hj, upd_other _ _ _ (fun he => e he.symm)]
theorem rd_arr {w : World} {g n L : Nat} {f : Nat → Nat} (h : Blk w g 3 (arr n f)) (hL : L ≤ g) : Rd w L w.heap.size 1 (some ⟨g, 0, none⟩) n ((mks n f).map (Value.int .i64)) := by
  refine ⟨by simp [mks_len], fun _ => ⟨g, 0, rfl, hL, h.lt, fun k v hk => ?_⟩⟩
  rw [Nat.zero_add, h.cell]
  unfold arr
  rw [List.getElem?_toArray]
  exact hk
theorem made_full {P : Program} (t e : TypeId) (i : TypeInfo) (z : Value) (size : Nat) (ht : P.underlying t = some (.slice e)) (hi : P.info? e = some i) (hz : i.zero = some z) (hsize : i.size = size)
    (c : Nat) (hbytes : i.bytes * c ≤ 281474976710656) (h63 : c ≤ maxLen) : ∃ Z : Array Value, Z.size = c * size ∧ ∀ w, (Instr.makeSlice t (.int .i64 (c : Int)) (.int .i64 (c : Int))).run P w = .ok (.slice (some ⟨w.heap.size, 0, none⟩) c c) (w.alloc (.cells Z e)) := by
  subst hsize
  refine ⟨madeCells z.cells (c * i.size), size_madeCells _ _, fun w => ?_⟩
  have h63' : (c : Int) ≤ 9223372036854775807 := by
    have h := h63
    simp [maxLen] at h
    omega
  have hb' : (i.bytes : Int) * (c : Int) ≤ 281474976710656 := by
    have h : ((i.bytes * c : Nat) : Int) ≤ 281474976710656 := by omega
    rwa [Int.natCast_mul] at h
  have hr := run_make (P := P) w t e i z ht hi hz .i64 .i64 c c (by omega) (Int.le_refl _) hb' h63'
  simpa using hr

theorem blk_ne {w : World} {g g' : Nat} {t t' : TypeId} {cs cs' : Array Value} (h1 : Blk w g t cs) (h2 : Blk w g' t' cs') (ht : t ≠ t') : g ≠ g' := fun e => by
  subst e
  unfold Blk at h1 h2
  rw [h1] at h2
  injection h2 with h2
  injection h2 with _ h3
  exact ht h3

/-- memory while marks are joined -/
structure JkSt (w0 : World) (a1 a2 b1 b2 : Value) (g : Nat) (cs : Array Value) (w : World) : Prop where
  two : TwoIn w0 a1 a2 b1 b2 w
  b4 : Blk w (w0.heap.size + 2) 26 #[.slice none 0 0, .slice none 0 0]
  bk : Blk w g 3 cs
  s1 : w0.heap.size + 3 ≤ g
section
variable {w0 : World} {a1 a2 b1 b2 : Value} {g : Nat} {cs : Array Value} {w w' : World}
theorem JkSt.on (h : JkSt w0 a1 a2 b1 b2 g cs w) (hb : Below w.heap.size w w') : JkSt w0 a1 a2 b1 b2 g cs w' := ⟨h.two.on hb, h.b4.below hb h.b4.lt, h.bk.below hb h.bk.lt, h.s1⟩
theorem TwoIn.put (h : TwoIn w0 a1 a2 b1 b2 w) {p : Addr} (hp : w0.heap.size + 2 ≤ p.block) (u : Value) : TwoIn w0 a1 a2 b1 b2 (w.setCell p u) := ⟨h.b0.far (by omega) u, h.b1.far (by omega) u, h.below.setCell (by omega) u⟩
theorem JkSt.put (h : JkSt w0 a1 a2 b1 b2 g cs w) (i : Nat) (u : Value) : JkSt w0 a1 a2 b1 b2 g (cs.setIfInBounds i u) (w.setCell ⟨g, i, none⟩ u) := by
  have := h.s1
  exact ⟨h.two.put (by simp; omega) u, h.b4.far (by simp; omega) u, h.bk.set_ i u, h.s1⟩
theorem JkSt.set {n : Nat} {f : Nat → Nat} (h : JkSt w0 a1 a2 b1 b2 g (arr n f) w) (i x : Nat) : JkSt w0 a1 a2 b1 b2 g (arr n (upd f i x)) (w.setCell ⟨g, i, none⟩ (.int .i64 x)) := by
  have := h.put i (.int .i64 x)
  rw [arr_set] at this
  exact this
theorem JkSt.cell {n : Nat} {f : Nat → Nat} (h : JkSt w0 a1 a2 b1 b2 g (arr n f) w) {j : Nat} (hj : j < n) : w.cell? ⟨g, j, none⟩ = some (.int .i64 (f j)) := by rw [h.bk.cell, arr_get f hj]
end
/-- .. and the box that holds the marks' slice -/
structure JoSt (w0 : World) (a1 a2 b1 b2 : Value) (g n : Nat) (cs : Array Value) (w : World) : Prop where
  jk : JkSt w0 a1 a2 b1 b2 g cs w
  bx : Blk w (g + 1) 24 #[.slice (some ⟨g, 0, none⟩) n n]
section
variable {w0 : World} {a1 a2 b1 b2 : Value} {g n : Nat} {cs : Array Value} {w w' : World}
theorem JoSt.on (h : JoSt w0 a1 a2 b1 b2 g n cs w) (hb : Below w.heap.size w w') : JoSt w0 a1 a2 b1 b2 g n cs w' := ⟨h.jk.on hb, h.bx.below hb h.bx.lt⟩
theorem JoSt.put (h : JoSt w0 a1 a2 b1 b2 g n cs w) (i : Nat) (u : Value) : JoSt w0 a1 a2 b1 b2 g n (cs.setIfInBounds i u) (w.setCell ⟨g, i, none⟩ u) := ⟨h.jk.put i u, h.bx.far (by simp) u⟩
theorem JoSt.set {f : Nat → Nat} (h : JoSt w0 a1 a2 b1 b2 g n (arr n f) w) (i x : Nat) : JoSt w0 a1 a2 b1 b2 g n (arr n (upd f i x)) (w.setCell ⟨g, i, none⟩ (.int .i64 x)) := ⟨h.jk.set i x, h.bx.far (by simp) _⟩
end
/-- what the joining goes through: nothing, the first scheme, both -/
def jnFs (l1 l2 : List (Int × Int)) (n : Nat) : Nat → Nat → Nat
  | 0 => fun i => i
  | 1 => jnRun l1 (fun i => i) n
  | _ + 2 => jnAll l1 l2 n
theorem jnFs_le (l1 l2 : List (Int × Int)) (n k : Nat) : ∀ j, jnFs l1 l2 n k j ≤ j := by
  match k with
  | 0 => exact fun _ => Nat.le_refl _
  | 1 => exact jnRun_le (fun _ => Nat.le_refl _) n
  | _ + 2 => exact jnRun_le (jnRun_le (fun _ => Nat.le_refl _) n) n
/-- the marks' sum, as the world has it -/
def sumW (w : World) (g : Nat) : Nat := match w.heap[g]? with | some (.cells cs _ _) => (cs.toList.map fun v => (intOf v).toNat).sum | _ => 0
theorem sumW_of {w : World} {g n : Nat} {f : Nat → Nat} (h : Blk w g 3 (arr n f)) : sumW w g = sumM n f := by
  unfold sumW
  unfold Blk at h
  rw [h]
  simp only [arr, mks, sumM, List.map_map]
  congr 1
end Go.Proofs.Ytbjfbmienlojkaa

namespace Go.Proofs.Ytbjfbmienlojkaa
open Go.RowKit Go.Maps

set_option maxHeartbeats 4000000 in
set_option maxRecDepth 100000 in
theorem join_ok (A1 A2 B1 B2 : Option Addr) (n c1 n2 c2 d1 m2 d2 L1 L2 L3 L4 : Nat) (l1 l2 : List (Int × Int)) (s1 s2 : List Int) (w : World)
    (h1 : Rd w L1 w.heap.size 2 A1 n (prs l1)) (h2 : Rd w L2 w.heap.size 1 A2 n2 (s1.map (Value.int .i64))) (h3 : Rd w L3 w.heap.size 2 B1 n (prs l2)) (h4 : Rd w L4 w.heap.size 1 B2 m2 (s2.map (Value.int .i64)))
    (hm : mayTwo l1 l2 s1 s2 = true) :
    Calls Try.prog 46 #[.agg #[.slice A1 n c1, .slice A2 n2 c2], .agg #[.slice B1 n d1, .slice B2 m2 d2]] w fun e w' => ∃ E1 e1 E2 e2, e = .returned (.tuple #[.agg #[.slice E1 (madeL l1 l2 (jnF l1 l2 n)).length e1, .slice E2 (madeS l1 l2 (jnF l1 l2 n) s1).length e2], .int .i64 (madeE l1 l2 (jnF l1 l2 n))]) ∧
      w'.ownsRow w.heap.size 66 2 (.slice E1 (madeL l1 l2 (jnF l1 l2 n)).length e1) (madeL l1 l2 (jnF l1 l2 n)).length (prs (madeL l1 l2 (jnF l1 l2 n))) ∧ w'.ownsRow w.heap.size 3 1 (.slice E2 (madeS l1 l2 (jnF l1 l2 n) s1).length e2) (madeS l1 l2 (jnF l1 l2 n) s1).length ((madeS l1 l2 (jnF l1 l2 n) s1).map (Value.int .i64)) ∧ Below w.heap.size w w' := by
  have hln : l1.length = n := by have := h1.1; rw [prs_len] at this; omega
  have hln2 : l2.length = n := by have := h3.1; rw [prs_len] at this; omega
  obtain ⟨hm1, hm2, _⟩ := mayTwo_parts hm
  have hn : n ≤ 512 := by rw [← hln]; exact mayLen hm1
  have e2 : n2 ≤ 512 := by have := mayStan hm1; have := h2.1; simp at this; omega
  have e4 : m2 ≤ 512 := by have := mayStan hm2; have := h4.1; simp at this; omega
  have H1 := Lib.hid h1
  have H2 := Lib.hid h2
  have H3 := Lib.hid h3
  have H4 := Lib.hid h4
  have HM := Lib.hid hm
  have HOK := Lib.hid (And.intro (mayLine hm1) (mayLine hm2))
  have hinfo : (Try.prog.info? 3).map (fun i => (i.zero, i.size, i.bytes)) = some (some (.int .i64 0), 1, 8) := by kernel_rfl
  obtain ⟨i0, hi, hz0, hz1, hz2⟩ := info_parts hinfo
  obtain ⟨Z, hZ, hmk⟩ := made_full 24 3 i0 _ 1 Try.underlying24 hi hz0 hz1 n (by rw [hz2]; omega) (by unfold maxLen; omega)
  have hinf : (Try.prog.info? 100).map (·.size) = some 25 := by kernel_rfl
  have HI100 := Lib.hid hinf
  have HZ := Lib.hid hZ
  clear h1 h2 h3 h4 hm hln hln2 hm1 hm2 hi hz0 hz1 hz2 hinfo hZ hinf
  go_enter Try.func46, Try.ntmps46
  go_upto_region 1 with (fail)
  refine wp_abs (fun wx => TwoIn w (.slice A1 n c1) (.slice A2 n2 c2) (.slice B1 n d1) (.slice B2 m2 d2) wx ∧ Blk wx (w.heap.size + 2) 26 #[.slice none 0 0, .slice none 0 0] ∧ wx.heap.size = w.heap.size + 3) ⟨(TwoIn.init w _ _ _ _).on ((Below.refl _ _).alloc (Nat.le_refl _) _), blk_new_eq (by simp), by simp⟩ ?_
  rintro w1 ⟨hw, hq, hsz⟩
  have c0 : w1.cell? ⟨w.heap.size, 0, none⟩ = some (.slice A1 n c1) := hw.b0.cell 0
  have c1' : w1.cell? ⟨w.heap.size, 1, none⟩ = some (.slice A2 n2 c2) := hw.b0.cell 1
  have d0 : w1.cell? ⟨w.heap.size + 1, 0, none⟩ = some (.slice B1 n d1) := hw.b1.cell 0
  have d1' : w1.cell? ⟨w.heap.size + 1, 1, none⟩ = some (.slice B2 m2 d2) := hw.b1.cell 1
  have HW := Lib.hid (And.intro hw hq)
  clear hw hq
  go_wp2_with fail
  refine (mayTwo_any A1 A2 B1 B2 n c1 n2 c2 n d1 m2 d2 L1 L2 L3 L4 l1 l2 s1 s2 w1 (H1.out.up HW.out.1.below HW.out.1.below.size) (H2.out.up HW.out.1.below HW.out.1.below.size) (H3.out.up HW.out.1.below HW.out.1.below.size) (H4.out.up HW.out.1.below HW.out.1.below.size) (by unfold maxLen; omega) (by unfold maxLen; omega) (by unfold maxLen; omega) (by unfold maxLen; omega)).mono ?_
  rw [HM.out]
  rintro e w2 ⟨rfl, hb2⟩
  have HX := Lib.hid (And.intro (HW.out.1.on hb2) (HW.out.2.below hb2 HW.out.2.lt))
  have hsz2 : w.heap.size + 3 ≤ w2.heap.size := by have := hb2.size; omega
  clear c0 c1' d0 d1' hb2 HW hsz
  simp only [errOf]
  have c0 : w2.cell? ⟨w.heap.size, 0, none⟩ = some (.slice A1 n c1) := HX.out.1.b0.cell 0
  go_upto_region 5 with (fail)
  generalize hg : w2.heap.size = g at *
  refine wp_abs (JoSt w (.slice A1 n c1) (.slice A2 n2 c2) (.slice B1 n d1) (.slice B2 m2 d2) g n Z) ?_ ?_
  · subst hg
    exact ⟨⟨HX.out.1.on (((Below.refl _ _).alloc (Nat.le_refl _) _).alloc (by simp) _), (HX.out.2.alloc _).alloc _, (Blk.new _ _ _).alloc _, hsz2⟩, blk_new_eq (by simp)⟩
  intro w3 hS
  have x0 : w3.cell? ⟨g + 1, 0, none⟩ = some (.slice (some ⟨g, 0, none⟩) n n) := hS.bx.cell 0
  have HS := Lib.hid hS
  clear hS HX hmk c0 hsz2 hg
  go_wp2
  clear x0
  go_loopw [31] (fun iv wr => ∃ (i : Nat) (cs : Array Value), i ≤ n ∧ iv = .int .i64 i ∧ Hid (JoSt w (.slice A1 n c1) (.slice A2 n2 c2) (.slice B1 n d1) (.slice B2 m2 d2) g n cs wr ∧ cs.size = n ∧ ∀ j, j < i → cs[j]? = some (.int .i64 j))) (fun iv _ => n - (intOf iv).toNat)
  case atStart => exact ⟨0, Z, by omega, rfl, Lib.hid ⟨HS.out, by rw [HZ.out, Nat.mul_one], fun j hj => absurd hj (Nat.not_lt_zero _)⟩⟩
  case round =>
    obtain ⟨i, cs, hi, rfl, HR⟩ := hrel
    clear HS
    by_cases hlt : i < n
    · have x0 : wr.cell? ⟨g + 1, 0, none⟩ = some (.slice (some ⟨g, 0, none⟩) n n) := HR.out.1.bx.cell 0
      have y0 : wr.cell? ⟨g, i, none⟩ = some (cs[i]'(by rw [HR.out.2.1]; exact hlt)) := by rw [HR.out.1.jk.bk.cell, Array.getElem?_eq_getElem]
      have f0 : wr.frozen? ⟨g, i, none⟩ = false := HR.out.1.jk.bk.frozen i
      go_wp2
      go_roundw
      case rel => exact ⟨i + 1, _, by omega, by go_num, Lib.hid ⟨HR.out.1.put i _, by simp; exact HR.out.2.1, fun j hj => by
        rw [Array.getElem?_setIfInBounds]
        by_cases e : i = j
        · subst e; rw [if_pos rfl, if_pos (by rw [HR.out.2.1]; exact hlt)]
        · rw [if_neg e]; exact HR.out.2.2 j (by omega)⟩⟩
      case measure => simp [intOf]; omega
    · have hin : n = i := by omega
      subst hin
      have hcs : cs = arr n (jnFs l1 l2 n 0) := arr_of HR.out.2.1 fun j hj => HR.out.2.2 j hj
      subst hcs
      have HS := Lib.hid HR.out.1
      have a0 : wr.cell? ⟨w.heap.size, 0, none⟩ = some (.slice A1 n c1) := HR.out.1.jk.two.b0.cell 0
      have a1 : wr.cell? ⟨w.heap.size, 1, none⟩ = some (.slice A2 n2 c2) := HR.out.1.jk.two.b0.cell 1
      have b0 : wr.cell? ⟨w.heap.size + 1, 0, none⟩ = some (.slice B1 n d1) := HR.out.1.jk.two.b1.cell 0
      have b1 : wr.cell? ⟨w.heap.size + 1, 1, none⟩ = some (.slice B2 m2 d2) := HR.out.1.jk.two.b1.cell 1
      clear HR
      go_wp2
      clear a0 a1 b0 b1
      go_loopw [43] (fun kv wr => ∃ k : Nat, k ≤ 2 ∧ kv = .int .i64 k ∧ Hid (JoSt w (.slice A1 n c1) (.slice A2 n2 c2) (.slice B1 n d1) (.slice B2 m2 d2) g n (arr n (jnFs l1 l2 n k)) wr)) (fun kv _ => 2 - (intOf kv).toNat)
      case atStart => exact ⟨0, by omega, rfl, HS⟩
      case round =>
        obtain ⟨k, hk, rfl, HR⟩ := hrel
        clear HS
        by_cases hlt2 : k < 2
        · obtain ⟨A, C, A', N', C', L, ls, hix, HL, HO, HF⟩ : ∃ (A : Option Addr) (C : Nat) (A' : Option Addr) (N' C' L : Nat) (ls : List (Int × Int)), (∀ wq, (Instr.index 112 (.agg #[.slice A1 n c1, .slice A2 n2 c2, .slice B1 n d1, .slice B2 m2 d2]) (.int .i64 (k : Int))).run Try.prog wq = .ok (.agg #[.slice A n C, .slice A' N' C']) wq) ∧
              Hid (Rd w L w.heap.size 2 A n (prs ls)) ∧ Hid (∀ p ∈ ls, lineOk p = true) ∧ Hid (jnFs l1 l2 n (k + 1) = jnRun ls (jnFs l1 l2 n k) n) := by
            match k, hlt2 with
            | 0, _ => exact ⟨A1, c1, A2, n2, c2, L1, l1, fun _ => by kernel_rfl, H1, Lib.hid HOK.out.1, Lib.hid rfl⟩
            | 1, _ => exact ⟨B1, d1, B2, m2, d2, L3, l2, fun _ => by kernel_rfl, H3, Lib.hid HOK.out.2, Lib.hid rfl⟩
          have hfle := jnFs_le l1 l2 n k
          generalize jnFs l1 l2 n k = f0 at *
          have HFL := Lib.hid hfle
          clear hfle
          go_upto_region 14 with (fail)
          refine wp_abs (fun wx => JoSt w (.slice A1 n c1) (.slice A2 n2 c2) (.slice B1 n d1) (.slice B2 m2 d2) g n (arr n f0) wx ∧ Blk wx wr.heap.size 26 #[.slice A n C, .slice A' N' C']) ⟨HR.out.on ((Below.refl _ _).alloc (Nat.le_refl _) _), Blk.new _ _ _⟩ ?_
          rintro w4 ⟨hS, hB⟩
          have a0 : w4.cell? ⟨wr.heap.size, 0, none⟩ = some (.slice A n C) := hB.cell 0
          have a1 : w4.cell? ⟨wr.heap.size, 1, none⟩ = some (.slice A' N' C') := hB.cell 1
          have HT := Lib.hid (And.intro hS hB)
          clear hS hB HR hix
          generalize hsb : wr.heap.size = sb at *
          go_wp2_with fail
          refine (firsts_any A A' n C N' C' L ls w4 (HL.out.up HT.out.1.jk.two.below HT.out.1.jk.two.below.size) hn HO.out).mono ?_
          rintro e w5 ⟨cs, rfl, hcs1, hcs2, hb5⟩
          have hu := Try.underlying100
          have HB := Lib.hid (And.intro (And.intro (HT.out.1.on hb5) (HT.out.2.below hb5 HT.out.2.lt)) (And.intro hcs1 (And.intro hcs2 (cells_one hcs1 hcs2))))
          clear a0 a1 hb5 HT hcs1 hcs2
          go_upto_region 15 with (refine wpList_store_row rfl 100 _ _ rfl w5.heap.size cs rfl rfl 100 _ (heap_alloc_new w5 _) (by rw [HI100.out, HB.out.2.1]) (by rw [HB.out.2.1]; rfl) HB.out.2.2.2 ?_)
          generalize hfb : w5.heap.size = fb at *
          refine wp_abs (fun wx => JoSt w (.slice A1 n c1) (.slice A2 n2 c2) (.slice B1 n d1) (.slice B2 m2 d2) g n (arr n f0) wx ∧ Blk wx sb 26 #[.slice A n C, .slice A' N' C'] ∧ Blk wx fb 100 cs) ?_ ?_
          · subst hfb
            have hB : ∀ z, Below w5.heap.size w5 ((w5.alloc (.cells z 100)).setRow w5.heap.size cs) := fun z => below_setRow ((Below.refl _ _).alloc (Nat.le_refl _) _) (Nat.le_refl _) cs
            exact ⟨HB.out.1.1.on (hB _), HB.out.1.2.below (hB _) HB.out.1.2.lt, setRow_heap _ _ _ _ _ _ (Blk.new w5 100 _)⟩
          rintro w6 ⟨hS, hB1, hB2⟩
          have a0 : w6.cell? ⟨sb, 0, none⟩ = some (.slice A n C) := hB1.cell 0
          have HS := Lib.hid (And.intro hS (And.intro hB1 hB2))
          have HC := Lib.hid HB.out.2
          clear hS hB1 hB2 HB hu hfb hsb
          go_wp2
          clear a0
          go_loopw [51] (fun iv wq => ∃ i : Nat, i ≤ n ∧ iv = .int .i64 i ∧ Hid (JoSt w (.slice A1 n c1) (.slice A2 n2 c2) (.slice B1 n d1) (.slice B2 m2 d2) g n (arr n (jnRun ls f0 i)) wq ∧ Blk wq sb 26 #[.slice A n C, .slice A' N' C'] ∧ Blk wq fb 100 cs)) (fun iv _ => n - (intOf iv).toNat)
          case atStart => exact ⟨0, by omega, rfl, HS⟩
          case round =>
            obtain ⟨i, hi2, rfl, HR⟩ := hrel
            clear HS
            by_cases hlt3 : i < n
            · have hbw := HR.out.1.jk.two.below
              obtain ⟨b, o, hl, rfl, hL, hB, p1, p2⟩ := (HL.out.up hbw hbw.size).two hlt3
              have hok := HO.out _ (List.getElem_mem hl)
              have hce : clsAt ls i = ls[i].1 := clsAt_get hl
              generalize ls[i] = x at p1 p2 hok hce
              obtain ⟨cl, rf⟩ := x
              have hbb := (lineOk_iff (cl, rf)).1 hok
              simp only at hbb p1 p2 hce
              have g1 := hbb.1
              have g2 := hbb.2.1
              have hst : jnRun ls f0 (i + 1) = jnStep ls i (jnRun ls f0 i) := rfl
              have hjl := jnRun_le (ls := ls) HFL.out i
              have hfr : 0 ≤ cl → frst ls n cl = firstF ls i + 1 := fun h0 => by
                have := first_frst ls (i := i) (n := n) hlt3 (by rw [hce]; exact h0)
                rw [hce] at this
                exact this
              have hfle := firstF_le ls i
              unfold jnStep at hst
              rw [hce] at hst
              generalize firstF ls i = ff at *
              generalize hjr : jnRun ls f0 (i + 1) = f1 at *
              generalize jnRun ls f0 i = f at *
              have HJ := Lib.hid (And.intro hst (And.intro hjl hfr))
              have HJR := Lib.hid hjr
              clear hst hjl hfr hok hbb hce hjr
              go_upto_region 18 with (fail)
              refine wp_abs (fun wx => JoSt w (.slice A1 n c1) (.slice A2 n2 c2) (.slice B1 n d1) (.slice B2 m2 d2) g n (arr n f) wx ∧ Blk wx sb 26 #[.slice (some ⟨b, o, none⟩) n C, .slice A' N' C'] ∧ Blk wx fb 100 cs ∧ Blk wx wr.heap.size 66 #[.int .i64 cl, .int .i64 rf]) ?_ ?_
              · have hB : ∀ z, Below wr.heap.size wr (wr.alloc z) := fun z => (Below.refl _ _).alloc (Nat.le_refl _) _
                exact ⟨HR.out.1.on (hB _), HR.out.2.1.below (hB _) HR.out.2.1.lt, HR.out.2.2.below (hB _) HR.out.2.2.lt, Blk.new _ _ _⟩
              generalize wr.heap.size = lb at *
              rintro wx ⟨hS, hB1, hB2, hB3⟩
              have n0 : wx.cell? ⟨lb, 0, none⟩ = some (.int .i64 cl) := hB3.cell 0
              have HX := Lib.hid (And.intro hS (And.intro hB1 hB2))
              clear hS hB1 hB2 HR p1 p2 hL hB hbw
              by_cases hneg : cl < 0
              · have hnb : decide (0 ≤ cl) = false := by simp; omega
                have hf1 : f1 = f := by rw [HJ.out.1, if_neg (by omega)]
                have HF1 := Lib.hid hf1
                clear hf1
                go_wp2
                go_roundw
                case rel => exact ⟨i + 1, by omega, by go_num, Lib.hid (by rw [HJR.out, HF1.out]; exact HX.out)⟩
                case measure => simp [intOf]; omega
              · obtain ⟨cn, rfl⟩ : ∃ cn : Nat, cl = cn := ⟨cl.toNat, by omega⟩
                have hcn : cn < 25 := by omega
                have hff := HJ.out.2.2 (by omega)
                have hcell : wx.cell? ⟨fb, cn, none⟩ = some (.int .i64 ((ff : Int) + 1)) := by
                  rw [HX.out.2.2.cell, HC.out.2.1 cn hcn, hff]
                  simp
                have hw1 : IntKind.i64.wrap ((ff : Int) + 1 - 1) = (ff : Int) := by rw [show (ff : Int) + 1 - 1 = (ff : Int) by omega]; exact IntWalk.i64_in _ (by omega)
                have hf1 : f1 = upd f (max (root f i) (root f ff)) (min (root f i) (root f ff)) := by rw [HJ.out.1, if_pos (by omega)]
                have HF1 := Lib.hid hf1
                have HFF := Lib.hid hff
                have q1 := root_le f i
                have q2 := root_le f ff
                have j5 : (0 : Int) ≤ (cn : Int) := by omega
                have j6 : (cn : Int) < 25 := by omega
                have hx0 : wx.cell? ⟨g + 1, 0, none⟩ = some (.slice (some ⟨g, 0, none⟩) n n) := HX.out.1.bx.cell 0
                have HK1 : Hid (∀ m, Calls Try.prog 73 #[.int .i64 i, .pointer (some ⟨g + 1, 0, none⟩)] (wx.drewN m) fun e w' => e = .returned (.int .i64 (root f i)) ∧ wx.drewN m = w') := fun m => top_any (g + 1) g n i f _ hx0 (fun j hj => HX.out.1.jk.cell hj) HJ.out.2.1 hlt3
                have HK2 : Hid (∀ m, Calls Try.prog 73 #[.int .i64 ff, .pointer (some ⟨g + 1, 0, none⟩)] (wx.drewN m) fun e w' => e = .returned (.int .i64 (root f ff)) ∧ wx.drewN m = w') := fun m => top_any (g + 1) g n ff f _ hx0 (fun j hj => HX.out.1.jk.cell hj) HJ.out.2.1 (by omega)
                generalize hr1 : root f i = r1 at *
                generalize hr2 : root f ff = r2 at *
                clear hf1 hff hr1 hr2
                go_upto_region 19 with (fail)
                go_quiet ((first | (go_at_call_of 73 (Value.int IntKind.i64 (i : Int)); exact Calls.quiet_of ((HK1.out _).mono fun _ _ h => ⟨h.1, 0, h.2.symm⟩)) | (go_at_call_of 73 (Value.int IntKind.i64 (ff : Int)); exact Calls.quiet_of ((HK2.out _).mono fun _ _ h => ⟨h.1, 0, h.2.symm⟩))))
                go_upto_region 20 with (fail)
                refine wp_abs (fun wy => JoSt w (.slice A1 n c1) (.slice A2 n2 c2) (.slice B1 n d1) (.slice B2 m2 d2) g n (arr n f) wy ∧ Blk wy sb 26 #[.slice (some ⟨b, o, none⟩) n C, .slice A' N' C'] ∧ Blk wy fb 100 cs) ?_ ?_
                · have hB := bdrawn (Below.refl wx.heap.size wx) nq
                  exact ⟨HX.out.1.on hB, HX.out.2.1.below hB HX.out.2.1.lt, HX.out.2.2.below hB HX.out.2.2.lt⟩
                clear HX hcell hx0 hB3 n0 HK1 HK2
                rintro wy hS
                have hx0 : wy.cell? ⟨g + 1, 0, none⟩ = some (.slice (some ⟨g, 0, none⟩) n n) := hS.1.bx.cell 0
                obtain ⟨M, hM⟩ : ∃ M, M = max r1 r2 := ⟨_, rfl⟩
                obtain ⟨m, hm⟩ : ∃ m, m = min r1 r2 := ⟨_, rfl⟩
                have hMn : M < n := by omega
                have hy0 : wy.cell? ⟨g, M, none⟩ = some (.int .i64 (f M)) := hS.1.jk.cell hMn
                have hyf : wy.frozen? ⟨g, M, none⟩ = false := hS.1.jk.bk.frozen M
                have HX := Lib.hid hS
                have em : max (r1 : Int) (r2 : Int) = (M : Int) := by omega
                have en : min (r1 : Int) (r2 : Int) = (m : Int) := by omega
                have HMM := Lib.hid (And.intro hM hm)
                clear hS hM hm
                go_wp2
                go_roundw
                case rel => exact ⟨i + 1, by omega, by go_num, Lib.hid (by rw [HJR.out, HF1.out, ← HMM.out.1, ← HMM.out.2]; exact ⟨HX.out.1.set M m, HX.out.2.1.far (blk_ne HX.out.2.1 HX.out.1.jk.bk (by decide)) _, HX.out.2.2.far (blk_ne HX.out.2.2 HX.out.1.jk.bk (by decide)) _⟩)⟩
                case measure => simp [intOf]; omega
            · have hin : n = i := by omega
              subst hin
              have HS := Lib.hid HR.out.1
              clear HR
              go_wp2
              go_roundw
              case rel => exact ⟨k + 1, by omega, by go_num, Lib.hid (by rw [HF.out]; exact HS.out)⟩
              case measure => simp [intOf]; omega
        · have hk2 : k = 2 := by omega
          subst hk2
          have x0 : wr.cell? ⟨g + 1, 0, none⟩ = some (.slice (some ⟨g, 0, none⟩) n n) := HR.out.bx.cell 0
          have HJ0 := Lib.hid (show ∀ j, jnAll l1 l2 n j ≤ j from jnFs_le l1 l2 n 2)
          have HS := Lib.hid (show JoSt w (.slice A1 n c1) (.slice A2 n2 c2) (.slice B1 n d1) (.slice B2 m2 d2) g n (arr n (jnAll l1 l2 n)) wr from HR.out)
          clear HR
          go_wp2
          clear x0
          go_loopw [81] (fun iv wq => ∃ (i : Nat) (f : Nat → Nat), i ≤ n ∧ iv = .int .i64 i ∧ Hid (JoSt w (.slice A1 n c1) (.slice A2 n2 c2) (.slice B1 n d1) (.slice B2 m2 d2) g n (arr n f) wq ∧ JnTop (jnAll l1 l2 n) f i)) (fun iv _ => n - (intOf iv).toNat)
          case atStart => exact ⟨0, _, by omega, rfl, Lib.hid ⟨HS.out, JnTop.init HJ0.out⟩⟩
          case round =>
            obtain ⟨i, f, hi4, rfl, HR⟩ := hrel
            clear HS
            by_cases hlt4 : i < n
            · have hx0 : wr.cell? ⟨g + 1, 0, none⟩ = some (.slice (some ⟨g, 0, none⟩) n n) := HR.out.1.bx.cell 0
              have HK1 : Hid (Calls Try.prog 73 #[.int .i64 i, .pointer (some ⟨g + 1, 0, none⟩)] wr.drew fun e w' => e = .returned (.int .i64 (root f i)) ∧ w' = wr.drew) := (top_any (g + 1) g n i f wr.drew hx0 (fun j hj => HR.out.1.jk.cell hj) HR.out.2.le hlt4).mono fun _ _ h => ⟨h.1, h.2.symm⟩
              have hy0 : wr.cell? ⟨g, i, none⟩ = some (.int .i64 (f i)) := HR.out.1.jk.cell hlt4
              have hyf : wr.frozen? ⟨g, i, none⟩ = false := HR.out.1.jk.bk.frozen i
              have HN := HR.out.2.next
              generalize root f i = r1 at *
              have HX := Lib.hid (And.intro HR.out.1 HN)
              clear HR HN
              have j1 : (0 : Int) ≤ (i : Int) := by omega
              have j2 : (i : Int) < (n : Int) := by omega
              go_upto_region 26 with (fail)
              refine wp_region_still_tail 6 (by kernel_rfl) (by kernel_rfl) ?_
              simp only [List.take_succ_cons, List.take_zero, List.drop_succ_cons, List.drop_zero]
              repeat still_step
              still_call HK1.out
              repeat still_step
              try refine wpStill_nil ?_
              change wpList _ _ _ _ _ wr.drew
              go_wp2
              go_roundw
              case rel => ((repeat apply Exists.intro); exact ⟨⟨i + 1, _, by omega, by go_num, Lib.hid ⟨(HX.out.1.set i r1).on (bdrawn (Below.refl _ _) 1), HX.out.2⟩⟩, rfl⟩)
              case measure => simp [intOf]; omega
            · have hin : n = i := by omega
              subst hin
              have hmf : mks n f = jnF l1 l2 n := mks_same fun j hj => HR.out.2.laid j hj
              have HMK := Lib.hid hmf
              have hrl : ∀ j, f j ≤ j := HR.out.2.le
              have hmb : ∀ x ∈ mks n f, 0 ≤ x ∧ x ≤ 1000 := by
                intro x hx
                obtain ⟨j, hj, rfl⟩ := List.mem_map.1 hx
                have h1 := List.mem_range.1 hj
                have h2 := hrl j
                omega
              have hS := HR.out.1
              have hrm : Rd wr 0 wr.heap.size 1 (some ⟨g, 0, none⟩) n ((mks n f).map (Value.int .i64)) := rd_arr hS.jk.bk (Nat.zero_le _)
              generalize mks n f = mk at *
              have HMB := Lib.hid hmb
              have HRM := Lib.hid hrm
              have c0 : wr.cell? ⟨w.heap.size, 0, none⟩ = some (.slice A1 n c1) := hS.jk.two.b0.cell 0
              have c1' : wr.cell? ⟨w.heap.size, 1, none⟩ = some (.slice A2 n2 c2) := hS.jk.two.b0.cell 1
              have d0 : wr.cell? ⟨w.heap.size + 1, 0, none⟩ = some (.slice B1 n d1) := hS.jk.two.b1.cell 0
              have d1' : wr.cell? ⟨w.heap.size + 1, 1, none⟩ = some (.slice B2 m2 d2) := hS.jk.two.b1.cell 1
              have x0 : wr.cell? ⟨g + 1, 0, none⟩ = some (.slice (some ⟨g, 0, none⟩) n n) := hS.bx.cell 0
              have HX := Lib.hid hS.jk
              clear hS HR hmb hrm hmf hrl
              go_wp2_with fail
              refine (made_any A1 A2 B1 B2 (some ⟨g, 0, none⟩) n c1 n2 c2 d1 m2 d2 n L1 L2 L3 0 l1 l2 s1 mk wr (H1.out.up HX.out.two.below HX.out.two.below.size) (H2.out.up HX.out.two.below HX.out.two.below.size) (H3.out.up HX.out.two.below HX.out.two.below.size) HRM.out hn e2 HMB.out).mono ?_
              rintro e w5 ⟨E1, x1, E2, x2, rfl, o1, o2, hb5⟩
              have HY := Lib.hid (And.intro (HX.out.on hb5) (And.intro o1 o2))
              have bz := HX.out.two.below.size
              have hwr : w.heap.size + 2 < wr.heap.size := HX.out.b4.lt
              clear c0 c1' d0 d1' x0 o1 o2 hb5 HX HRM HMB
              have f0 : w5.frozen? ⟨w.heap.size + 2, 0, none⟩ = false := HY.out.1.b4.frozen 0
              have f1 : w5.frozen? ⟨w.heap.size + 2, 1, none⟩ = false := HY.out.1.b4.frozen 1
              have g0 : w5.cell? ⟨w.heap.size + 2, 0, none⟩ = some (.slice none 0 0) := HY.out.1.b4.cell 0
              have g1 : w5.cell? ⟨w.heap.size + 2, 1, none⟩ = some (.slice none 0 0) := HY.out.1.b4.cell 1
              have hq1 := HY.out.1.two.below.size
              generalize hg1 : madeL l1 l2 mk = ml at *
              generalize hg2 : madeS l1 l2 mk s1 = ms at *
              generalize hg3 : madeE l1 l2 mk = me at *
              have HG := Lib.hid (And.intro hg1 (And.intro hg2 hg3))
              clear hg1 hg2 hg3
              go_wp2
              have HF := (HY.out.1.b4.set_ 0 (.slice E1 ml.length x1)).set_ 1 (.slice E2 ms.length x2)
              have t0 := HF.cell 0
              have t1 := HF.cell 1
              simp at t0 t1
              refine bodyPost_ret (v := .tuple #[.agg #[.slice E1 ml.length x1, .slice E2 ms.length x2], .int .i64 me]) (by simp [results, Try.results46, go_sem, t0, t1]) rfl ?_
              rw [← HMK.out, HG.out.1, HG.out.2.1, HG.out.2.2]
              exact ⟨E1, x1, E2, x2, rfl, own_more (own_setCell (p := ⟨w.heap.size + 2, 1, none⟩) (own_setCell (p := ⟨w.heap.size + 2, 0, none⟩) HY.out.2.1 hwr _) hwr _) bz, own_more (own_setCell (p := ⟨w.heap.size + 2, 1, none⟩) (own_setCell (p := ⟨w.heap.size + 2, 0, none⟩) HY.out.2.2 hwr _) hwr _) bz, (HY.out.1.two.below.setCell (by simp; omega) _).setCell (by simp; omega) _⟩
end Go.Proofs.Ytbjfbmienlojkaa
