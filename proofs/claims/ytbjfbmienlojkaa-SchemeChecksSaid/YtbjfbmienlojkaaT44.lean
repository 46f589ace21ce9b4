/- plain: a scheme of one stanza. firsts: the first lines of a scheme's classes. -/
import Derived.Test.YtbjfbmienlojkaaT28
import Derived.Test.YtbjfbmienlojkaaSteps
import Derived.Test.YtbjfbmienlojkaaT10
namespace Go.Proofs.Ytbjfbmienlojkaa
open Go.RowKit

def plainS (n : Nat) : List Int := if n = 0 then [] else [(n : Int)]
theorem own_lit {w : World} {base g : Nat} {e : TypeId} {u : Value} (h : Blk w g e #[u]) (hb : base ≤ g) : w.ownsRow base e 1 (.slice (some ⟨g, 0, none⟩) 1 1) 1 [u] :=
  ⟨rfl, .inr ⟨g, 1, #[u], rfl, hb, h, Nat.le_refl _, by unfold maxLen; omega, rfl, rfl⟩⟩

set_option maxHeartbeats 1000000 in
theorem plain_any (A : Option Addr) (n c : Nat) (w : World) (hn : n ≤ 100000) :
    Calls Try.prog 57 #[.slice A n c] w fun e w' => ∃ B d, e = .returned (.agg #[.slice A n c, .slice B (plainS n).length d]) ∧
      w'.ownsRow w.heap.size 3 1 (.slice B (plainS n).length d) (plainS n).length ((plainS n).map (Value.int .i64)) ∧ Below w.heap.size w w' := by
  by_cases h0 : n = 0
  · subst h0
    go_enter Try.func57, Try.ntmps57
    go_wp2
    refine bodyPost_ret (v := .agg #[.slice A 0 c, .slice none 0 0]) (by simp [results, Try.results57, go_sem]) rfl ?_
    exact ⟨none, 0, rfl, World.ownsRow_nil _ _ _ _, (((Below.refl _ _).alloc (Nat.le_refl _) _).alloc (by simp) _)⟩
  · have hp : plainS n = [(n : Int)] := if_neg h0
    rw [hp]
    have hb : decide ((0 : Int) < (n : Int)) = true := by simp; omega
    have hb2 : decide (0 < n) = true := by simp; omega
    have HP := Lib.hid hp
    clear hp h0
    go_enter Try.func57, Try.ntmps57
    go_wp2
    refine bodyPost_ret (v := .agg #[.slice A n c, .slice (some ⟨w.heap.size + 1 + 1, 0, none⟩) 1 1]) (by simp [results, Try.results57, go_sem]) rfl ?_
    refine ⟨_, _, rfl, own_lit ?_ ?_, ?_⟩
    · exact blk_new_eq (by simp)
    · omega
    · exact (((Below.refl _ _).alloc (Nat.le_refl _) _).alloc (by simp) _).alloc (by simp; omega) _

/-- 1 and the first of the first i lines that is of class c; 0: there is none -/
def frst (ls : List (Int × Int)) : Nat → Int → Nat
  | 0, _ => 0
  | i + 1, c => if frst ls i c = 0 ∧ clsAt ls i = c then i + 1 else frst ls i c
theorem frst_succ (ls : List (Int × Int)) (i : Nat) (c : Int) : frst ls (i + 1) c = if frst ls i c = 0 ∧ clsAt ls i = c then i + 1 else frst ls i c := rfl
theorem frst_zero (ls : List (Int × Int)) (i : Nat) (c : Int) : frst ls i c = 0 ↔ ∀ j, j < i → clsAt ls j ≠ c := by
  induction i with
  | zero => simp [frst]
  | succ i ih =>
    unfold frst
    by_cases h : frst ls i c = 0 ∧ clsAt ls i = c
    · rw [if_pos h]
      constructor
      · intro h'; omega
      · intro h'; exact absurd h.2 (h' i (by omega))
    · rw [if_neg h, ih]
      constructor
      · intro h' j hj
        rcases Nat.lt_or_ge j i with h1 | h1
        · exact h' j h1
        · have : j = i := by omega
          subst this
          intro hc
          exact h ⟨ih.2 h', hc⟩
      · intro h' j hj; exact h' j (by omega)
theorem frst_pos (ls : List (Int × Int)) (i : Nat) (c : Int) (j : Nat) (h : frst ls i c = j + 1) : j < i ∧ clsAt ls j = c ∧ ∀ q, q < j → clsAt ls q ≠ c := by
  induction i with
  | zero => simp [frst] at h
  | succ i ih =>
    unfold frst at h
    by_cases hc : frst ls i c = 0 ∧ clsAt ls i = c
    · rw [if_pos hc] at h
      have : j = i := by omega
      subst this
      exact ⟨by omega, hc.2, (frst_zero ls j c).1 hc.1⟩
    · rw [if_neg hc] at h
      obtain ⟨h1, h2, h3⟩ := ih h
      exact ⟨by omega, h2, h3⟩
theorem frst_le (ls : List (Int × Int)) (i : Nat) (c : Int) : frst ls i c ≤ i := by
  induction i with
  | zero => exact Nat.le_refl _
  | succ i ih => unfold frst; split <;> omega

/-- memory while firsts runs -/
structure FsSt (w0 : World) (v1 v2 : Value) (z cs : Array Value) (f : Int → Nat) (w : World) : Prop where
  b0 : Blk w w0.heap.size 26 #[v1, v2]
  b1 : Blk w (w0.heap.size + 1) 100 z
  b2 : Blk w (w0.heap.size + 2) 100 cs
  c1 : cs.size = 25
  c2 : ∀ c : Nat, c < 25 → cs[c]? = some (.int .i64 (f c))
  below : Below w0.heap.size w0 w
theorem FsSt.on {w0 : World} {v1 v2 : Value} {z cs : Array Value} {f : Int → Nat} {w w' : World} (h : FsSt w0 v1 v2 z cs f w) (hb : Below w.heap.size w w') : FsSt w0 v1 v2 z cs f w' :=
  ⟨h.b0.below hb h.b0.lt, h.b1.below hb h.b1.lt, h.b2.below hb h.b2.lt, h.c1, h.c2, h.below.trans (hb.mono h.below.size)⟩
theorem FsSt.set {w0 : World} {v1 v2 : Value} {z cs : Array Value} {f : Int → Nat} {w : World} (h : FsSt w0 v1 v2 z cs f w) (c x : Nat) (hc : c < 25) {f' : Int → Nat} (hf : ∀ q : Nat, f' q = if q = c then x else f q) :
    FsSt w0 v1 v2 z (cs.setIfInBounds c (.int .i64 x)) f' (w.setCell ⟨w0.heap.size + 2, c, none⟩ (.int .i64 x)) := by
  refine ⟨h.b0.far (by simp) _, h.b1.far (by simp) _, h.b2.set_ c _, by simpa using h.c1, fun q hq => ?_, h.below.setCell (by simp) _⟩
  rw [Array.getElem?_setIfInBounds]
  by_cases e : c = q
  · subst e
    rw [if_pos rfl, if_pos (by rw [h.c1]; exact hc), hf, if_pos rfl]
  · rw [if_neg e, h.c2 q hq, hf, if_neg (fun h => e h.symm)]

theorem fs_init {w : World} {v1 v2 : Value} (z : Array Value) (hz : z = (List.replicate 25 (Value.int .i64 0)).toArray) : FsSt w v1 v2 z z (fun _ => 0) (((w.alloc (.cells #[v1, v2] 26)).alloc (.cells z 100)).alloc (.cells z 100)) := by
  refine ⟨((Blk.new _ _ _).alloc _).alloc _, (blk_new_eq (by simp)).alloc _, blk_new_eq (by simp), by rw [hz]; rfl, fun c hc => ?_, ((((Below.refl _ _).alloc (Nat.le_refl _) _).alloc (by simp) _).alloc (by simp; omega) _)⟩
  rw [hz]
  simp only [List.getElem?_toArray]
  rw [List.getElem?_replicate, if_pos hc]
  rfl

set_option maxHeartbeats 2000000 in
set_option maxRecDepth 100000 in
theorem firsts_any (A1 A2 : Option Addr) (n1 c1 n2 c2 L1 : Nat) (ls : List (Int × Int)) (w : World)
    (h1 : Rd w L1 w.heap.size 2 A1 n1 (prs ls)) (hn : n1 ≤ 512) (hok : ∀ p ∈ ls, lineOk p = true) :
    Calls Try.prog 69 #[.agg #[.slice A1 n1 c1, .slice A2 n2 c2]] w fun e w' => ∃ cs : Array Value, e = .returned (.agg cs) ∧ cs.size = 25 ∧ (∀ c : Nat, c < 25 → cs[c]? = some (.int .i64 (frst ls n1 c))) ∧ Below w.heap.size w w' := by
  have H1 := Lib.hid h1
  have HK := Lib.hid hok
  clear h1 hok
  go_enter Try.func69, Try.ntmps69
  go_upto_region 2 with (fail)
  refine wp_abs (fun wx => ∃ z, FsSt w (.slice A1 n1 c1) (.slice A2 n2 c2) z z (fun _ => 0) wx ∧ z.all (·.oneCell') = true) ⟨_, fs_init _ rfl, by kernel_rfl⟩ ?_
  rintro w1 ⟨z, hS, hz1⟩
  have HZ := Lib.hid (And.intro hS.c1 hz1)
  have c00 : w1.cell? ⟨w.heap.size, 0, none⟩ = some (.slice A1 n1 c1) := hS.b0.cell 0
  have HS := Lib.hid hS
  clear hS hz1
  go_wp2
  clear c00
  go_loopw [9] (fun iv wr => ∃ (i : Nat) (cs : Array Value), i ≤ n1 ∧ iv = .int .i64 i ∧ Hid (FsSt w (.slice A1 n1 c1) (.slice A2 n2 c2) z cs (frst ls i) wr)) (fun iv _ => n1 - (intOf iv).toNat)
  case atStart => exact ⟨0, z, by omega, rfl, HS⟩
  case round =>
    obtain ⟨i, cs, hi, rfl, HS⟩ := hrel
    by_cases hlt : i < n1
    · obtain ⟨b, o, hl, rfl, hL, hB, p1, p2⟩ := (H1.out.up HS.out.below HS.out.below.size).two hlt
      have hok := HK.out _ (List.getElem_mem hl)
      have hce : clsAt ls i = ls[i].1 := clsAt_get hl
      generalize ls[i] = x at p1 p2 hok hce
      obtain ⟨c, r⟩ := x
      have hb := (lineOk_iff (c, r)).1 hok
      simp only at hb p1 p2 hce
      have b1 := hb.1
      have b2 := hb.2.1
      have HCE := Lib.hid hce
      clear hok hb hce
      go_upto_region 5 with (fail)
      refine wp_abs (fun wx => FsSt w (.slice (some ⟨b, o, none⟩) n1 c1) (.slice A2 n2 c2) z cs (frst ls i) wx ∧ Blk wx wr.heap.size 66 #[.int .i64 c, .int .i64 r]) ⟨HS.out.on ((Below.refl _ _).alloc (Nat.le_refl _) _), Blk.new _ _ _⟩ ?_
      rintro wx ⟨hS, h9⟩
      clear p1 p2
      have n0 : wx.cell? ⟨wr.heap.size, 0, none⟩ = some (.int .i64 c) := h9.cell 0
      have HX := Lib.hid hS
      clear hS h9 HS
      by_cases hneg : c < 0
      · have hnb : decide (0 ≤ c) = false := by simp; omega
        go_wp2
        go_roundw
        case rel => exact ⟨i + 1, cs, by omega, by go_num, Lib.hid ⟨HX.out.b0, HX.out.b1, HX.out.b2, HX.out.c1, fun q hq => by
          rw [HX.out.c2 q hq]; rw [frst_succ, if_neg (by have := HCE.out; omega)], HX.out.below⟩⟩
        case measure => simp [intOf]; omega
      · obtain ⟨cn, rfl⟩ : ∃ cn : Nat, c = cn := ⟨c.toNat, by omega⟩
        have hcn : cn < 25 := by omega
        have hcell : wx.cell? ⟨w.heap.size + 2, cn, none⟩ = some (.int .i64 (frst ls i cn)) := (HX.out.b2.cell cn).trans (HX.out.c2 cn hcn)
        have hfz := HX.out.b2.frozen cn
        have hfl := frst_le ls i cn
        generalize hf : frst ls i cn = fc at hcell hfl
        have HF := Lib.hid hf
        clear hf
        by_cases hz : fc = 0
        · subst hz
          have HN := Lib.hid (HX.out.set cn (i + 1) hcn (f' := frst ls (i + 1)) (fun q => by
            rw [frst_succ]
            by_cases e : q = cn
            · subst e; rw [if_pos rfl, if_pos ⟨HF.out, HCE.out⟩]
            · rw [if_neg e, if_neg (by have := HCE.out; omega)]))
          go_wp2
          go_roundw
          case rel => exact ⟨i + 1, _, by omega, by go_num, HN⟩
          case measure => simp [intOf]; omega
        · have hzb : ((fc : Int) == 0) = false := by simp; omega
          go_wp2
          go_roundw
          case rel => exact ⟨i + 1, cs, by omega, by go_num, Lib.hid ⟨HX.out.b0, HX.out.b1, HX.out.b2, HX.out.c1, fun q hq => by
            rw [HX.out.c2 q hq]; rw [frst_succ, if_neg (fun h => by have := HCE.out; have h2 := HF.out; rw [show (cn : Int) = (q : Int) by omega] at h2; omega)], HX.out.below⟩⟩
          case measure => simp [intOf]; omega
    · have hin : i = n1 := by omega
      subst hin
      have hu := Try.underlying100
      have hinf : (Try.prog.info? 100).map (·.size) = some 25 := by kernel_rfl
      have h1c : cs.all (·.oneCell') = true := by
        rw [Array.all_eq_true_iff_forall_mem]
        intro u hu
        obtain ⟨q, hq, rfl⟩ := Array.mem_iff_getElem.1 hu
        have hc := HS.out.c2 q (by have := HS.out.c1; omega)
        rw [Array.getElem?_eq_getElem hq] at hc
        injection hc with hc
        rw [hc]; rfl
      have HI := Lib.hid hinf
      have H1C := Lib.hid h1c
      clear hinf h1c
      go_wp2_with (first
        | (refine wpList_load_row rfl 100 _ rfl (w.heap.size + 2) rfl 100 cs _ _ HS.out.b2 hu rfl (by rw [HI.out, HS.out.c1]) ?_)
        | (refine wpList_store_row rfl 100 _ _ rfl (w.heap.size + 1) cs rfl rfl 100 z HS.out.b1 (by rw [HI.out, HS.out.c1]) (by rw [HZ.out.1, HS.out.c1]) H1C.out ?_))
      refine bodyPost_ret (results_cell_row rfl _ _ (w.heap.size + 1) 100 cs (0, 0) _ rfl (setRow_heap _ _ _ _ _ _ HS.out.b1) hu rfl (by rw [HI.out, HS.out.c1])) rfl ?_
      exact ⟨cs, rfl, HS.out.c1, HS.out.c2, below_setRow HS.out.below (by omega) _⟩
end Go.Proofs.Ytbjfbmienlojkaa
