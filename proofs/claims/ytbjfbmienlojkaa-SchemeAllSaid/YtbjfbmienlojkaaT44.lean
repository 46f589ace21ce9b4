/- plain: a scheme of one stanza. firsts: the first lines of a scheme's classes.
   Words for a map of the call's own with int elements: what stands at each key, and how many entries there are.
   Lists of strings: a slice value that reads as one; a parameter of type []string, opened. -/
import Derived.Test.YtbjfbmienlojkaaT27
import Derived.Test.YtbjfbmienlojkaaSteps
import Derived.Test.YtbjfbmienlojkaaT10
import Derived.Test.YtbjfbmienlojkaaMem
import Derived.Maps.OwnSet
import Derived.Maps.OwnOps
import Derived.Test.YtbjfbmienlojkaaT18
import Derived.SizedLaws
namespace Go.Proofs.Ytbjfbmienlojkaa
open Go.RowKit

def plainS (n : Nat) : List Int := if n = 0 then [] else [(n : Int)]
theorem own_lit {w : World} {base g : Nat} {e : TypeId} {u : Value} (h : Blk w g e #[u]) (hb : base ≤ g) : w.ownsRow base e 1 (.slice (some ⟨g, 0, none⟩) 1 1) 1 [u] :=
  ⟨rfl, .inr ⟨g, 1, #[u], rfl, hb, h, Nat.le_refl _, by unfold maxLen; omega, rfl, rfl⟩⟩

set_option maxHeartbeats 1000000 in
theorem plain_any (A : Option Addr) (n c : Nat) (w : World) (hn : n ≤ 100000) :
    Calls Try.prog 57 #[.slice A n c] w fun e w' => ∃ B d, e = .returned (.agg #[.slice A n c, .slice B (plainS n).length d]) ∧
      w'.ownsRow w.heap.size 3 1 (.slice B (plainS n).length d) (plainS n).length ((plainS n).map (Value.int .i64)) ∧ Below w.heap.size w w' := by
  by_cases h0 : n = 0
  · subst h0
    go_enter Try.func57, Try.ntmps57
    go_wp2
    refine bodyPost_ret (v := .agg #[.slice A 0 c, .slice none 0 0]) (by simp [results, Try.results57, go_sem]) rfl ?_
    exact ⟨none, 0, rfl, World.ownsRow_nil _ _ _ _, (((Below.refl _ _).alloc (Nat.le_refl _) _).alloc (by simp) _)⟩
  · have hp : plainS n = [(n : Int)] := if_neg h0
    rw [hp]
    have hb : decide ((0 : Int) < (n : Int)) = true := by simp; omega
    have hb2 : decide (0 < n) = true := by simp; omega
    have HP := Lib.hid hp
    clear hp h0
    go_enter Try.func57, Try.ntmps57
    go_wp2
    refine bodyPost_ret (v := .agg #[.slice A n c, .slice (some ⟨w.heap.size + 1 + 1, 0, none⟩) 1 1]) (by simp [results, Try.results57, go_sem]) rfl ?_
    refine ⟨_, _, rfl, own_lit ?_ ?_, ?_⟩
    · exact blk_new_eq (by simp)
    · omega
    · exact (((Below.refl _ _).alloc (Nat.le_refl _) _).alloc (by simp) _).alloc (by simp; omega) _

/-- 1 and the first of the first i lines that is of class c; 0: there is none -/
def frst (ls : List (Int × Int)) : Nat → Int → Nat
  | 0, _ => 0
  | i + 1, c => if frst ls i c = 0 ∧ clsAt ls i = c then i + 1 else frst ls i c
theorem frst_succ (ls : List (Int × Int)) (i : Nat) (c : Int) : frst ls (i + 1) c = if frst ls i c = 0 ∧ clsAt ls i = c then i + 1 else frst ls i c := rfl
theorem frst_zero (ls : List (Int × Int)) (i : Nat) (c : Int) : frst ls i c = 0 ↔ ∀ j, j < i → clsAt ls j ≠ c := by
  induction i with
  | zero => simp [frst]
  | succ i ih =>
    unfold frst
    by_cases h : frst ls i c = 0 ∧ clsAt ls i = c
    · rw [if_pos h]
      constructor
      · intro h'; omega
      · intro h'; exact absurd h.2 (h' i (by omega))
    · rw [if_neg h, ih]
      constructor
      · intro h' j hj
        rcases Nat.lt_or_ge j i with h1 | h1
        · exact h' j h1
        · have : j = i := by omega
          subst this
          intro hc
          exact h ⟨ih.2 h', hc⟩
      · intro h' j hj; exact h' j (by omega)
theorem frst_pos (ls : List (Int × Int)) (i : Nat) (c : Int) (j : Nat) (h : frst ls i c = j + 1) : j < i ∧ clsAt ls j = c ∧ ∀ q, q < j → clsAt ls q ≠ c := by
  induction i with
  | zero => simp [frst] at h
  | succ i ih =>
    unfold frst at h
    by_cases hc : frst ls i c = 0 ∧ clsAt ls i = c
    · rw [if_pos hc] at h
      have : j = i := by omega
      subst this
      exact ⟨by omega, hc.2, (frst_zero ls j c).1 hc.1⟩
    · rw [if_neg hc] at h
      obtain ⟨h1, h2, h3⟩ := ih h
      exact ⟨by omega, h2, h3⟩
theorem frst_le (ls : List (Int × Int)) (i : Nat) (c : Int) : frst ls i c ≤ i := by
  induction i with
  | zero => exact Nat.le_refl _
  | succ i ih => unfold frst; split <;> omega

/-- memory while firsts runs -/
structure FsSt (w0 : World) (v1 v2 : Value) (z cs : Array Value) (f : Int → Nat) (w : World) : Prop where
  b0 : Blk w w0.heap.size 26 #[v1, v2]
  b1 : Blk w (w0.heap.size + 1) 100 z
  b2 : Blk w (w0.heap.size + 2) 100 cs
  c1 : cs.size = 25
  c2 : ∀ c : Nat, c < 25 → cs[c]? = some (.int .i64 (f c))
  below : Below w0.heap.size w0 w
theorem FsSt.on {w0 : World} {v1 v2 : Value} {z cs : Array Value} {f : Int → Nat} {w w' : World} (h : FsSt w0 v1 v2 z cs f w) (hb : Below w.heap.size w w') : FsSt w0 v1 v2 z cs f w' :=
  ⟨h.b0.below hb h.b0.lt, h.b1.below hb h.b1.lt, h.b2.below hb h.b2.lt, h.c1, h.c2, h.below.trans (hb.mono h.below.size)⟩
theorem FsSt.set {w0 : World} {v1 v2 : Value} {z cs : Array Value} {f : Int → Nat} {w : World} (h : FsSt w0 v1 v2 z cs f w) (c x : Nat) (hc : c < 25) {f' : Int → Nat} (hf : ∀ q : Nat, f' q = if q = c then x else f q) :
    FsSt w0 v1 v2 z (cs.setIfInBounds c (.int .i64 x)) f' (w.setCell ⟨w0.heap.size + 2, c, none⟩ (.int .i64 x)) := by
  refine ⟨h.b0.far (by simp) _, h.b1.far (by simp) _, h.b2.set_ c _, by simpa using h.c1, fun q hq => ?_, h.below.setCell (by simp) _⟩
  rw [Array.getElem?_setIfInBounds]
  by_cases e : c = q
  · subst e
    rw [if_pos rfl, if_pos (by rw [h.c1]; exact hc), hf, if_pos rfl]
  · rw [if_neg e, h.c2 q hq, hf, if_neg (fun h => e h.symm)]

theorem fs_init {w : World} {v1 v2 : Value} (z : Array Value) (hz : z = (List.replicate 25 (Value.int .i64 0)).toArray) : FsSt w v1 v2 z z (fun _ => 0) (((w.alloc (.cells #[v1, v2] 26)).alloc (.cells z 100)).alloc (.cells z 100)) := by
  refine ⟨((Blk.new _ _ _).alloc _).alloc _, (blk_new_eq (by simp)).alloc _, blk_new_eq (by simp), by rw [hz]; rfl, fun c hc => ?_, ((((Below.refl _ _).alloc (Nat.le_refl _) _).alloc (by simp) _).alloc (by simp; omega) _)⟩
  rw [hz]
  simp only [List.getElem?_toArray]
  rw [List.getElem?_replicate, if_pos hc]
  rfl

set_option maxHeartbeats 2000000 in
set_option maxRecDepth 100000 in
theorem firsts_any (A1 A2 : Option Addr) (n1 c1 n2 c2 L1 : Nat) (ls : List (Int × Int)) (w : World)
    (h1 : Rd w L1 w.heap.size 2 A1 n1 (prs ls)) (hn : n1 ≤ 512) (hok : ∀ p ∈ ls, lineOk p = true) :
    Calls Try.prog 69 #[.agg #[.slice A1 n1 c1, .slice A2 n2 c2]] w fun e w' => ∃ cs : Array Value, e = .returned (.agg cs) ∧ cs.size = 25 ∧ (∀ c : Nat, c < 25 → cs[c]? = some (.int .i64 (frst ls n1 c))) ∧ Below w.heap.size w w' := by
  have H1 := Lib.hid h1
  have HK := Lib.hid hok
  clear h1 hok
  go_enter Try.func69, Try.ntmps69
  go_upto_region 2 with (fail)
  refine wp_abs (fun wx => ∃ z, FsSt w (.slice A1 n1 c1) (.slice A2 n2 c2) z z (fun _ => 0) wx ∧ z.all (·.oneCell') = true) ⟨_, fs_init _ rfl, by kernel_rfl⟩ ?_
  rintro w1 ⟨z, hS, hz1⟩
  have HZ := Lib.hid (And.intro hS.c1 hz1)
  have c00 : w1.cell? ⟨w.heap.size, 0, none⟩ = some (.slice A1 n1 c1) := hS.b0.cell 0
  have HS := Lib.hid hS
  clear hS hz1
  go_wp2
  clear c00
  go_loopw [9] (fun iv wr => ∃ (i : Nat) (cs : Array Value), i ≤ n1 ∧ iv = .int .i64 i ∧ Hid (FsSt w (.slice A1 n1 c1) (.slice A2 n2 c2) z cs (frst ls i) wr)) (fun iv _ => n1 - (intOf iv).toNat)
  case atStart => exact ⟨0, z, by omega, rfl, HS⟩
  case round =>
    obtain ⟨i, cs, hi, rfl, HS⟩ := hrel
    by_cases hlt : i < n1
    · obtain ⟨b, o, hl, rfl, hL, hB, p1, p2⟩ := (H1.out.up HS.out.below HS.out.below.size).two hlt
      have hok := HK.out _ (List.getElem_mem hl)
      have hce : clsAt ls i = ls[i].1 := clsAt_get hl
      generalize ls[i] = x at p1 p2 hok hce
      obtain ⟨c, r⟩ := x
      have hb := (lineOk_iff (c, r)).1 hok
      simp only at hb p1 p2 hce
      have b1 := hb.1
      have b2 := hb.2.1
      have HCE := Lib.hid hce
      clear hok hb hce
      go_upto_region 5 with (fail)
      refine wp_abs (fun wx => FsSt w (.slice (some ⟨b, o, none⟩) n1 c1) (.slice A2 n2 c2) z cs (frst ls i) wx ∧ Blk wx wr.heap.size 66 #[.int .i64 c, .int .i64 r]) ⟨HS.out.on ((Below.refl _ _).alloc (Nat.le_refl _) _), Blk.new _ _ _⟩ ?_
      rintro wx ⟨hS, h9⟩
      clear p1 p2
      have n0 : wx.cell? ⟨wr.heap.size, 0, none⟩ = some (.int .i64 c) := h9.cell 0
      have HX := Lib.hid hS
      clear hS h9 HS
      by_cases hneg : c < 0
      · have hnb : decide (0 ≤ c) = false := by simp; omega
        go_wp2
        go_roundw
        case rel => exact ⟨i + 1, cs, by omega, by go_num, Lib.hid ⟨HX.out.b0, HX.out.b1, HX.out.b2, HX.out.c1, fun q hq => by
          rw [HX.out.c2 q hq]; rw [frst_succ, if_neg (by have := HCE.out; omega)], HX.out.below⟩⟩
        case measure => simp [intOf]; omega
      · obtain ⟨cn, rfl⟩ : ∃ cn : Nat, c = cn := ⟨c.toNat, by omega⟩
        have hcn : cn < 25 := by omega
        have hcell : wx.cell? ⟨w.heap.size + 2, cn, none⟩ = some (.int .i64 (frst ls i cn)) := (HX.out.b2.cell cn).trans (HX.out.c2 cn hcn)
        have hfz := HX.out.b2.frozen cn
        have hfl := frst_le ls i cn
        generalize hf : frst ls i cn = fc at hcell hfl
        have HF := Lib.hid hf
        clear hf
        by_cases hz : fc = 0
        · subst hz
          have HN := Lib.hid (HX.out.set cn (i + 1) hcn (f' := frst ls (i + 1)) (fun q => by
            rw [frst_succ]
            by_cases e : q = cn
            · subst e; rw [if_pos rfl, if_pos ⟨HF.out, HCE.out⟩]
            · rw [if_neg e, if_neg (by have := HCE.out; omega)]))
          go_wp2
          go_roundw
          case rel => exact ⟨i + 1, _, by omega, by go_num, HN⟩
          case measure => simp [intOf]; omega
        · have hzb : ((fc : Int) == 0) = false := by simp; omega
          go_wp2
          go_roundw
          case rel => exact ⟨i + 1, cs, by omega, by go_num, Lib.hid ⟨HX.out.b0, HX.out.b1, HX.out.b2, HX.out.c1, fun q hq => by
            rw [HX.out.c2 q hq]; rw [frst_succ, if_neg (fun h => by have := HCE.out; have h2 := HF.out; rw [show (cn : Int) = (q : Int) by omega] at h2; omega)], HX.out.below⟩⟩
          case measure => simp [intOf]; omega
    · have hin : i = n1 := by omega
      subst hin
      have hu := Try.underlying100
      have hinf : (Try.prog.info? 100).map (·.size) = some 25 := by kernel_rfl
      have h1c : cs.all (·.oneCell') = true := by
        rw [Array.all_eq_true_iff_forall_mem]
        intro u hu
        obtain ⟨q, hq, rfl⟩ := Array.mem_iff_getElem.1 hu
        have hc := HS.out.c2 q (by have := HS.out.c1; omega)
        rw [Array.getElem?_eq_getElem hq] at hc
        injection hc with hc
        rw [hc]; rfl
      have HI := Lib.hid hinf
      have H1C := Lib.hid h1c
      clear hinf h1c
      go_wp2_with (first
        | (refine wpList_load_row rfl 100 _ rfl (w.heap.size + 2) rfl 100 cs _ _ HS.out.b2 hu rfl (by rw [HI.out, HS.out.c1]) ?_)
        | (refine wpList_store_row rfl 100 _ _ rfl (w.heap.size + 1) cs rfl rfl 100 z HS.out.b1 (by rw [HI.out, HS.out.c1]) (by rw [HZ.out.1, HS.out.c1]) H1C.out ?_))
      refine bodyPost_ret (results_cell_row rfl _ _ (w.heap.size + 1) 100 cs (0, 0) _ rfl (setRow_heap _ _ _ _ _ _ HS.out.b1) hu rfl (by rw [HI.out, HS.out.c1])) rfl ?_
      exact ⟨cs, rfl, HS.out.c1, HS.out.c2, below_setRow HS.out.below (by omega) _⟩
end Go.Proofs.Ytbjfbmienlojkaa

namespace Go.Proofs.Ytbjfbmienlojkaa
open Go.RowKit Go.Maps Go.WideShapes

/-- block b is a map that holds m, with n entries -/
def MapIs (P : Program) (w : World) (k e b : Nat) (m : Lit → Option Int) (n : Nat) : Prop :=
  ∃ D : DataW Unit, w.ownsMap P k (plainElem P e) b n D ∧ Maps.size D = n ∧ ∀ l z, D.atKey l z = match m l with | some x => .lit (.int .i64 x) | none => z
open Classical in
/-- m with x at l -/
noncomputable def updM (m : Lit → Option Int) (l : Lit) (x : Int) : Lit → Option Int := fun l' => if l' = l then some x else m l'
theorem updM_same (m : Lit → Option Int) (l : Lit) (x : Int) : updM m l x l = some x := if_pos rfl
theorem updM_other (m : Lit → Option Int) {l l' : Lit} (x : Int) (h : l' ≠ l) : updM m l x l' = m l' := if_neg h

section
variable {P : Program} {w w' : World} {k e b n : Nat} {m : Lit → Option Int}
theorem own_tight {R : Value → Option (DataW Unit × List MemPlace)} {D : DataW Unit} (h : w.ownsMap P k R b n D) : w.ownsMap P k R b (Maps.size D) D := by
  obtain ⟨es, clock, hb, F, hs, rfl⟩ := h
  exact ⟨es, clock, hb, F, by simp [Maps.size, length_sorted], rfl⟩
theorem MapIs.made (P : Program) (w : World) (k e : Nat) : MapIs P (w.alloc (.map #[] 0)) k e w.heap.size (fun _ => none) 0 := ⟨.map [], World.ownsMap_made w P k _, rfl, fun _ _ => rfl⟩
theorem MapIs.congr (h : MapIs P w k e b m n) {m' : Lit → Option Int} (hm : ∀ l, m l = m' l) : MapIs P w k e b m' n := by
  obtain ⟨D, h1, h2, h3⟩ := h
  exact ⟨D, h1, h2, fun l z => by rw [h3, hm]⟩
theorem MapIs.lt (h : MapIs P w k e b m n) : b < w.heap.size := let ⟨_, h1, _, _⟩ := h; h1.lt
theorem MapIs.heap (h : MapIs P w k e b m n) (hb : w'.heap[b]? = w.heap[b]?) : MapIs P w' k e b m n := by
  obtain ⟨D, ⟨es, clock, hm, F, hs, hD⟩, h2, h3⟩ := h
  exact ⟨D, ⟨es, clock, hb.trans hm, F, hs, hD⟩, h2, h3⟩
theorem MapIs.only {S : Nat → Prop} (h : MapIs P w k e b m n) (ho : Only S w w') (hS : ¬ S b) : MapIs P w' k e b m n := h.heap (ho.block b h.lt hS)
theorem MapIs.below {B : Nat} (h : MapIs P w k e b m n) (hb : Below B w w') (hB : b < B) : MapIs P w' k e b m n := h.heap (hb.block b hB)
theorem MapIs.on (h : MapIs P w k e b m n) (hb : Below w.heap.size w w') : MapIs P w' k e b m n := h.below hb h.lt
theorem MapIs.alloc (h : MapIs P w k e b m n) (o : Obj) : MapIs P (w.alloc o) k e b m n := h.on ((Below.refl _ _).alloc (Nat.le_refl _) _)
theorem MapIs.grown {row : Option Nat} (h : MapIs P w k e b m n) (hg : w.grownBy w' row) (hne : some b ≠ row) : MapIs P w' k e b m n := h.heap (hg.block b h.lt hne)
theorem MapIs.has {D : DataW Unit} (h3 : ∀ l z, D.atKey l z = match m l with | some x => .lit (.int .i64 x) | none => z) (l : Lit) : Maps.has D l = (m l).isSome := by
  cases hm : m l with
  | none => exact Maps.has_false_of_atKey fun z => by rw [h3, hm]
  | some x => exact Maps.has_true_of_atKey (y := .lit (.int .i64 x)) fun z => by rw [h3, hm]
theorem MapIs.put (h : MapIs P w k e b m n) (K : Keyed P k) {t : TypeId} (ht : P.underlying t = some (.map k e)) (he : P.underlying e = some (.int .i64)) (hn : n < maxLen) {key : Value} {kl : Lit} (hkey : keyOf P k key = some kl)
    {x : Int} (hx : (Lit.int .i64 x).wf = true) : ∃ w', (Instr.mapUpdate t (.map (some b)) key (.int .i64 x)).run P w = .ok () w' ∧ MapIs P w' k e b (updM m kl x) (if (m kl).isSome then n else n + 1) ∧ w.grownBy w' (some b) := by
  obtain ⟨D, h1, h2, h3⟩ := h
  obtain ⟨w', hrun, hw, hg⟩ := h1.update K ht hn hkey (plainElem_int he hx)
  refine ⟨w', hrun, ⟨D.put kl (.lit (.int .i64 x)), ?_, ?_, fun l z => ?_⟩, hg⟩
  · have := own_tight hw
    rw [size_put (h1.tidy K) _, MapIs.has h3, h2] at this
    exact this
  · rw [size_put (h1.tidy K) _, MapIs.has h3, h2]
  · by_cases hl : l = kl
    · subst hl
      rw [atKey_put_same h1.isMap (K.key hkey), updM_same]
    · rw [atKey_put_other hl, updM_other m x hl, h3]
end

section
variable {P : Program} (w : World) {ops : Array Oper} {rest : List Oper} {o : Oper} {a : Act} {Q : Exit → Act → World → Prop}
/-- m[key] = x, at the operation -/
theorem wpList_put (hg : o.guard = none) (mo xo vo : Operand) (t : TypeId) (hop : o.op = Op.mapUpdate t mo xo vo) (k e : TypeId) (K : Keyed P k) (ht : P.underlying t = some (.map k e)) (he : P.underlying e = some (.int .i64))
    (b n : Nat) (m : Lit → Option Int) (hm : a.eval mo = .map (some b)) (h : MapIs P w k e b m n) (hn : n < maxLen) (key : Value) (kl : Lit) (hx : a.eval xo = key) (x : Int) (hv : a.eval vo = .int .i64 x) (hkey : keyOf P k key = some kl) (hw : (Lit.int .i64 x).wf = true)
    (hK : ∀ w', MapIs P w' k e b (updM m kl x) (if (m kl).isSome then n else n + 1) → w.grownBy w' (some b) → wpList P ops Q rest (a.put o.dst undef) w') : wpList P ops Q (o :: rest) a w := by
  refine wpList_plain hg fun K' hK' => ?_
  obtain ⟨w', hrun, r1, r2⟩ := h.put K ht he hn hkey hw
  unfold Oper.wp
  simp [execOp, hop, hm, hx, hv, hrun, Result.andThen]
  exact hK' _ _ (hK w' r1 r2)
/-- v, ok := m[key], at the operation -/
theorem wpList_look_ok (hg : o.guard = none) (mo xo : Operand) (t : TypeId) (hop : o.op = Op.lookup t mo xo true) (k e : TypeId) (K : Keyed P k) (ht : P.underlying t = some (.map k e)) (he : P.underlying e = some (.int .i64)) (hz : (zeroValue e).run P w = .ok (.int .i64 0) w)
    (b n : Nat) (m : Lit → Option Int) (hm : a.eval mo = .map (some b)) (h : MapIs P w k e b m n) (key : Value) (kl : Lit) (hx : a.eval xo = key) (hkey : keyOf P k key = some kl)
    (hK : wpList P ops Q rest (a.put o.dst (.tuple #[.int .i64 ((m kl).getD 0), .bool (m kl).isSome])) w) : wpList P ops Q (o :: rest) a w := by
  obtain ⟨D, h1, h2, h3⟩ := h
  refine wpList_lookup_own_ok_int w hg mo xo t hop k e .i64 K ht he hz b n D hm h1 key kl hx hkey fun c hat _ => ?_
  rw [MapIs.has h3]
  rw [h3] at hat
  cases hml : m kl with
  | none =>
    rw [hml] at hat hK
    injection hat with hat
    injection hat with _ hat
    subst hat
    exact hK
  | some x =>
    rw [hml] at hat hK
    injection hat with hat
    injection hat with _ hat
    subst hat
    exact hK
/-- m[key], at the operation -/
theorem wpList_look (hg : o.guard = none) (mo xo : Operand) (t : TypeId) (hop : o.op = Op.lookup t mo xo false) (k e : TypeId) (K : Keyed P k) (ht : P.underlying t = some (.map k e)) (he : P.underlying e = some (.int .i64)) (hz : (zeroValue e).run P w = .ok (.int .i64 0) w)
    (b n : Nat) (m : Lit → Option Int) (hm : a.eval mo = .map (some b)) (h : MapIs P w k e b m n) (key : Value) (kl : Lit) (hx : a.eval xo = key) (hkey : keyOf P k key = some kl)
    (hK : wpList P ops Q rest (a.put o.dst (.int .i64 ((m kl).getD 0))) w) : wpList P ops Q (o :: rest) a w := by
  obtain ⟨D, h1, h2, h3⟩ := h
  refine wpList_lookup_own_int w hg mo xo t hop k e .i64 K ht he hz b n D hm h1 key kl hx hkey fun c hat _ => ?_
  rw [h3] at hat
  cases hml : m kl with
  | none =>
    rw [hml] at hat hK
    injection hat with hat
    injection hat with _ hat
    subst hat
    exact hK
  | some x =>
    rw [hml] at hat hK
    injection hat with hat
    injection hat with _ hat
    subst hat
    exact hK
/-- len(m), at the operation -/
theorem wpList_lenM (hg : o.guard = none) (mo : Operand) (t : TypeId) (hop : o.op = Op.call { callee := Callee.builtin Builtin.len, args := #[mo], argTypes := #[t] }) (k e : TypeId) (ht : P.underlying t = some (.map k e)) (b n : Nat) (m : Lit → Option Int) (hm : a.eval mo = .map (some b)) (h : MapIs P w k e b m n)
    (hK : wpList P ops Q rest (a.put o.dst (.int .i64 n)) w) : wpList P ops Q (o :: rest) a w := by
  obtain ⟨D, h1, h2, h3⟩ := h
  refine wpList_len_own w hg mo t hop k e ht _ b n D hm h1 ?_
  rw [h2]
  exact hK
end
theorem MapIs.run_len {P : Program} {w : World} {k e b n : Nat} {m : Lit → Option Int} (h : MapIs P w k e b m n) {t : TypeId} (ht : P.underlying t = some (.map k e)) (ty : TypeId) : (Builtin.len_ #[t] ty #[.map (some b)]).run P w = .ok (.int .i64 n) w := by
  obtain ⟨D, h1, h2, h3⟩ := h
  rw [h1.len ht ty, h2]
end Go.Proofs.Ytbjfbmienlojkaa

namespace Go.Proofs.Ytbjfbmienlojkaa
open Go.Joins Go.ChangeShapes Go.WideShapes Go.RowKit Go.Deep

def strs (ks : List ByteArray) : List Value := ks.map Value.string
theorem strs_len (ks : List ByteArray) : (strs ks).length = ks.length := by simp [strs]
theorem strs_one (ks : List ByteArray) : ∀ u ∈ strs ks, u.oneCell' = true := by
  intro u hu
  obtain ⟨x, _, rfl⟩ := List.mem_map.1 hu
  rfl
theorem Rd.slen {w : World} {L B n : Nat} {A : Option Addr} {ks : List ByteArray} (h : Rd w L B 1 A n (strs ks)) : ks.length = n := by
  have := h.1; rw [strs_len] at this; omega
theorem Rd.str {w : World} {L B n : Nat} {A : Option Addr} {l : List ByteArray} (h : Rd w L B 1 A n (strs l)) {k : Nat} (hk : k < n) :
    ∃ b o, ∃ hl : k < l.length, A = some ⟨b, o, none⟩ ∧ L ≤ b ∧ b < B ∧ w.cell? ⟨b, o + k, none⟩ = some (.string l[k]) := by
  have hn := h.slen
  obtain ⟨b, o, e, hl, hb, hc⟩ := h.2 (by omega)
  exact ⟨b, o, by omega, e, hl, hb, hc _ _ (by simp [strs, List.getElem?_eq_getElem (show k < l.length by omega)])⟩

/-- what is known of a []string from outside -/
structure TextsIn (w : World) (v : Value) (ks : List ByteArray) : Prop where
  form : ∃ A n c, v = .slice A n c ∧ n ≤ c ∧ c ≤ maxLen ∧ Rd w 0 w.heap.size 1 A n (strs ks) ∧ c * 16 ≤ 140737488351232
  fits : ∀ k ∈ ks, k.size ≤ maxLen

section
variable {H : Type} {enc : TypeId × Value → H} {w : World} {base : Nat} {held : Bool}
set_option maxRecDepth 100000 in
theorem open_texts {r : Reach} {b0 : Nat} {v : Value} {d : DataW H} {ps : List MemPlace} {ts : List TypeId} {ds : List (DataW H)} {j : Nat} (hval : Value.okWide Try.prog w r b0 53 v) (hd : DataW.Trod enc Try.prog w base (fun _ => true) held 53 v d ps)
    (hsz : (DataW.weightsEach Try.prog ts ds).all (· ≤ reachBytes) = true) (ht : ts[j]? = some 53) (hds : ds[j]? = some d) : ∃ ks, TextsIn w v ks := by
  obtain ⟨a0, len, cap, rfl⟩ := okWide_slice Try.underlying53 hval
  obtain ⟨fuel, hf⟩ := hd
  have hc1 : Try.prog.cellsOf 9 = 1 := by kernel_rfl
  rcases open_slice1 Try.underlying53 hc1 hf with ⟨hcs, hx⟩ | ⟨a, len', cap', m, n, V, D, Pl, hcs, hb, hl, hm, hmm, hx, hi⟩
  · simp [Value.cells] at hcs
    obtain ⟨rfl, rfl, rfl⟩ := hcs
    exact ⟨[], ⟨none, 0, 0, rfl, Nat.le_refl _, by decide, Rd.nil, by omega⟩, by simp⟩
  · simp [Value.cells] at hcs
    obtain ⟨rfl, rfl, rfl⟩ := hcs
    have hmc : m = cap := by simpa using hmm
    subst hmc
    have key : ∀ i, i < len → ∃ z : ByteArray, w.cell? (a.add i) = some (.string z) ∧ z.size ≤ maxLen := by
      intro i hil
      obtain ⟨hc, ht'⟩ := hi i (by omega)
      obtain ⟨s, e, _, hw⟩ := DataW.trod_string Try.underlying9 ht'
      injection e with e
      exact ⟨s, by rw [hc, e], hw⟩
    obtain ⟨ks, hks, hq⟩ := cells_list len key
    refine ⟨ks, ⟨some a, len, m, rfl, hl, hm, ⟨by rw [strs_len]; omega, fun hn => ?_⟩, ?_⟩, ?_⟩
    · obtain ⟨z, hz, _⟩ := key 0 hn
      have hs : a.spot = none := World.cell?_spot (by simpa [Addr.add] using hz)
      have hlt := cell_lt hz
      refine ⟨a.block, a.off, ?_, Nat.zero_le _, by rwa [add_none _ _ hs] at hlt, fun j u hu => ?_⟩
      · obtain ⟨b, o, s⟩ := a
        simp at hs
        subst hs
        rfl
      · unfold strs at hu
        rw [List.getElem?_map] at hu
        cases hj : ks[j]? with
        | none => rw [hj] at hu; cases hu
        | some z =>
          rw [hj] at hu
          cases hu
          have := (hq j z hj).1
          rwa [add_none _ _ hs] at this
    · simp only [Prod.mk.injEq] at hx
      rw [hx.1] at hds
      have := sized_slice hsz ht hds Try.underlying53
      have hb9 : Try.prog.bytesOf 9 = 16 := by kernel_rfl
      rw [hb9] at this
      simp only [List.length_map, List.length_range, reachBytes] at this
      omega
    · intro z hz
      obtain ⟨i, hi', e⟩ := List.getElem_of_mem hz
      exact (hq i z (by rw [List.getElem?_eq_getElem hi', e])).2
end
end Go.Proofs.Ytbjfbmienlojkaa
