/- phone.rows: all rows, rising; phone.table: a map of them. -/
import Derived.Test.YtogofchpocoebaaQ2
import Derived.BigQuiet
namespace Go.Proofs.Ytogofchpocoebaa
open Go.RowKit

def vowB : ByteArray := ⟨#[97, 48, 49, 48, 101, 52, 48, 48, 105, 54, 48, 48, 111, 52, 50, 49, 117, 54, 50, 49, 121, 54, 48, 49, 195, 166, 49, 48, 48, 195, 184, 52, 48, 49, 201, 145, 48, 50, 48, 201, 148, 50, 50, 49, 201, 153, 51, 49, 48, 201, 155, 50, 48, 48]⟩
def conB : ByteArray := ⟨([98, 48, 48, 49, 100, 50, 48, 49, 102, 48, 50, 48, 103, 53, 48, 49, 104, 54, 50, 48, 106, 52, 53, 49, 107, 53, 48, 48, 108, 50, 52, 49, 109, 48, 51, 49, 110, 50, 51, 49, 112, 48, 48, 48, 114, 51, 52, 49, 115, 50, 50, 48, 116, 50, 48, 48].append [118, 48, 50, 49, 119, 48, 53, 49, 120, 53, 50, 48, 122, 50, 50, 49, 195, 176, 49, 50, 49, 197, 139, 53, 51, 49, 202, 131, 51, 50, 48, 202, 146, 51, 50, 49, 202, 148, 54, 48, 48, 202, 164, 51, 49, 49, 202, 167, 51, 49, 48, 206, 184, 49, 50, 48]).toArray⟩
theorem read_vow : readRows trA vowB = vowRows := by kernel_rfl
theorem read_con : readRows trB conB = conRows := by kernel_rfl

theorem Rd.tail {w : World} {L B n b o : Nat} {x : Int × Tr} {l : List (Int × Tr)} (h : Rd w L B 8 (some ⟨b, o, none⟩) (n + 1) (rws (x :: l))) : Rd w L B 8 (some ⟨b, o + 8, none⟩) n (rws l) := by
  obtain ⟨h1, h2⟩ := h
  have e : rws (x :: l) = rowC x ++ rws l := by simp [rws]
  rw [e, List.length_append] at h1
  have hx : (rowC x).length = 8 := rfl
  refine ⟨by omega, fun hn => ?_⟩
  obtain ⟨b', o', e', hl, hb, hc⟩ := h2 (by omega)
  injection e' with e'
  injection e' with e1 e2
  subst e1 e2
  refine ⟨b, o + 8, rfl, hl, hb, fun j u hu => ?_⟩
  have := hc (8 + j) u (by rw [e, List.getElem?_append_right (by omega), hx, show 8 + j - 8 = j by omega]; exact hu)
  rwa [Nat.add_assoc]

/-- memory while rows runs: what is left of both lists, what has been merged -/
structure MgSt (w0 : World) (B : Nat) (v1 v2 v3 : Value) (vs cs out : List (Int × Tr)) (W : World) : Prop where
  r1 : ∃ A c, v1 = .slice A vs.length c ∧ vs.length ≤ c ∧ c ≤ maxLen ∧ Rd W 0 B 8 A vs.length (rws vs)
  r2 : ∃ A c, v2 = .slice A cs.length c ∧ cs.length ≤ c ∧ c ≤ maxLen ∧ Rd W 0 B 8 A cs.length (rws cs)
  own : W.ownsRow B 185 8 v3 out.length (rws out)
  below : Below B w0 W
  bB : B ≤ W.heap.size

theorem MgSt.drew {w0 : World} {B : Nat} {v1 v2 v3 : Value} {vs cs out : List (Int × Tr)} {W : World} (h : MgSt w0 B v1 v2 v3 vs cs out W) : MgSt w0 B v1 v2 v3 vs cs out W.drew :=
  ⟨h.r1, h.r2, h.own, ⟨h.below.os, h.below.tape, h.below.output, h.below.size, h.below.block⟩, h.bB⟩
theorem MgSt.drewN {w0 : World} {B : Nat} {v1 v2 v3 : Value} {vs cs out : List (Int × Tr)} {W : World} (h : MgSt w0 B v1 v2 v3 vs cs out W) (n : Nat) : MgSt w0 B v1 v2 v3 vs cs out (W.drewN n) :=
  ⟨h.r1, h.r2, h.own, ⟨h.below.os, h.below.tape, h.below.output, h.below.size, h.below.block⟩, h.bB⟩
theorem MgSt.stay {w0 : World} {B : Nat} {v1 v2 v3 : Value} {vs cs out : List (Int × Tr)} {W W' : World} (h : MgSt w0 B v1 v2 v3 vs cs out W) (hb : Below B W W') {v3' : Value} {out' : List (Int × Tr)} (ho : W'.ownsRow B 185 8 v3' out'.length (rws out')) : MgSt w0 B v1 v2 v3' vs cs out' W' := by
  obtain ⟨A, c, e, h1, h2, h3⟩ := h.r1
  obtain ⟨A', c', e', h1', h2', h3'⟩ := h.r2
  exact ⟨⟨A, c, e, h1, h2, h3.below hb (Nat.le_refl _)⟩, ⟨A', c', e', h1', h2', h3'.below hb (Nat.le_refl _)⟩, ho, h.below.trans hb, Nat.le_trans h.bB hb.size⟩
theorem MgSt.app {w0 : World} {B : Nat} {v1 v2 v3 v4 : Value} {vs cs out : List (Int × Tr)} {W W' : World} (h : MgSt w0 B v1 v2 v3 vs cs out W) (o : Obj) (x : Int × Tr) (ho : W'.ownsRow B 185 8 v4 (out.length + 1) (rws out ++ rowC x)) (hg : (W.alloc o).grownBy W' v3.ownBlock) : MgSt w0 B v1 v2 v4 vs cs (out ++ [x]) W' := by
  refine h.stay (((Below.refl _ _).alloc h.bB o).trans ((show Only (fun k => v3.ownBlock = some k) (W.alloc o) W' from (Only.refl _ _).grown hg (fun _ hg => .inl hg)).below (by simp; have := h.bB; omega) (fun k hk hh => by have := (h.own.lt _ hh).1; omega))) ?_
  rw [rws_append, List.length_append]
  simpa [rws] using ho
theorem Below.drewB {B : Nat} {w w' : World} (h : Below B w w') : Below B w w'.drew := ⟨h.os, h.tape, h.output, h.size, h.block⟩
theorem Below.allocB {B : Nat} {w w' : World} (h : Below B w w') (hB : B ≤ w.heap.size) (o : Obj) : Below B w (w'.alloc o) := h.alloc (Nat.le_trans hB h.size) o
theorem MgSt.bel {w0 : World} {B : Nat} {v1 v2 v3 : Value} {vs cs out : List (Int × Tr)} {W W' : World} (h : MgSt w0 B v1 v2 v3 vs cs out W) (o : Obj) (hg : (W.drew.alloc o).grownBy W' v3.ownBlock) : Below B W W' :=
  (Below.allocB (Below.drewB (Below.refl B W)) h.bB o).trans ((show Only (fun k => v3.ownBlock = some k) (W.drew.alloc o) W' from (Only.refl _ _).grown hg (fun _ hg => .inl hg)).below (by simp; have := h.bB; omega) (fun k hk hh => by have := (h.own.lt _ hh).1; omega))
/-- l[1:] of rows -/
theorem slice_tail (b o n k : Nat) (hn : n ≤ k) : ∃ A' : Option Addr, (∀ wx, (Instr.slice 182 (.slice (some ⟨b, o, none⟩) (n + 1) (k + 1)) (some (.int .i64 1)) none none).run Try.prog wx = .ok (.slice A' n k) wx) ∧
    ∀ (W : World) (L B : Nat) (x : Int × Tr) (l : List (Int × Tr)), Rd W L B 8 (some ⟨b, o, none⟩) (n + 1) (rws (x :: l)) → Rd W L B 8 A' n (rws l) := by
  have h8 : (Try.prog.info? 185).map (·.size) = some 8 := by kernel_rfl
  obtain ⟨i, hi, h8'⟩ := Option.map_eq_some_iff.1 h8
  refine ⟨if k + 1 = 1 then some ⟨b, o, none⟩ else some ⟨b, o + 8, none⟩, fun wx => ?_, fun W L B x l h => ?_⟩
  · have e1 : (0 : Int) ≤ 1 ∧ (1 : Int) ≤ ((n + 1 : Nat) : Int) := by omega
    simp [Instr.slice, Instr.sliceBounds, Instr.sliceBound, run_underlying Try.underlying182, sizeOf, typeInfo, hi, h8', e1, asIntOf]
    rw [if_pos (by omega)]
    simp [Addr.add]
  · by_cases hk : k + 1 = 1
    · rw [if_pos hk]
      have hn0 : n = 0 := by omega
      subst hn0
      refine Rd.zero ?_
      have h1 := h.1
      rw [rws_len] at h1
      have h2 : l.length = 0 := by simp at h1; omega
      rw [List.eq_nil_of_length_eq_zero h2]
      rfl
    · rw [if_neg hk]
      exact h.tail
theorem MgSt.next1 {w0 : World} {B b o n c : Nat} {A' : Option Addr} {v2 v3 : Value} {x : Int × Tr} {vs cs out : List (Int × Tr)} {W : World} (h : MgSt w0 B (.slice (some ⟨b, o, none⟩) (n + 1) (c + 1)) v2 v3 (x :: vs) cs out W) (hA : ∀ (W : World) (L B : Nat) (x : Int × Tr) (l : List (Int × Tr)), Rd W L B 8 (some ⟨b, o, none⟩) (n + 1) (rws (x :: l)) → Rd W L B 8 A' n (rws l)) : MgSt w0 B (.slice A' n c) v2 v3 vs cs out W := by
  obtain ⟨A, c', e, h1, h2, h3⟩ := h.r1
  injection e with e1 e2 e3
  subst e1 e3
  simp only [List.length_cons] at e2 h1 h3
  have : n = vs.length := by omega
  subst this
  exact ⟨⟨_, c, rfl, by omega, by omega, hA _ _ _ _ _ h3⟩, h.r2, h.own, h.below, h.bB⟩
theorem MgSt.next2 {w0 : World} {B b o n c : Nat} {A' : Option Addr} {v1 v3 : Value} {x : Int × Tr} {vs cs out : List (Int × Tr)} {W : World} (h : MgSt w0 B v1 (.slice (some ⟨b, o, none⟩) (n + 1) (c + 1)) v3 vs (x :: cs) out W) (hA : ∀ (W : World) (L B : Nat) (x : Int × Tr) (l : List (Int × Tr)), Rd W L B 8 (some ⟨b, o, none⟩) (n + 1) (rws (x :: l)) → Rd W L B 8 A' n (rws l)) : MgSt w0 B v1 (.slice A' n c) v3 vs cs out W := by
  obtain ⟨A, c', e, h1, h2, h3⟩ := h.r2
  injection e with e1 e2 e3
  subst e1 e3
  simp only [List.length_cons] at e2 h1 h3
  have : n = cs.length := by omega
  subst this
  exact ⟨h.r1, ⟨_, c, rfl, by omega, by omega, hA _ _ _ _ _ h3⟩, h.own, h.below, h.bB⟩
/-- the cells of a list's first row -/
theorem Rd.first {w : World} {L B n : Nat} {A : Option Addr} {x : Int × Tr} {l : List (Int × Tr)} (h : Rd w L B 8 A (n + 1) (rws (x :: l))) : ∃ b o, A = some ⟨b, o, none⟩ ∧ b < B ∧ w.cell? ⟨b, o, none⟩ = some (.int .i32 x.1) ∧ w.cell? ⟨b, o + 1, none⟩ = some (.bool x.2.vow) ∧ w.cell? ⟨b, o + 2, none⟩ = some (.int .i64 x.2.hgt) ∧ w.cell? ⟨b, o + 3, none⟩ = some (.int .i64 x.2.bck) ∧
    w.cell? ⟨b, o + 4, none⟩ = some (.bool x.2.rnd) ∧ w.cell? ⟨b, o + 5, none⟩ = some (.int .i64 x.2.plc) ∧ w.cell? ⟨b, o + 6, none⟩ = some (.int .i64 x.2.mnr) ∧ w.cell? ⟨b, o + 7, none⟩ = some (.bool x.2.vcd) := by
  obtain ⟨b, o, e, _, hb, hc⟩ := h.2 (by omega)
  exact ⟨b, o, e, hb, hc 0 _ rfl, hc 1 _ rfl, hc 2 _ rfl, hc 3 _ rfl, hc 4 _ rfl, hc 5 _ rfl, hc 6 _ rfl, hc 7 _ rfl⟩
theorem own_cap {w : World} {base : Nat} {e : TypeId} {size : Nat} {A : Option Addr} {c n : Nat} {xs : List Value} (h : w.ownsRow base e size (.slice A n c) n xs) : n ≤ c ∧ c ≤ maxLen := by
  rcases h.2 with ⟨hv, h0⟩ | ⟨g, cap, cur, hv, _, _, h1, h2, _⟩
  · injection hv with _ h1 h2
    subst h1 h2
    exact ⟨Nat.le_refl _, by unfold maxLen; omega⟩
  · injection hv with _ _ h3
    subst h3
    exact ⟨h1, h2⟩
theorem own_in {w w' : World} {base B : Nat} {v : Value} {l : List (Int × Tr)} (h : w.ownsRow base 185 8 v l.length (rws l)) (hb : Below w.heap.size w w') (hB : w.heap.size ≤ B) : ∃ A c, v = .slice A l.length c ∧ l.length ≤ c ∧ c ≤ maxLen ∧ Rd w' 0 B 8 A l.length (rws l) := by
  obtain ⟨A, c, rfl⟩ := own_slice h
  exact ⟨A, c, rfl, (own_cap h).1, (own_cap h).2, ((own_rd h).below hb (Nat.le_refl _)).more (Nat.zero_le _) hB⟩
/-- how many elements a slice value has -/
def slen : Value → Nat
  | .slice _ n _ => n
  | _ => 0

set_option maxHeartbeats 4000000 in
set_option maxRecDepth 100000 in
theorem rows_any (w : World) : Calls Try.prog 125 #[] w fun e w' => ∃ v, e = .returned v ∧ w'.ownsRow w.heap.size 185 8 v 38 (rws rowsL) ∧ Below w.heap.size w w' := by
  obtain ⟨i0, hi, hz0, hz1, hz2⟩ := info_parts info185
  have HI := Lib.hid (And.intro hi (And.intro hz0 (And.intro hz1 hz2)))
  clear hi hz0 hz1 hz2
  go_enter Try.func125, Try.ntmps125
  go_wp2_with fail
  refine (readA_any vowB w (by decide)).mono ?_
  rintro e w1 ⟨v1, rfl, o1, hb1⟩
  rw [read_vow] at o1
  have HA := Lib.hid (And.intro o1 hb1)
  clear o1 hb1
  go_wp2_with fail
  refine (readB_any conB w1 (by decide)).mono ?_
  rintro e w2 ⟨v2, rfl, o2, hb2⟩
  rw [read_con] at o2
  have HB := Lib.hid (And.intro o2 hb2)
  clear o2 hb2
  have hM : MgSt w2 w2.heap.size v1 v2 (.slice none 0 0) vowRows conRows [] w2 :=
    ⟨own_in HA.out.1 HB.out.2 HB.out.2.size, own_in HB.out.1 (Below.refl _ _) (Nat.le_refl _), World.ownsRow_nil _ _ _ _, Below.refl _ _, Nat.le_refl _⟩
  have HM := Lib.hid hM
  clear hM
  go_wp2
  go_loopw [1, 2, 3] (fun v1 v2 v3 wr => ∃ vs cs out, Hid (MgSt w2 w2.heap.size v1 v2 v3 vs cs out wr ∧ out ++ mergeR (vs.length + cs.length) vs cs = rowsL ∧ out.length + (vs.length + cs.length) = 38 ∧ slen v1 = vs.length ∧ slen v2 = cs.length)) (fun v1 v2 _ _ => slen v1 + slen v2)
  case atStart =>
    refine ⟨vowRows, conRows, [], Lib.hid ⟨HM.out, rfl, rfl, ?_, ?_⟩⟩
    · obtain ⟨A, c, e, _⟩ := HM.out.r1; rw [e]; rfl
    · obtain ⟨A, c, e, _⟩ := HM.out.r2; rw [e]; rfl
  case round =>
    obtain ⟨vs, cs, out, H⟩ := hrel
    clear HM
    obtain ⟨A1, k1, e1, h11, h12, h13⟩ := H.out.1.r1
    obtain ⟨A2, k2, e2, h21, h22, h23⟩ := H.out.1.r2
    have H13 := Lib.hid h13
    have H23 := Lib.hid h23
    clear h13 h23
    cases vs with
    | nil =>
      cases cs with
      | nil =>
        subst e1 e2
        go_wp2
        refine bodyPost_ret (v := u3) (by simp [results, Try.results125, go_sem]) rfl ?_
        have hl : out.length = 38 := by have := H.out.2.2.1; simpa using this
        have ho : out = rowsL := by have := H.out.2.1; simpa [mergeR] using this
        subst ho
        have h3 := H.out.1.own
        rw [hl] at h3
        have z1 := HA.out.2.size
        have z2 := HB.out.2.size
        exact ⟨u3, rfl, own_more h3 (by omega), (HA.out.2.trans (HB.out.2.mono z1)).trans (H.out.1.below.mono (by omega))⟩
      | cons c cs =>
        obtain ⟨k2, rfl⟩ : ∃ k', k2 = k' + 1 := ⟨k2 - 1, by simp at h21; omega⟩
        obtain ⟨b2, o2, rfl, hb2, c0, _⟩ := H23.out.first
        subst e1 e2
        have hlen := H.out.2.2.1
        simp only [List.length_cons, List.length_nil] at h11 h21 hlen ⊢
        have hz : (((cs.length : Int) + 1) == 0) = false := by simp; omega
        go_upto_region 5 with (fail)
        go_quiet (fail)
        go_upto_region 7 with (fail)
        refine wp_abs (MgSt w2 w2.heap.size (.slice A1 0 k1) (.slice (some ⟨b2, o2, none⟩) (cs.length + 1) (k2 + 1)) u3 [] (c :: cs) out) (H.out.1.drewN _) ?_
        have hol : out.length ≤ 38 := by omega
        clear H13 H23 c0
        rintro wx hx
        obtain ⟨_, _, ee, _, _, hr⟩ := hx.r2
        injection ee with ee ee2 ee3
        clear ee2 ee3
        subst ee
        obtain ⟨b', o', ee, _, d0, d1, d2, d3, d4, d5, d6, d7⟩ := hr.first
        injection ee with ee
        injection ee with ee1 ee2
        subst ee1 ee2
        have hK : ∀ W', Below w2.heap.size wx W' → W'.cell? ⟨b2, o2, none⟩ = some (.int .i32 c.1) ∧ W'.cell? ⟨b2, o2 + 1, none⟩ = some (.bool c.2.vow) ∧ W'.cell? ⟨b2, o2 + 2, none⟩ = some (.int .i64 c.2.hgt) ∧ W'.cell? ⟨b2, o2 + 3, none⟩ = some (.int .i64 c.2.bck) ∧ W'.cell? ⟨b2, o2 + 4, none⟩ = some (.bool c.2.rnd) ∧ W'.cell? ⟨b2, o2 + 5, none⟩ = some (.int .i64 c.2.plc) ∧ W'.cell? ⟨b2, o2 + 6, none⟩ = some (.int .i64 c.2.mnr) ∧ W'.cell? ⟨b2, o2 + 7, none⟩ = some (.bool c.2.vcd) := fun W' hb => ⟨(hb.cell (p := ⟨b2, o2, none⟩) hb2).trans d0, (hb.cell (p := ⟨b2, o2 + 1, none⟩) hb2).trans d1, (hb.cell (p := ⟨b2, o2 + 2, none⟩) hb2).trans d2, (hb.cell (p := ⟨b2, o2 + 3, none⟩) hb2).trans d3, (hb.cell (p := ⟨b2, o2 + 4, none⟩) hb2).trans d4, (hb.cell (p := ⟨b2, o2 + 5, none⟩) hb2).trans d5, (hb.cell (p := ⟨b2, o2 + 6, none⟩) hb2).trans d6, (hb.cell (p := ⟨b2, o2 + 7, none⟩) hb2).trans d7⟩
        have HK := Lib.hid hK
        obtain ⟨A', hsl, hA'⟩ := slice_tail b2 o2 cs.length k2 (by omega)
        have HA' := Lib.hid hA'
        have HX := Lib.hid hx
        have hbx := hx.bB
        clear hK hA'
        clear hx hr
        go_region_held3 (fun W' => W'.cell? ⟨b2, o2, none⟩ = some (.int .i32 c.1) ∧ W'.cell? ⟨b2, o2 + 1, none⟩ = some (.bool c.2.vow) ∧ W'.cell? ⟨b2, o2 + 2, none⟩ = some (.int .i64 c.2.hgt) ∧ W'.cell? ⟨b2, o2 + 3, none⟩ = some (.int .i64 c.2.bck) ∧ W'.cell? ⟨b2, o2 + 4, none⟩ = some (.bool c.2.rnd) ∧ W'.cell? ⟨b2, o2 + 5, none⟩ = some (.int .i64 c.2.plc) ∧ W'.cell? ⟨b2, o2 + 6, none⟩ = some (.int .i64 c.2.mnr) ∧ W'.cell? ⟨b2, o2 + 7, none⟩ = some (.bool c.2.vcd)) ((refine HK.out _ ?_; (repeat (first | (with_reducible exact Below.refl _ _) | exact HE.out.2 | (refine Below.drewB ?_) | (refine Below.allocB ?_ hbx _))); done))
          ((refine step_append_rd _ (by rfl) _ _ 182 (by rfl) w2.heap.size 185 i0 (.agg #[.int .i32 0, .bool false, .int .i64 0, .int .i64 0, .bool false, .int .i64 0, .int .i64 0, .bool false]) 8 64 Try.underlying182 HI.out.1 HI.out.2.1 HI.out.2.2.1 HI.out.2.2.2 rfl (by omega) u3 out.length (rws out) (by rfl) (by exact HX.out.drew.own.alloc _) _ _ _ 1 1 _ (by rfl) (by exact rd_new _ _ _ _ rfl) (by simp [Value.oneCell']) (by unfold maxLen; omega) (by omega) (by simp; omega) ?_; intro v4 w4 _ hown hgrow _; have HE := Lib.hid (And.intro (HX.out.drew.app _ c hown hgrow) (show Below w2.heap.size wx _ from HX.out.bel _ hgrow)); clear hown hgrow))
        all_goals
          clear d0 d1 d2 d3 d4 d5 d6 d7
          go_wp2
          go_roundw
          case rel =>
            refine ⟨[], cs, out ++ [c], Lib.hid ⟨(HE.out.1).next2 HA'.out, ?_, ?_, ?_, ?_⟩⟩
            · have hm := H.out.2.1
              simp only [List.length_cons, List.length_nil] at hm ⊢
              rw [show 0 + (cs.length + 1) = (0 + cs.length) + 1 by omega, mergeR] at hm
              rw [← hm, List.append_assoc]
              rfl
            · simp only [List.length_append, List.length_cons, List.length_nil] at hlen ⊢; omega
            · rfl
            · rfl
          case measure => simp [slen]
    | cons v vs =>
      cases cs with
      | nil =>
        obtain ⟨k1, rfl⟩ : ∃ k', k1 = k' + 1 := ⟨k1 - 1, by simp at h11; omega⟩
        obtain ⟨b1, o1, rfl, hb1, c0, _⟩ := H13.out.first
        subst e1 e2
        have hlen := H.out.2.2.1
        simp only [List.length_cons, List.length_nil] at h11 h21 hlen ⊢
        have hv : decide ((0 : Int) < (vs.length : Int) + 1) = true := by simp <;> omega
        go_upto_region 5 with (fail)
        go_quiet (fail)
        go_upto_region 6 with (fail)
        refine wp_abs (MgSt w2 w2.heap.size (.slice (some ⟨b1, o1, none⟩) (vs.length + 1) (k1 + 1)) (.slice A2 0 k2) u3 (v :: vs) [] out) (H.out.1.drewN _) ?_
        have hol : out.length ≤ 38 := by omega
        clear H13 H23 c0
        rintro wx hx
        obtain ⟨_, _, ee, _, _, hr⟩ := hx.r1
        injection ee with ee ee2 ee3
        clear ee2 ee3
        subst ee
        obtain ⟨b', o', ee, _, d0, d1, d2, d3, d4, d5, d6, d7⟩ := hr.first
        injection ee with ee
        injection ee with ee1 ee2
        subst ee1 ee2
        have hK : ∀ W', Below w2.heap.size wx W' → W'.cell? ⟨b1, o1, none⟩ = some (.int .i32 v.1) ∧ W'.cell? ⟨b1, o1 + 1, none⟩ = some (.bool v.2.vow) ∧ W'.cell? ⟨b1, o1 + 2, none⟩ = some (.int .i64 v.2.hgt) ∧ W'.cell? ⟨b1, o1 + 3, none⟩ = some (.int .i64 v.2.bck) ∧ W'.cell? ⟨b1, o1 + 4, none⟩ = some (.bool v.2.rnd) ∧ W'.cell? ⟨b1, o1 + 5, none⟩ = some (.int .i64 v.2.plc) ∧ W'.cell? ⟨b1, o1 + 6, none⟩ = some (.int .i64 v.2.mnr) ∧ W'.cell? ⟨b1, o1 + 7, none⟩ = some (.bool v.2.vcd) := fun W' hb => ⟨(hb.cell (p := ⟨b1, o1, none⟩) hb1).trans d0, (hb.cell (p := ⟨b1, o1 + 1, none⟩) hb1).trans d1, (hb.cell (p := ⟨b1, o1 + 2, none⟩) hb1).trans d2, (hb.cell (p := ⟨b1, o1 + 3, none⟩) hb1).trans d3, (hb.cell (p := ⟨b1, o1 + 4, none⟩) hb1).trans d4, (hb.cell (p := ⟨b1, o1 + 5, none⟩) hb1).trans d5, (hb.cell (p := ⟨b1, o1 + 6, none⟩) hb1).trans d6, (hb.cell (p := ⟨b1, o1 + 7, none⟩) hb1).trans d7⟩
        have HK := Lib.hid hK
        obtain ⟨A', hsl, hA'⟩ := slice_tail b1 o1 vs.length k1 (by omega)
        have HA' := Lib.hid hA'
        have HX := Lib.hid hx
        have hbx := hx.bB
        clear hK hA'
        clear hx hr
        go_region_held3 (fun W' => W'.cell? ⟨b1, o1, none⟩ = some (.int .i32 v.1) ∧ W'.cell? ⟨b1, o1 + 1, none⟩ = some (.bool v.2.vow) ∧ W'.cell? ⟨b1, o1 + 2, none⟩ = some (.int .i64 v.2.hgt) ∧ W'.cell? ⟨b1, o1 + 3, none⟩ = some (.int .i64 v.2.bck) ∧ W'.cell? ⟨b1, o1 + 4, none⟩ = some (.bool v.2.rnd) ∧ W'.cell? ⟨b1, o1 + 5, none⟩ = some (.int .i64 v.2.plc) ∧ W'.cell? ⟨b1, o1 + 6, none⟩ = some (.int .i64 v.2.mnr) ∧ W'.cell? ⟨b1, o1 + 7, none⟩ = some (.bool v.2.vcd)) ((refine HK.out _ ?_; (repeat (first | (with_reducible exact Below.refl _ _) | exact HE.out.2 | (refine Below.drewB ?_) | (refine Below.allocB ?_ hbx _))); done))
          ((refine step_append_rd _ (by rfl) _ _ 182 (by rfl) w2.heap.size 185 i0 (.agg #[.int .i32 0, .bool false, .int .i64 0, .int .i64 0, .bool false, .int .i64 0, .int .i64 0, .bool false]) 8 64 Try.underlying182 HI.out.1 HI.out.2.1 HI.out.2.2.1 HI.out.2.2.2 rfl (by omega) u3 out.length (rws out) (by rfl) (by exact HX.out.drew.own.alloc _) _ _ _ 1 1 _ (by rfl) (by exact rd_new _ _ _ _ rfl) (by simp [Value.oneCell']) (by unfold maxLen; omega) (by omega) (by simp; omega) ?_; intro v4 w4 _ hown hgrow _; have HE := Lib.hid (And.intro (HX.out.drew.app _ v hown hgrow) (show Below w2.heap.size wx _ from HX.out.bel _ hgrow)); clear hown hgrow))
        all_goals
          clear d0 d1 d2 d3 d4 d5 d6 d7
          go_wp2
          go_roundw
          case rel =>
            refine ⟨vs, [], out ++ [v], Lib.hid ⟨(HE.out.1).next1 HA'.out, ?_, ?_, ?_, ?_⟩⟩
            · have hm := H.out.2.1
              simp only [List.length_cons, List.length_nil] at hm ⊢
              rw [show (vs.length + 1) + 0 = (vs.length + 0) + 1 by omega, mergeR] at hm
              rw [← hm, List.append_assoc]
              rfl
            · simp only [List.length_append, List.length_cons, List.length_nil] at hlen ⊢; omega
            · rfl
            · rfl
          case measure => simp [slen]
      | cons c cs =>
        obtain ⟨k1, rfl⟩ : ∃ k', k1 = k' + 1 := ⟨k1 - 1, by simp at h11; omega⟩
        obtain ⟨k2, rfl⟩ : ∃ k', k2 = k' + 1 := ⟨k2 - 1, by simp at h21; omega⟩
        obtain ⟨b1, o1, rfl, hb1, c0, _⟩ := H13.out.first
        obtain ⟨b2, o2, rfl, hb2, c0', _⟩ := H23.out.first
        subst e1 e2
        have hlen := H.out.2.2.1
        simp only [List.length_cons] at h11 h21 hlen ⊢
        by_cases hlt : v.1 < c.1
        · have hdl : decide (v.1 < c.1) = true := by simpa using hlt
          have hz : (((cs.length : Int) + 1) == 0) = false := by simp; omega
          have hv : decide ((0 : Int) < (vs.length : Int) + 1) = true := by simp <;> omega
          go_upto_region 5 with (fail)
          go_quiet (fail)
          go_upto_region 6 with (fail)
          refine wp_abs (MgSt w2 w2.heap.size (.slice (some ⟨b1, o1, none⟩) (vs.length + 1) (k1 + 1)) (.slice (some ⟨b2, o2, none⟩) (cs.length + 1) (k2 + 1)) u3 (v :: vs) (c :: cs) out) (H.out.1.drewN _) ?_
          have hol : out.length ≤ 38 := by omega
          clear H13 H23 c0
          rintro wx hx
          obtain ⟨_, _, ee, _, _, hr⟩ := hx.r1
          injection ee with ee ee2 ee3
          clear ee2 ee3
          subst ee
          obtain ⟨b', o', ee, _, d0, d1, d2, d3, d4, d5, d6, d7⟩ := hr.first
          injection ee with ee
          injection ee with ee1 ee2
          subst ee1 ee2
          have hK : ∀ W', Below w2.heap.size wx W' → W'.cell? ⟨b1, o1, none⟩ = some (.int .i32 v.1) ∧ W'.cell? ⟨b1, o1 + 1, none⟩ = some (.bool v.2.vow) ∧ W'.cell? ⟨b1, o1 + 2, none⟩ = some (.int .i64 v.2.hgt) ∧ W'.cell? ⟨b1, o1 + 3, none⟩ = some (.int .i64 v.2.bck) ∧ W'.cell? ⟨b1, o1 + 4, none⟩ = some (.bool v.2.rnd) ∧ W'.cell? ⟨b1, o1 + 5, none⟩ = some (.int .i64 v.2.plc) ∧ W'.cell? ⟨b1, o1 + 6, none⟩ = some (.int .i64 v.2.mnr) ∧ W'.cell? ⟨b1, o1 + 7, none⟩ = some (.bool v.2.vcd) := fun W' hb => ⟨(hb.cell (p := ⟨b1, o1, none⟩) hb1).trans d0, (hb.cell (p := ⟨b1, o1 + 1, none⟩) hb1).trans d1, (hb.cell (p := ⟨b1, o1 + 2, none⟩) hb1).trans d2, (hb.cell (p := ⟨b1, o1 + 3, none⟩) hb1).trans d3, (hb.cell (p := ⟨b1, o1 + 4, none⟩) hb1).trans d4, (hb.cell (p := ⟨b1, o1 + 5, none⟩) hb1).trans d5, (hb.cell (p := ⟨b1, o1 + 6, none⟩) hb1).trans d6, (hb.cell (p := ⟨b1, o1 + 7, none⟩) hb1).trans d7⟩
          have HK := Lib.hid hK
          obtain ⟨A', hsl, hA'⟩ := slice_tail b1 o1 vs.length k1 (by omega)
          have HA' := Lib.hid hA'
          have HX := Lib.hid hx
          have hbx := hx.bB
          clear hK hA'
          clear hx hr
          go_region_held3 (fun W' => W'.cell? ⟨b1, o1, none⟩ = some (.int .i32 v.1) ∧ W'.cell? ⟨b1, o1 + 1, none⟩ = some (.bool v.2.vow) ∧ W'.cell? ⟨b1, o1 + 2, none⟩ = some (.int .i64 v.2.hgt) ∧ W'.cell? ⟨b1, o1 + 3, none⟩ = some (.int .i64 v.2.bck) ∧ W'.cell? ⟨b1, o1 + 4, none⟩ = some (.bool v.2.rnd) ∧ W'.cell? ⟨b1, o1 + 5, none⟩ = some (.int .i64 v.2.plc) ∧ W'.cell? ⟨b1, o1 + 6, none⟩ = some (.int .i64 v.2.mnr) ∧ W'.cell? ⟨b1, o1 + 7, none⟩ = some (.bool v.2.vcd)) ((refine HK.out _ ?_; (repeat (first | (with_reducible exact Below.refl _ _) | exact HE.out.2 | (refine Below.drewB ?_) | (refine Below.allocB ?_ hbx _))); done))
            ((refine step_append_rd _ (by rfl) _ _ 182 (by rfl) w2.heap.size 185 i0 (.agg #[.int .i32 0, .bool false, .int .i64 0, .int .i64 0, .bool false, .int .i64 0, .int .i64 0, .bool false]) 8 64 Try.underlying182 HI.out.1 HI.out.2.1 HI.out.2.2.1 HI.out.2.2.2 rfl (by omega) u3 out.length (rws out) (by rfl) (by exact HX.out.drew.own.alloc _) _ _ _ 1 1 _ (by rfl) (by exact rd_new _ _ _ _ rfl) (by simp [Value.oneCell']) (by unfold maxLen; omega) (by omega) (by simp; omega) ?_; intro v4 w4 _ hown hgrow _; have HE := Lib.hid (And.intro (HX.out.drew.app _ v hown hgrow) (show Below w2.heap.size wx _ from HX.out.bel _ hgrow)); clear hown hgrow))
          all_goals
            clear d0 d1 d2 d3 d4 d5 d6 d7
            go_wp2
            go_roundw
            case rel =>
              refine ⟨vs, (c :: cs), out ++ [v], Lib.hid ⟨(HE.out.1).next1 HA'.out, ?_, ?_, ?_, ?_⟩⟩
              · have hm := H.out.2.1
                simp only [List.length_cons] at hm ⊢
                rw [show (vs.length + 1) + (cs.length + 1) = (vs.length + (cs.length + 1)) + 1 by omega, mergeR, if_pos hlt] at hm
                rw [← hm, List.append_assoc]
                rfl
              · simp only [List.length_append, List.length_cons, List.length_nil] at hlen ⊢; omega
              · rfl
              · rfl
            case measure => simp [slen]
        · have hdl : decide (v.1 < c.1) = false := by simpa using hlt
          have hz : (((cs.length : Int) + 1) == 0) = false := by simp; omega
          have hv : decide ((0 : Int) < (vs.length : Int) + 1) = true := by simp <;> omega
          go_upto_region 5 with (fail)
          go_quiet (fail)
          go_upto_region 7 with (fail)
          refine wp_abs (MgSt w2 w2.heap.size (.slice (some ⟨b1, o1, none⟩) (vs.length + 1) (k1 + 1)) (.slice (some ⟨b2, o2, none⟩) (cs.length + 1) (k2 + 1)) u3 (v :: vs) (c :: cs) out) (H.out.1.drewN _) ?_
          have hol : out.length ≤ 38 := by omega
          clear H13 H23 c0
          rintro wx hx
          obtain ⟨_, _, ee, _, _, hr⟩ := hx.r2
          injection ee with ee ee2 ee3
          clear ee2 ee3
          subst ee
          obtain ⟨b', o', ee, _, d0, d1, d2, d3, d4, d5, d6, d7⟩ := hr.first
          injection ee with ee
          injection ee with ee1 ee2
          subst ee1 ee2
          have hK : ∀ W', Below w2.heap.size wx W' → W'.cell? ⟨b2, o2, none⟩ = some (.int .i32 c.1) ∧ W'.cell? ⟨b2, o2 + 1, none⟩ = some (.bool c.2.vow) ∧ W'.cell? ⟨b2, o2 + 2, none⟩ = some (.int .i64 c.2.hgt) ∧ W'.cell? ⟨b2, o2 + 3, none⟩ = some (.int .i64 c.2.bck) ∧ W'.cell? ⟨b2, o2 + 4, none⟩ = some (.bool c.2.rnd) ∧ W'.cell? ⟨b2, o2 + 5, none⟩ = some (.int .i64 c.2.plc) ∧ W'.cell? ⟨b2, o2 + 6, none⟩ = some (.int .i64 c.2.mnr) ∧ W'.cell? ⟨b2, o2 + 7, none⟩ = some (.bool c.2.vcd) := fun W' hb => ⟨(hb.cell (p := ⟨b2, o2, none⟩) hb2).trans d0, (hb.cell (p := ⟨b2, o2 + 1, none⟩) hb2).trans d1, (hb.cell (p := ⟨b2, o2 + 2, none⟩) hb2).trans d2, (hb.cell (p := ⟨b2, o2 + 3, none⟩) hb2).trans d3, (hb.cell (p := ⟨b2, o2 + 4, none⟩) hb2).trans d4, (hb.cell (p := ⟨b2, o2 + 5, none⟩) hb2).trans d5, (hb.cell (p := ⟨b2, o2 + 6, none⟩) hb2).trans d6, (hb.cell (p := ⟨b2, o2 + 7, none⟩) hb2).trans d7⟩
          have HK := Lib.hid hK
          obtain ⟨A', hsl, hA'⟩ := slice_tail b2 o2 cs.length k2 (by omega)
          have HA' := Lib.hid hA'
          have HX := Lib.hid hx
          have hbx := hx.bB
          clear hK hA'
          clear hx hr
          go_region_held3 (fun W' => W'.cell? ⟨b2, o2, none⟩ = some (.int .i32 c.1) ∧ W'.cell? ⟨b2, o2 + 1, none⟩ = some (.bool c.2.vow) ∧ W'.cell? ⟨b2, o2 + 2, none⟩ = some (.int .i64 c.2.hgt) ∧ W'.cell? ⟨b2, o2 + 3, none⟩ = some (.int .i64 c.2.bck) ∧ W'.cell? ⟨b2, o2 + 4, none⟩ = some (.bool c.2.rnd) ∧ W'.cell? ⟨b2, o2 + 5, none⟩ = some (.int .i64 c.2.plc) ∧ W'.cell? ⟨b2, o2 + 6, none⟩ = some (.int .i64 c.2.mnr) ∧ W'.cell? ⟨b2, o2 + 7, none⟩ = some (.bool c.2.vcd)) ((refine HK.out _ ?_; (repeat (first | (with_reducible exact Below.refl _ _) | exact HE.out.2 | (refine Below.drewB ?_) | (refine Below.allocB ?_ hbx _))); done))
            ((refine step_append_rd _ (by rfl) _ _ 182 (by rfl) w2.heap.size 185 i0 (.agg #[.int .i32 0, .bool false, .int .i64 0, .int .i64 0, .bool false, .int .i64 0, .int .i64 0, .bool false]) 8 64 Try.underlying182 HI.out.1 HI.out.2.1 HI.out.2.2.1 HI.out.2.2.2 rfl (by omega) u3 out.length (rws out) (by rfl) (by exact HX.out.drew.own.alloc _) _ _ _ 1 1 _ (by rfl) (by exact rd_new _ _ _ _ rfl) (by simp [Value.oneCell']) (by unfold maxLen; omega) (by omega) (by simp; omega) ?_; intro v4 w4 _ hown hgrow _; have HE := Lib.hid (And.intro (HX.out.drew.app _ c hown hgrow) (show Below w2.heap.size wx _ from HX.out.bel _ hgrow)); clear hown hgrow))
          all_goals
            clear d0 d1 d2 d3 d4 d5 d6 d7
            go_wp2
            go_roundw
            case rel =>
              refine ⟨(v :: vs), cs, out ++ [c], Lib.hid ⟨(HE.out.1).next2 HA'.out, ?_, ?_, ?_, ?_⟩⟩
              · have hm := H.out.2.1
                simp only [List.length_cons] at hm ⊢
                rw [show (vs.length + 1) + (cs.length + 1) = ((vs.length + 1) + cs.length) + 1 by omega, mergeR, if_neg hlt] at hm
                rw [← hm, List.append_assoc]
                rfl
              · simp only [List.length_append, List.length_cons, List.length_nil] at hlen ⊢; omega
              · rfl
              · rfl
            case measure => simp [slen]
end Go.Proofs.Ytogofchpocoebaa
