/- phone.Distance. -/
import Derived.Test.YtogofchpocoebaaQ11
namespace Go.Proofs.Ytogofchpocoebaa
open Go.RowKit Go.Maps

set_option maxHeartbeats 1000000 in
theorem newRest_long (A B : Option Addr) (la ca lb cb : Nat) (w : World) (h : 128 < la ∨ 128 < lb) :
    Calls Try.prog 129 #[.slice A la ca, .slice B lb cb] w fun e w' => e = .returned (.tuple #[.pointer none, .int .i64 3]) ∧ Below w.heap.size w w' := by
  by_cases h1 : 128 < la
  · have d1 : decide ((128 : Int) < (la : Int)) = true := by simp; omega
    clear h
    go_enter Try.func129, Try.ntmps129
    go_wp2
    go_ret2
    exact ⟨rfl, Below.refl _ _⟩
  · have d1 : decide ((128 : Int) < (la : Int)) = false := by simp; omega
    have d2 : decide ((128 : Int) < (lb : Int)) = true := by simp; omega
    clear h
    go_enter Try.func129, Try.ntmps129
    go_wp2
    go_ret2
    exact ⟨rfl, Below.refl _ _⟩

/-- Distance's errno and value -/
def dsE (a b : List Ph) : Int := if 128 < a.length ∨ 128 < b.length then 3 else if a.all isF && b.all isF then 0 else 2
def dsV (a b : List Ph) : Int := if dsE a b = 0 then costF a b else 0

set_option maxHeartbeats 1000000 in
theorem distance_any (A B : Option Addr) (la ca lb cb L1 L2 : Nat) (a b : List Ph) (w : World) (ra : Rd w L1 w.heap.size 3 A la (phs a)) (rb : Rd w L2 w.heap.size 3 B lb (phs b)) (fa : ∀ p ∈ a, fitP p) (fb : ∀ p ∈ b, fitP p) :
    Calls Try.prog 61 #[.slice A la ca, .slice B lb cb] w fun e w' => e = .returned (.tuple #[.int .i64 (dsV a b), .int .i64 (dsE a b)]) ∧ Below w.heap.size w w' := by
  have ea := ra.len_ph
  have eb := rb.len_ph
  by_cases hl : 128 < la ∨ 128 < lb
  · have he : dsE a b = 3 := by unfold dsE; rw [if_pos (by omega)]
    have hv : dsV a b = 0 := by unfold dsV; rw [he]; rfl
    rw [he, hv]
    clear ra rb fa fb he hv
    go_enter Try.func61, Try.ntmps61
    go_wp2_with fail
    refine (newRest_long A B la ca lb cb _ hl).mono ?_
    rintro e w1 ⟨rfl, hb⟩
    have H := Lib.hid hb
    clear hb
    go_wp2
    go_ret2
    exact ⟨rfl, H.out⟩
  · have hla : la ≤ 128 := by omega
    have hlb : lb ≤ 128 := by omega
    have hE : ∀ x, (a.all isF && b.all isF) = x → dsE a b = if x then 0 else 2 := fun x hx => by unfold dsE; rw [if_neg (by omega), hx]
    have HE := Lib.hid hE
    have H := Lib.hid (And.intro (And.intro ra rb) (And.intro fa fb))
    clear ra rb fa fb hl hE ea eb
    go_enter Try.func61, Try.ntmps61
    go_wp2_with fail
    refine (newRest_ok A B la ca lb cb L1 L2 a b _ H.out.1.1 H.out.1.2 H.out.2.1 H.out.2.2 hla hlb).mono ?_
    rintro e w1 h
    rcases h with ⟨hn, rfl, hb⟩ | ⟨hy, tb, xb, g, cells, rfl, hs, hc⟩
    · have hx : (a.all isF && b.all isF) = false := by
        cases h1 : a.all isF <;> cases h2 : b.all isF <;> simp_all
      have he := HE.out _ hx
      have hv : dsV a b = 0 := by unfold dsV; rw [he]; rfl
      have HV := Lib.hid (And.intro (And.intro he hv) hb)
      clear hn hb hx he hv
      go_wp2
      go_ret2
      exact ⟨by rw [HV.out.1.1, HV.out.1.2]; rfl, HV.out.2⟩
    · have hx : (a.all isF && b.all isF) = true := by rw [hy.1, hy.2]; rfl
      have he := HE.out _ hx
      have hv : dsV a b = costF a b := by unfold dsV; rw [he]; rfl
      have h0 := hc 0 0 (by omega) (by omega)
      have hcs : cs a b 0 0 = costF a b := rfl
      rw [hcs] at h0
      have HV := Lib.hid (And.intro (And.intro he hv) (And.intro hs h0))
      clear hy hx he hv hs hc h0 hcs
      go_wp2_with fail
      refine (at_at tb xb g A B la ca lb cb cells 0 0 0 0 rfl rfl _ HV.out.2.1.re hla hlb (by omega) (by omega)).mono ?_
      rintro e w2 ⟨he, hb⟩
      have h00 := HV.out.2.2
      rw [show 0 * (lb + 1) + 0 = 0 by simp] at he h00
      subst he
      have c0 : w2.cell? ⟨g, 0, none⟩ = some (.int .i64 (costF a b)) := ((HV.out.2.1.on hb).re.bg.cell 0).trans h00
      clear h00
      have H2 := Lib.hid (HV.out.2.1.on hb).below
      clear hb
      go_wp2
      go_ret2
      exact ⟨by rw [HV.out.1.1, HV.out.1.2]; rfl, H2.out⟩

/-- phone.Lone, phone.Apart: value and errno -/
def loneE (p : Ph) : Int := if isF p then 0 else 2
def loneV (p : Ph) : Int := if isF p then loneF p else 0
def apE (p q : Ph) : Int := if isF p && isF q then 0 else 2
def apV (p q : Ph) : Int := if isF p && isF q then apartF p q else 0

set_option maxHeartbeats 1000000 in
theorem Lone_any (p : Ph) (w : World) (hf : fit32 p.1) :
    Calls Try.prog 42 #[.agg #[.int .i32 p.1, .bool p.2.1, .int .i32 p.2.2]] w fun e w' => e = .returned (.tuple #[.int .i64 (loneV p), .int .i64 (loneE p)]) ∧ Below w.heap.size w w' := by
  have HF := Lib.hid hf
  clear hf
  go_enter Try.func42, Try.ntmps42
  go_upto_region 1 with (fail)
  refine wp_abs (fun wx => Below w.heap.size w wx ∧ Blk wx w.heap.size 43 #[.int .i32 p.1, .bool p.2.1, .int .i32 p.2.2]) ⟨(Below.refl _ _).alloc (Nat.le_refl _) _, Blk.new _ _ _⟩ ?_
  generalize hpb : w.heap.size = pb
  rintro wx ⟨hb, hx⟩
  rw [← hpb] at hb
  have HX := Lib.hid (And.intro hb hx)
  clear hb hx hpb
  go_wp2_with fail
  refine (table_any _).mono ?_
  rintro e w1 ⟨tb, rfl, hlo, ht, hb⟩
  have H1 := Lib.hid (And.intro ht (And.intro (HX.out.1.trans (hb.mono HX.out.1.size)) (HX.out.2.below hb HX.out.2.lt)))
  clear ht hb hlo HX
  have c0 : w1.cell? ⟨pb, 0, none⟩ = some (.int .i32 p.1) := H1.out.2.2.cell 0
  have c1 : w1.cell? ⟨pb, 1, none⟩ = some (.bool p.2.1) := H1.out.2.2.cell 1
  have c2 : w1.cell? ⟨pb, 2, none⟩ = some (.int .i32 p.2.2) := H1.out.2.2.cell 2
  go_wp2_with fail
  refine (is_any tb p _ H1.out.1 HF.out).mono ?_
  rintro e w2 ⟨rfl, hb⟩
  have H2 := Lib.hid (And.intro (H1.out.1.on hb) (And.intro (H1.out.2.1.trans (hb.mono H1.out.2.1.size)) (H1.out.2.2.below hb H1.out.2.2.lt)))
  clear hb H1 c0 c1 c2
  cases hF : isF p with
  | false =>
    have HG := Lib.hid (show loneV p = 0 ∧ loneE p = 2 by unfold loneV loneE; rw [hF]; exact ⟨rfl, rfl⟩)
    clear hF
    go_wp2
    go_ret2
    exact ⟨by rw [HG.out.1, HG.out.2]; rfl, H2.out.2.1⟩
  | true =>
    have HG := Lib.hid (show loneV p = loneF p ∧ loneE p = 0 by unfold loneV loneE; rw [hF]; exact ⟨rfl, rfl⟩)
    clear hF
    have d0 : w2.cell? ⟨pb, 0, none⟩ = some (.int .i32 p.1) := H2.out.2.2.cell 0
    have d1 : w2.cell? ⟨pb, 1, none⟩ = some (.bool p.2.1) := H2.out.2.2.cell 1
    have d2 : w2.cell? ⟨pb, 2, none⟩ = some (.int .i32 p.2.2) := H2.out.2.2.cell 2
    go_wp2_with fail
    refine (lone_any tb p _ H2.out.1 HF.out).mono ?_
    rintro e w3 ⟨rfl, hb⟩
    have H3 := Lib.hid (H2.out.2.1.trans (hb.mono H2.out.2.1.size))
    clear hb
    go_wp2
    go_ret2
    exact ⟨by rw [HG.out.1, HG.out.2]; rfl, H3.out⟩

set_option maxHeartbeats 1000000 in
theorem Apart_any (p q : Ph) (w : World) (hp : fit32 p.1) (hq : fit32 q.1) :
    Calls Try.prog 41 #[.agg #[.int .i32 p.1, .bool p.2.1, .int .i32 p.2.2], .agg #[.int .i32 q.1, .bool q.2.1, .int .i32 q.2.2]] w fun e w' => e = .returned (.tuple #[.int .i64 (apV p q), .int .i64 (apE p q)]) ∧ Below w.heap.size w w' := by
  have HF := Lib.hid (And.intro hp hq)
  clear hp hq
  go_enter Try.func41, Try.ntmps41
  go_upto_region 1 with (fail)
  refine wp_abs (fun wx => Below w.heap.size w wx ∧ Blk wx w.heap.size 43 #[.int .i32 p.1, .bool p.2.1, .int .i32 p.2.2] ∧ Blk wx (w.heap.size + 1) 43 #[.int .i32 q.1, .bool q.2.1, .int .i32 q.2.2]) ⟨((Below.refl _ _).alloc (Nat.le_refl _) _).alloc (by simp) _, (Blk.new _ _ _).alloc _, blk_new_eq (by simp)⟩ ?_
  generalize hpb : w.heap.size = pb
  generalize hqb : pb + 1 = qb
  rintro wx ⟨hb, hx⟩
  rw [← hpb] at hb
  have HX := Lib.hid (And.intro hb hx)
  clear hb hx hpb hqb
  go_wp2_with fail
  refine (table_any _).mono ?_
  rintro e w1 ⟨tb, rfl, hlo, ht, hb⟩
  have H1 := Lib.hid (And.intro ht (And.intro (HX.out.1.trans (hb.mono HX.out.1.size)) (And.intro (HX.out.2.1.below hb HX.out.2.1.lt) (HX.out.2.2.below hb HX.out.2.2.lt))))
  clear ht hb hlo HX
  have c0 : w1.cell? ⟨pb, 0, none⟩ = some (.int .i32 p.1) := H1.out.2.2.1.cell 0
  have c1 : w1.cell? ⟨pb, 1, none⟩ = some (.bool p.2.1) := H1.out.2.2.1.cell 1
  have c2 : w1.cell? ⟨pb, 2, none⟩ = some (.int .i32 p.2.2) := H1.out.2.2.1.cell 2
  go_wp2_with fail
  refine (is_any tb p _ H1.out.1 HF.out.1).mono ?_
  rintro e w2 ⟨rfl, hb⟩
  have H2 := Lib.hid (And.intro (H1.out.1.on hb) (And.intro (H1.out.2.1.trans (hb.mono H1.out.2.1.size)) (And.intro (H1.out.2.2.1.below hb H1.out.2.2.1.lt) (H1.out.2.2.2.below hb H1.out.2.2.2.lt))))
  clear hb H1 c0 c1 c2
  cases hF : isF p with
  | false =>
    have HG := Lib.hid (show apV p q = 0 ∧ apE p q = 2 by unfold apV apE; rw [hF]; exact ⟨rfl, rfl⟩)
    clear hF
    go_wp2
    go_ret2
    exact ⟨by rw [HG.out.1, HG.out.2]; rfl, H2.out.2.1⟩
  | true =>
    have HFP := Lib.hid hF
    clear hF
    have d0 : w2.cell? ⟨qb, 0, none⟩ = some (.int .i32 q.1) := H2.out.2.2.2.cell 0
    have d1 : w2.cell? ⟨qb, 1, none⟩ = some (.bool q.2.1) := H2.out.2.2.2.cell 1
    have d2 : w2.cell? ⟨qb, 2, none⟩ = some (.int .i32 q.2.2) := H2.out.2.2.2.cell 2
    go_wp2_with fail
    refine (is_any tb q _ H2.out.1 HF.out.2).mono ?_
    rintro e w3 ⟨rfl, hb⟩
    have H3 := Lib.hid (And.intro (H2.out.1.on hb) (And.intro (H2.out.2.1.trans (hb.mono H2.out.2.1.size)) (And.intro (H2.out.2.2.1.below hb H2.out.2.2.1.lt) (H2.out.2.2.2.below hb H2.out.2.2.2.lt))))
    clear hb H2 d0 d1 d2
    cases hG : isF q with
    | false =>
      have HG := Lib.hid (show apV p q = 0 ∧ apE p q = 2 by unfold apV apE; rw [HFP.out, hG]; exact ⟨rfl, rfl⟩)
      clear hG
      go_wp2
      go_ret2
      exact ⟨by rw [HG.out.1, HG.out.2]; rfl, H3.out.2.1⟩
    | true =>
      have HG := Lib.hid (show apV p q = apartF p q ∧ apE p q = 0 by unfold apV apE; rw [HFP.out, hG]; exact ⟨rfl, rfl⟩)
      clear hG
      have c0 : w3.cell? ⟨pb, 0, none⟩ = some (.int .i32 p.1) := H3.out.2.2.1.cell 0
      have c1 : w3.cell? ⟨pb, 1, none⟩ = some (.bool p.2.1) := H3.out.2.2.1.cell 1
      have c2 : w3.cell? ⟨pb, 2, none⟩ = some (.int .i32 p.2.2) := H3.out.2.2.1.cell 2
      have d0 : w3.cell? ⟨qb, 0, none⟩ = some (.int .i32 q.1) := H3.out.2.2.2.cell 0
      have d1 : w3.cell? ⟨qb, 1, none⟩ = some (.bool q.2.1) := H3.out.2.2.2.cell 1
      have d2 : w3.cell? ⟨qb, 2, none⟩ = some (.int .i32 q.2.2) := H3.out.2.2.2.cell 2
      go_wp2_with fail
      refine (apart_any tb p q _ H3.out.1 HF.out.1 HF.out.2).mono ?_
      rintro e w4 ⟨rfl, hb⟩
      have H4 := Lib.hid (H3.out.2.1.trans (hb.mono H3.out.2.1.size))
      clear hb
      go_wp2
      go_ret2
      exact ⟨by rw [HG.out.1, HG.out.2]; rfl, H4.out⟩
end Go.Proofs.Ytogofchpocoebaa
