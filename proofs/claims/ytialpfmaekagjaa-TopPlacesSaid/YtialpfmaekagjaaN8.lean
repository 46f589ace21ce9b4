/- Map.last: the last place whose number is not above. -/
import Derived.Test.YtialpfmaekagjaaN7
namespace Go.Proofs.Ytialpfmaekagjaa
open Go.RowKit

/-- is the number of the place at i above n? -/
def numR (pl : List Pl) (num : Pl → Nat) (n i : Nat) : Bool := match pl[i]? with | some q => decide (n < num q) | none => true
theorem num_uniq (pl : List Pl) (num : Pl → Nat) (n K : Nat) (p : Pl) (hp : pl[K]? = some p) (hlo : ∀ i q, i ≤ K → pl[i]? = some q → num q ≤ n) (hhi : ∀ i q, K < i → pl[i]? = some q → n < num q) (k : Nat) (hk : k ≤ pl.length) (h1 : 0 < k → numR pl num n (k - 1) = false) (h2 : k < pl.length → numR pl num n k = true) : k = K + 1 := by
  have hK : K < pl.length := (List.getElem?_eq_some_iff.1 hp).1
  have low : ∀ i, i ≤ K → numR pl num n i = false := fun i hi => by
    have hg : pl[i]? = some (pl[i]'(by omega)) := List.getElem?_eq_getElem (by omega)
    unfold numR
    rw [hg]
    have := hlo i _ hi hg
    exact decide_eq_false (by omega)
  have high : ∀ i, K < i → numR pl num n i = true := fun i hi => by
    unfold numR
    cases hg : pl[i]? with
    | none => rfl
    | some q => exact decide_eq_true (hhi i q hi hg)
  rcases Nat.lt_trichotomy k (K + 1) with h | h | h
  · have a := low k (by omega)
    rw [h2 (by omega)] at a
    cases a
  · exact h
  · have a := high (k - 1) (by omega)
    rw [h1 (by omega)] at a
    cases a
theorem blk_at {w : World} {t : TypeId} {xs : Array Value} {g : Nat} (h : w.heap.size = g) : Blk (w.alloc (.cells xs t)) g t xs := by
  subst h
  exact Blk.new _ _ _

set_option maxHeartbeats 8000000 in
set_option maxRecDepth 100000 in
theorem last_any (f : Nat) (num : Pl → Nat) (w : World) (M : Nat) (s : ByteArray) (X Y : Option Addr) (C D : Nat) (pl : List Pl) (fl : List Ln) (h : MpSt w M s X C Y D pl fl) (hlen : pl.length ≤ 70000) (n K : Nat) (p : Pl) (hp : pl[K]? = some p) (hlo : ∀ i q, i ≤ K → pl[i]? = some q → num q ≤ n) (hhi : ∀ i q, K < i → pl[i]? = some q → n < num q)
    (hone : ∀ W q5 q3 q4, MpSt W M s X C Y D pl fl → W.cell? ⟨q5, 0, none⟩ = some (.func (.func f) #[] #[]) → W.cell? ⟨q3, 0, none⟩ = some (.pointer (some ⟨M, 0, none⟩)) → W.cell? ⟨q4, 0, none⟩ = some (.int .i64 n) → q4 < W.heap.size → ∀ (i : Nat) (hi : i < pl.length), Calls Try.prog 34 #[.int .i64 i, .pointer (some ⟨q5, 0, none⟩), .pointer (some ⟨q3, 0, none⟩), .pointer (some ⟨q4, 0, none⟩)] W fun e w' => e = .returned (.bool (decide (n < num pl[i]))) ∧ Below W.heap.size W w') :
    Calls Try.prog 22 #[.pointer (some ⟨M, 0, none⟩), .int .i64 n, .func (.func f) #[] #[]] w fun e w' => e = .returned (plV p) ∧ Below w.heap.size w w' := by
  have H := Lib.hid h
  have HU := Lib.hid (num_uniq pl num n K p hp hlo hhi)
  have HO := Lib.hid hone
  clear h hlo hhi hone
  go_enter Try.func22, Try.ntmps22
  go_upto_region 1 with (fail)
  obtain ⟨N1, hN1⟩ : ∃ N, w.heap.size + 1 = N := ⟨_, rfl⟩
  obtain ⟨N2, hN2⟩ : ∃ N, N1 + 1 = N := ⟨_, rfl⟩
  obtain ⟨N3, hN3⟩ : ∃ N, N2 + 1 = N := ⟨_, rfl⟩
  refine wp_abs (fun wx => MpSt wx M s X C Y D pl fl ∧ wx.cell? ⟨w.heap.size, 0, none⟩ = some (.pointer (some ⟨M, 0, none⟩)) ∧ wx.cell? ⟨w.heap.size + 1, 0, none⟩ = some (.int .i64 n) ∧ wx.cell? ⟨w.heap.size + 1 + 1, 0, none⟩ = some (.func (.func f) #[] #[]) ∧ w.heap.size + 1 + 1 + 1 < wx.heap.size ∧
    Blk wx (w.heap.size + 1 + 1 + 1) 29 #[.int .i64 0, .int .i64 0, .int .i64 0, .int .i64 0, .int .i64 0] ∧ Below w.heap.size w wx) ⟨?_, by simp [go_sem], by simp [go_sem], by simp [go_sem], by simp, ?_, ?_⟩ ?_
  case refine_1 => exact H.out.on (((((Below.refl w.heap.size w).alloc (Nat.le_refl _) _).alloc (by simp <;> omega) _).alloc (by simp <;> omega) _).alloc (by simp <;> omega) _)
  case refine_2 => exact blk_at (by simp)
  case refine_3 => exact ((((Below.refl w.heap.size w).alloc (Nat.le_refl _) _).alloc (by simp <;> omega) _).alloc (by simp <;> omega) _).alloc (by simp <;> omega) _
  have HN := Lib.hid (show w.heap.size < N1 ∧ N1 < N2 ∧ N2 < N3 by omega)
  rintro w1 ⟨h1, c0, c1, c2, hsz, hr, hb⟩
  rw [hN1, hN2, hN3] at *
  have hK : K < pl.length := (List.getElem?_eq_some_iff.1 hp).1
  have hpK : pl[K] = p := (List.getElem?_eq_some_iff.1 hp).2
  obtain ⟨b, o, rfl, hlt, p0, p1, p2, p3, p4⟩ := h1.place hK
  rw [hpK] at p0 p1 p2 p3 p4
  have x1 : w1.cell? ⟨M, 1, none⟩ = some (.slice (some ⟨b, o, none⟩) pl.length C) := h1.blk.cell 1
  have HS := Lib.hid (And.intro h1 (And.intro (And.intro p0 (And.intro p1 (And.intro p2 (And.intro p3 p4)))) (And.intro hlt hr)))
  have HC := Lib.hid (And.intro c0 (And.intro c1 (And.intro c2 (And.intro hsz hb))))
  clear h1 hlt hr c1 c2 hb hp hpK hsz hN1 hN2 hN3 p0 p1 p2 p3 p4
  obtain ⟨len, hl⟩ : ∃ len, pl.length = len := ⟨_, rfl⟩
  have HL := Lib.hid hl
  rw [hl] at x1 hK hlen
  clear hl
  have hKi : (K : Int) < (len : Int) := by omega
  have hK0 : (0 : Int) ≤ (K : Int) := by omega
  go_region_law (first
    | (go_simp
       go_at_call 33
       refine (search_any len hlen (numR pl num n) _ _ _ _ ?_).mono ?_
       · intro i hi W hW
         have hi2 : i < pl.length := by rw [HL.out]; exact hi
         have hB : Below w1.heap.size w1 W := (bdrew (Below.refl _ w1)).trans hW
         have ho := Only.of_below hB (fun _ => False)
         have hn := And.intro HN.out HC.out.2.2.2.1
         refine (HO.out W N2 w.heap.size N1 (HS.out.1.on hB) ((ho.cell (by omega) id).trans HC.out.2.2.1) ((ho.cell (by omega) id).trans HC.out.1) ((ho.cell (by omega) id).trans HC.out.2.1) (by have := hB.size; omega) i hi2).mono ?_
         rintro e W' ⟨rfl, h⟩
         refine ⟨?_, h⟩
         unfold numR
         rw [List.getElem?_eq_getElem hi2]
       rintro e wt ⟨k, rfl, hkl, h1, h2, hb⟩
       have hk := HU.out k (by rw [HL.out]; exact hkl) h1 (by rw [HL.out]; exact h2)
       clear h1 h2 hkl
       have hB : Below w1.heap.size w1 wt := (bdrew (Below.refl _ w1)).trans hb
       have ho := Only.of_below hB (fun _ => False)
       have hsub : (k : Int) - 1 = (K : Int) := by omega
       have hwr : IntKind.i64.wrap (K : Int) = (K : Int) := IntWalk.i64_in _ (by omega)
       have x1t : wt.cell? ⟨M, 1, none⟩ = some (.slice (some ⟨b, o, none⟩) len C) := (ho.cell HS.out.1.blk.lt id).trans x1
       have hns := And.intro HN.out HC.out.2.2.2.1
       have c0t : wt.cell? ⟨w.heap.size, 0, none⟩ = some (.pointer (some ⟨M, 0, none⟩)) := (ho.cell (by omega) id).trans HC.out.1
       have p0 : wt.cell? ⟨b, o + K * 5, none⟩ = some (.int .i64 p.b) := (ho.cell HS.out.2.2.1 id).trans HS.out.2.1.1
       have p1 : wt.cell? ⟨b, o + K * 5 + 1, none⟩ = some (.int .i64 p.r) := (ho.cell HS.out.2.2.1 id).trans HS.out.2.1.2.1
       have p2 : wt.cell? ⟨b, o + K * 5 + 2, none⟩ = some (.int .i64 p.u) := (ho.cell HS.out.2.2.1 id).trans HS.out.2.1.2.2.1
       have p3 : wt.cell? ⟨b, o + K * 5 + 3, none⟩ = some (.int .i64 p.l) := (ho.cell HS.out.2.2.1 id).trans HS.out.2.1.2.2.2.1
       have p4 : wt.cell? ⟨b, o + K * 5 + 4, none⟩ = some (.int .i64 p.c) := (ho.cell HS.out.2.2.1 id).trans HS.out.2.1.2.2.2.2
       have hr := HS.out.2.2.2.below hB HS.out.2.2.2.lt
       have r0 : wt.cell? ⟨N3, 0, none⟩ = some _ := hr.cell 0
       have r1 : wt.cell? ⟨N3, 1, none⟩ = some _ := hr.cell 1
       have r2 : wt.cell? ⟨N3, 2, none⟩ = some _ := hr.cell 2
       have r3 : wt.cell? ⟨N3, 3, none⟩ = some _ := hr.cell 3
       have r4 : wt.cell? ⟨N3, 4, none⟩ = some _ := hr.cell 4
       have f0 : wt.frozen? ⟨N3, 0, none⟩ = false := hr.frozen 0
       have f1 : wt.frozen? ⟨N3, 1, none⟩ = false := hr.frozen 1
       have f2 : wt.frozen? ⟨N3, 2, none⟩ = false := hr.frozen 2
       have f3 : wt.frozen? ⟨N3, 3, none⟩ = false := hr.frozen 3
       have f4 : wt.frozen? ⟨N3, 4, none⟩ = false := hr.frozen 4
       have HR := Lib.hid (And.intro hr ((HC.out.2.2.2.2).trans (hB.mono HC.out.2.2.2.2.size)))
       clear ho hB hb hr hk x1 hns c0))
  all_goals
    clear HO HU HS x1t c0t p0 p1 p2 p3 p4 r0 r1 r2 r3 r4 f0 f1 f2 f3 f4
    refine exit_abs (fun wx => Blk wx N3 29 (plA p) ∧ Below w.heap.size w wx) ⟨put_blk HR.out.1 p, put_below HR.out.2 (by have := HN.out; omega) p⟩ ?_
    rintro w2 ⟨h2, hb2⟩
    have r0 : w2.cell? ⟨N3, 0, none⟩ = some (.int .i64 p.b) := h2.cell 0
    have r1 : w2.cell? ⟨N3, 1, none⟩ = some (.int .i64 p.r) := h2.cell 1
    have r2 : w2.cell? ⟨N3, 2, none⟩ = some (.int .i64 p.u) := h2.cell 2
    have r3 : w2.cell? ⟨N3, 3, none⟩ = some (.int .i64 p.l) := h2.cell 3
    have r4 : w2.cell? ⟨N3, 4, none⟩ = some (.int .i64 p.c) := h2.cell 4
    clear h2
    have HB := Lib.hid hb2
    clear hb2
    go_wp2
    refine bodyPost_ret (v := plV p) ?_ rfl ⟨rfl, HB.out⟩
    simp [results, Try.results22, go_sem, plV, r0, r1, r2, r3, r4]
theorem last_byte (w : World) (M : Nat) (s : ByteArray) (X Y : Option Addr) (C D : Nat) (pl : List Pl) (fl : List Ln) (h : MpSt w M s X C Y D pl fl) (hlen : pl.length ≤ 70000) (n K : Nat) (p : Pl) (hp : pl[K]? = some p) (hlo : ∀ i q, i ≤ K → pl[i]? = some q → q.b ≤ n) (hhi : ∀ i q, K < i → pl[i]? = some q → n < q.b) :
    Calls Try.prog 22 #[.pointer (some ⟨M, 0, none⟩), .int .i64 n, .func (.func 23) #[] #[]] w fun e w' => e = .returned (plV p) ∧ Below w.heap.size w w' :=
  last_any 23 (·.b) w M s X Y C D pl fl h hlen n K p hp hlo hhi (fun W q5 q3 q4 hW c5 c3 c4 hq i hi => last1_byte W M s X Y C D pl fl hW q5 q3 q4 n c5 c3 c4 hq i hi)
theorem last_unit (w : World) (M : Nat) (s : ByteArray) (X Y : Option Addr) (C D : Nat) (pl : List Pl) (fl : List Ln) (h : MpSt w M s X C Y D pl fl) (hlen : pl.length ≤ 70000) (n K : Nat) (p : Pl) (hp : pl[K]? = some p) (hlo : ∀ i q, i ≤ K → pl[i]? = some q → q.u ≤ n) (hhi : ∀ i q, K < i → pl[i]? = some q → n < q.u) :
    Calls Try.prog 22 #[.pointer (some ⟨M, 0, none⟩), .int .i64 n, .func (.func 32) #[] #[]] w fun e w' => e = .returned (plV p) ∧ Below w.heap.size w w' :=
  last_any 32 (·.u) w M s X Y C D pl fl h hlen n K p hp hlo hhi (fun W q5 q3 q4 hW c5 c3 c4 hq i hi => last1_unit W M s X Y C D pl fl hW q5 q3 q4 n c5 c3 c4 hq i hi)

end Go.Proofs.Ytialpfmaekagjaa
