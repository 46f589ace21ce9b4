/- place.New of a text that is too long; the small methods of a map. -/
import Derived.Test.YtialpfmaekagjaaN3
namespace Go.Proofs.Ytialpfmaekagjaa
open Go.RowKit

set_option maxRecDepth 100000 in
theorem new_long (s : ByteArray) (hs : 65536 < s.size) (w : World) : Calls Try.prog 5 #[.string s] w fun e w' => e = .returned (.tuple #[.pointer none, .int .i64 3]) ∧ w' = w := by
  have h1 : decide ((65536 : Int) < (s.size : Int)) = true := decide_eq_true (by omega)
  clear hs
  go_enter Try.func5, Try.ntmps5
  go_wp2
  refine wp_scope_labels (fun _ _ _ _ => False) ?first (fun _ _ _ _ h => h.elim)
  go_upto_if 12 with (fail)
  refine wp_cond_true rfl ?_
  clear h1
  go_wp2
  dsimp only [Exit.jumps]
  go_ret2
  exact ⟨rfl, rfl⟩
/-- a map's memory, opened -/
structure MpSt (w : World) (M : Nat) (s : ByteArray) (X : Option Addr) (C : Nat) (Y : Option Addr) (D : Nat) (pl : List Pl) (fl : List Ln) : Prop where
  blk : Blk w M 54 #[.string s, .slice X pl.length C, .slice Y fl.length D]
  rp : Rd w (M + 4) w.heap.size 5 X pl.length (plCs pl)
  rl : Rd w (M + 4) w.heap.size 4 Y fl.length (lnCs fl)
theorem MpSt.on {w w' : World} {M : Nat} {s : ByteArray} {X Y : Option Addr} {C D : Nat} {pl : List Pl} {fl : List Ln} (h : MpSt w M s X C Y D pl fl) (hb : Below w.heap.size w w') : MpSt w' M s X C Y D pl fl :=
  ⟨h.blk.below hb h.blk.lt, (h.rp.below hb (Nat.le_refl _)).more (Nat.le_refl _) hb.size, (h.rl.below hb (Nat.le_refl _)).more (Nat.le_refl _) hb.size⟩
theorem MpSt.only {w w' : World} {M : Nat} {s : ByteArray} {X Y : Option Addr} {C D : Nat} {pl : List Pl} {fl : List Ln} (h : MpSt w M s X C Y D pl fl) (ho : Only (fun _ => False) w w') : MpSt w' M s X C Y D pl fl :=
  h.on (ho.below (Nat.le_refl _) (fun _ _ => id))
/-- the cells of the place at k -/
theorem MpSt.place {w : World} {M : Nat} {s : ByteArray} {X Y : Option Addr} {C D : Nat} {pl : List Pl} {fl : List Ln} (h : MpSt w M s X C Y D pl fl) {k : Nat} (hk : k < pl.length) : ∃ b o, X = some ⟨b, o, none⟩ ∧ b < w.heap.size ∧
    w.cell? ⟨b, o + k * 5, none⟩ = some (.int .i64 pl[k].b) ∧ w.cell? ⟨b, o + k * 5 + 1, none⟩ = some (.int .i64 pl[k].r) ∧ w.cell? ⟨b, o + k * 5 + 2, none⟩ = some (.int .i64 pl[k].u) ∧ w.cell? ⟨b, o + k * 5 + 3, none⟩ = some (.int .i64 pl[k].l) ∧ w.cell? ⟨b, o + k * 5 + 4, none⟩ = some (.int .i64 pl[k].c) := by
  obtain ⟨b, o, hA, _, hb, hc⟩ := h.rp.2 (by omega)
  have hat : ∀ j, j < 5 → ∀ u, (plC pl[k])[j]? = some u → w.cell? ⟨b, o + k * 5 + j, none⟩ = some u := fun j hj u hu => by
    have h := hc (k * 5 + j) u (by rw [plCs_at pl k hk j hj]; exact hu)
    rw [← Nat.add_assoc] at h
    exact h
  exact ⟨b, o, hA, hb, hat 0 (by omega) _ rfl, hat 1 (by omega) _ rfl, hat 2 (by omega) _ rfl, hat 3 (by omega) _ rfl, hat 4 (by omega) _ rfl⟩
theorem MpSt.line {w : World} {M : Nat} {s : ByteArray} {X Y : Option Addr} {C D : Nat} {pl : List Pl} {fl : List Ln} (h : MpSt w M s X C Y D pl fl) {k : Nat} (hk : k < fl.length) : ∃ b o, Y = some ⟨b, o, none⟩ ∧ b < w.heap.size ∧
    w.cell? ⟨b, o + k * 4 + 3, none⟩ = some (.int .i64 fl[k].k) := by
  obtain ⟨b, o, hA, _, hb, hc⟩ := h.rl.2 (by omega)
  have hat : ∀ j, j < 4 → ∀ u, (lnC fl[k])[j]? = some u → w.cell? ⟨b, o + k * 4 + j, none⟩ = some u := fun j hj u hu => by
    have h := hc (k * 4 + j) u (by rw [lnCs_at fl k hk j hj]; exact hu)
    rw [← Nat.add_assoc] at h
    exact h
  exact ⟨b, o, hA, hb, hat 3 (by omega) _ rfl⟩
def plV (p : Pl) : Value := .agg #[.int .i64 p.b, .int .i64 p.r, .int .i64 p.u, .int .i64 p.l, .int .i64 p.c]

/-- a place laid into a block of its own -/
def putP (w : World) (g : Nat) (p : Pl) : World := ((((w.setCell ⟨g, 0, none⟩ (.int .i64 p.b)).setCell ⟨g, 1, none⟩ (.int .i64 p.r)).setCell ⟨g, 2, none⟩ (.int .i64 p.u)).setCell ⟨g, 3, none⟩ (.int .i64 p.l)).setCell ⟨g, 4, none⟩ (.int .i64 p.c)
def plA (p : Pl) : Array Value := #[.int .i64 p.b, .int .i64 p.r, .int .i64 p.u, .int .i64 p.l, .int .i64 p.c]
theorem put_blk {w : World} {g : Nat} {a0 a1 a2 a3 a4 : Value} (h : Blk w g 29 #[a0, a1, a2, a3, a4]) (p : Pl) : Blk (putP w g p) g 29 (plA p) := by
  have := ((((h.set_ 0 (.int .i64 p.b)).set_ 1 (.int .i64 p.r)).set_ 2 (.int .i64 p.u)).set_ 3 (.int .i64 p.l)).set_ 4 (.int .i64 p.c)
  simpa [putP, plA] using this
theorem put_below {B : Nat} {w w' : World} {g : Nat} (h : Below B w w') (hg : B ≤ g) (p : Pl) : Below B w (putP w' g p) := bset (bset (bset (bset (bset h hg _) hg _) hg _) hg _) hg _
theorem put_size (w : World) (g : Nat) (p : Pl) : (putP w g p).heap.size = w.heap.size := by simp [putP, World.setCell]
theorem text_any (w : World) (M : Nat) (s : ByteArray) (X Y : Option Addr) (C D : Nat) (pl : List Pl) (fl : List Ln) (h : MpSt w M s X C Y D pl fl) : Calls Try.prog 6 #[.pointer (some ⟨M, 0, none⟩)] w fun e w' => e = .returned (.string s) ∧ w' = w := by
  have x0 : w.cell? ⟨M, 0, none⟩ = some (.string s) := h.blk.cell 0
  clear h
  go_enter Try.func6, Try.ntmps6
  go_wp2
  go_ret
  exact ⟨rfl, rfl⟩
theorem lines_any (w : World) (M : Nat) (s : ByteArray) (X Y : Option Addr) (C D : Nat) (pl : List Pl) (fl : List Ln) (h : MpSt w M s X C Y D pl fl) : Calls Try.prog 13 #[.pointer (some ⟨M, 0, none⟩)] w fun e w' => e = .returned (.int .i64 fl.length) ∧ w' = w := by
  have x0 : w.cell? ⟨M, 2, none⟩ = some (.slice Y fl.length D) := h.blk.cell 2
  clear h
  go_enter Try.func13, Try.ntmps13
  go_wp2
  go_ret
  exact ⟨rfl, rfl⟩
theorem end_any (w : World) (M : Nat) (s : ByteArray) (X Y : Option Addr) (C D : Nat) (pl : List Pl) (fl : List Ln) (h : MpSt w M s X C Y D pl fl) (q : List Pl) (p : Pl) (hq : pl = q ++ [p]) (hl : q.length ≤ 65536) : Calls Try.prog 12 #[.pointer (some ⟨M, 0, none⟩)] w fun e w' => e = .returned (plV p) ∧ Below w.heap.size w w' := by
  have H := Lib.hid h
  clear h
  go_enter Try.func12, Try.ntmps12
  go_upto_region 3 with (fail)
  refine wp_abs (fun wx => MpSt wx M s X C Y D pl fl ∧ Blk wx w.heap.size 29 #[.int .i64 0, .int .i64 0, .int .i64 0, .int .i64 0, .int .i64 0] ∧ Below w.heap.size w wx) ⟨H.out.on ((Below.refl _ _).alloc (Nat.le_refl _) _), Blk.new _ _ _, (Below.refl _ _).alloc (Nat.le_refl _) _⟩ ?_
  rintro w1 ⟨h1, hr, hb⟩
  clear H
  obtain ⟨n, hn⟩ : ∃ n, q.length = n := ⟨_, rfl⟩
  have hln : pl.length = n + 1 := by rw [hq]; simp; omega
  obtain ⟨b, o, rfl, hlt, p0, p1, p2, p3, p4⟩ := h1.place (k := n) (by omega)
  have hpn : pl[n]'(by omega) = p := by subst hn; subst hq; simp
  rw [hpn] at p0 p1 p2 p3 p4
  rw [hn] at hl
  have x1 : w1.cell? ⟨M, 1, none⟩ = some (.slice (some ⟨b, o, none⟩) pl.length C) := h1.blk.cell 1
  rw [hln] at x1
  have r0 : w1.cell? ⟨w.heap.size, 0, none⟩ = some _ := hr.cell 0
  have r1 : w1.cell? ⟨w.heap.size, 1, none⟩ = some _ := hr.cell 1
  have r2 : w1.cell? ⟨w.heap.size, 2, none⟩ = some _ := hr.cell 2
  have r3 : w1.cell? ⟨w.heap.size, 3, none⟩ = some _ := hr.cell 3
  have r4 : w1.cell? ⟨w.heap.size, 4, none⟩ = some _ := hr.cell 4
  have f0 : w1.frozen? ⟨w.heap.size, 0, none⟩ = false := hr.frozen 0
  have f1 : w1.frozen? ⟨w.heap.size, 1, none⟩ = false := hr.frozen 1
  have f2 : w1.frozen? ⟨w.heap.size, 2, none⟩ = false := hr.frozen 2
  have f3 : w1.frozen? ⟨w.heap.size, 3, none⟩ = false := hr.frozen 3
  have f4 : w1.frozen? ⟨w.heap.size, 4, none⟩ = false := hr.frozen 4
  have HR := Lib.hid (And.intro hr hb)
  clear h1 hq hpn hn hlt hr hb hln
  go_region
  refine exit_abs (fun wx => Blk wx w.heap.size 29 (plA p) ∧ Below w.heap.size w wx) ⟨(put_blk HR.out.1 p).drew, bdrew (put_below HR.out.2 (Nat.le_refl _) p)⟩ ?_
  clear x1 p0 p1 p2 p3 p4 r0 r1 r2 r3 r4 f0 f1 f2 f3 f4 HR
  rintro w2 ⟨h2, hb2⟩
  have r0 : w2.cell? ⟨w.heap.size, 0, none⟩ = some (.int .i64 p.b) := h2.cell 0
  have r1 : w2.cell? ⟨w.heap.size, 1, none⟩ = some (.int .i64 p.r) := h2.cell 1
  have r2 : w2.cell? ⟨w.heap.size, 2, none⟩ = some (.int .i64 p.u) := h2.cell 2
  have r3 : w2.cell? ⟨w.heap.size, 3, none⟩ = some (.int .i64 p.l) := h2.cell 3
  have r4 : w2.cell? ⟨w.heap.size, 4, none⟩ = some (.int .i64 p.c) := h2.cell 4
  clear h2
  have HB := Lib.hid hb2
  clear hb2
  go_wp2
  refine bodyPost_ret (v := plV p) ?_ rfl ⟨rfl, HB.out⟩
  generalize w.heap.size = N at *
  simp [results, Try.results12, go_sem, plV, r0, r1, r2, r3, r4]
end Go.Proofs.Ytialpfmaekagjaa
