/- The reference's Costs: what the least alignments cost from each pair of places on.
   The reference's Distance and Align. -/
import Derived.Test.YtogofchpocoebaaS2
import Derived.Test.YtogofchpocoebaaQ11
namespace Go.Proofs.Ytogofchpocoebaa
open Go.RowKit Go.Maps

set_option maxHeartbeats 8000000 in
set_option maxRecDepth 100000 in
theorem refCosts_any (A B : Option Addr) (la ca lb cb L1 B1 L2 B2 : Nat) (a b : List Ph) (w : World) (ra : Rd w L1 B1 3 A la (phs a)) (rb : Rd w L2 B2 3 B lb (phs b)) (z1 : B1 ≤ w.heap.size) (z2 : B2 ≤ w.heap.size) (h1 : la ≤ 128) (h2 : lb ≤ 128) :
    Calls Try.prog 133 #[.slice A la ca, .slice B lb cb] w fun e w' => ∃ (ob oc : Nat) (G : List Nat) (C : Nat → Array Value), e = .returned (.slice (some ⟨ob, 0, none⟩) (la + 1) oc) ∧ G.length = la + 1 ∧ CoSt w (.slice (some ⟨ob, 0, none⟩) (la + 1) oc) (lb + 1) G C w' ∧ FiC a b la lb C 0 0 := by
  have ea := ra.len_ph
  have eb := rb.len_ph
  have HR := Lib.hid (And.intro ra rb)
  clear ra rb
  obtain ⟨j0, hj, jz0, jz1, jz2⟩ := info_parts info3
  obtain ⟨k0, hk0, kz0, kz1, kz2⟩ := info_parts info71
  have HK := Lib.hid (And.intro hk0 (And.intro kz0 (And.intro kz1 kz2)))
  obtain ⟨Z, hZ, hmk⟩ := made_full 71 3 j0 (.int .i64 0) 1 Try.underlying71 hj jz0 jz1 (lb + 1) (by rw [jz2]; omega) (by unfold maxLen; omega)
  have hmk' : ∀ w, (Instr.makeSlice 71 (.int .i64 ((lb : Int) + 1)) (.int .i64 ((lb : Int) + 1))).run Try.prog w = .ok (.slice (some ⟨w.heap.size, 0, none⟩) (lb + 1) (lb + 1)) (w.alloc (.cells Z 3)) := fun w => hmk w
  have HZ := Lib.hid (show Z.size = lb + 1 by rw [hZ, Nat.mul_one])
  clear hj jz0 jz1 jz2 hk0 kz0 kz1 kz2 hZ hmk
  go_enter Try.func133, Try.ntmps133
  go_wp2
  go_loopw [5, 6] (fun v5 v6 wr => ∃ (i : Nat) (G : List Nat), i ≤ la + 1 ∧ v6 = .int .i64 i ∧ G.length = i ∧ Hid (CoSt w v5 (lb + 1) G (fun _ => Z) wr)) (fun _ v6 _ => la + 1 - (intOf v6).toNat)
  case atStart => exact ⟨0, [], by omega, rfl, rfl, Lib.hid ⟨World.ownsRow_nil _ _ _ _, fun i g h => (by simp at h), fun i j g h => (by simp at h), Below.refl _ _⟩⟩
  case round =>
    obtain ⟨i, G, hi, rfl, hG, HC⟩ := hrel
    by_cases hlt : i ≤ la
    · have q1 : decide ((i : Int) ≤ (la : Int)) = true := by simp; omega
      obtain ⟨A5, c5, e5⟩ := own_slice HC.out.own
      subst e5
      have l0 := HC.out.below.size
      go_wp2_with (at_builtin; go_must (refine wpList_append_rd _ rfl _ _ 198 rfl w.heap.size 71 k0 (.slice none 0 0) 1 24 Try.underlying198 HK.out.1 HK.out.2.1 HK.out.2.2.1 HK.out.2.2.2 rfl (by decide) _ _ _ rfl ((HC.out.own.alloc _).alloc _) _ _ _ 1 1 _ rfl (rd_new_eq (by simp) rfl) (by simp [Value.oneCell']) (by unfold maxLen; omega) (by omega) (by simp; omega) ?_; intro v4 w4 _ hown hgrow _; have HE := Lib.hid (HC.out.push (((Below.refl _ _).alloc (Nat.le_refl _) _).alloc (by simp) _) ((Blk.new _ _ _).alloc _) hown hgrow); clear hown hgrow))
      go_roundw
      case rel =>
        refine ⟨i + 1, G ++ [wr.heap.size], by omega, by go_num, by rw [List.length_append, hG]; rfl, ?_⟩
        have h := HE.out
        have e : (fun i => if i = G.length then Z else (fun _ => Z) i) = (fun _ : Nat => Z) := by funext i; simp
        rw [e] at h
        exact Lib.hid h
      case measure => simp [intOf]; omega
    · obtain rfl : i = la + 1 := by omega
      have q1 : decide (((la + 1 : Nat) : Int) ≤ (la : Int)) = false := decide_eq_false (by omega)
      have q1' : decide ((la : Int) + 1 ≤ (la : Int)) = false := decide_eq_false (by omega)
      obtain ⟨A5, c5, e5⟩ := own_slice HC.out.own
      have hne : ∃ ob, A5 = some ⟨ob, 0, none⟩ := by
        have ho := HC.out.own
        rw [e5] at ho
        rcases ho.2 with ⟨_, e⟩ | ⟨g, cap, cur, e, _⟩
        · exfalso
          omega
        · injection e with e1 _ _
          exact ⟨g, e1⟩
      obtain ⟨ob, rfl⟩ := hne
      rw [hG] at e5
      subst e5
      go_wp2
      go_loopw [7, 8, 9] (fun v7 _ _ wy => ∃ (c : Nat) (x : Int) (C : Nat → Array Value), c ≤ la + 1 ∧ v7 = .int .i64 x ∧ x = (c : Int) - 1 ∧ Hid (CoSt w (.slice (some ⟨ob, 0, none⟩) (la + 1) c5) (lb + 1) G C wy ∧ FiC a b la lb C c 0)) (fun v7 _ _ _ => (intOf v7 + 1).toNat)
      case atStart => exact ⟨la + 1, la, fun _ => Z, Nat.le_refl _, rfl, by omega, Lib.hid ⟨HC.out, fun _ _ => HZ.out, fun i' k' h1 h2 h3 => absurd h3 (by omega)⟩⟩
      case round =>
        clear HC
        obtain ⟨c, x, C, hc, rfl, hx, HQ⟩ := hrel
        cases c with
        | zero =>
          have qn : decide ((0 : Int) ≤ x) = false := by simp; omega
          have qm : ¬ ((0 : Int) ≤ x) := by omega
          go_wp2
          go_ret
          first | exact ⟨ob, c5, G, C, rfl, hG, HQ.out.1, HQ.out.2⟩ | exact ⟨ob, c5, rfl, G, hG, C, HQ.out.1, HQ.out.2⟩
        | succ i =>
          obtain rfl : x = (i : Int) := by omega
          clear hx
          have q1 : decide ((0 : Int) ≤ (i : Int)) = true := by simp
          have wi : IntKind.i64.wrap ((i : Int) - 1) = (i : Int) - 1 := IntWalk.i64_in _ (by omega)
          go_wp2
          go_loopw [8, 9] (fun v8 _ wy => ∃ (d : Nat) (y : Int) (C : Nat → Array Value), d ≤ lb + 1 ∧ v8 = .int .i64 y ∧ y = (d : Int) - 1 ∧ Hid (CoSt w (.slice (some ⟨ob, 0, none⟩) (la + 1) c5) (lb + 1) G C wy ∧ FiC a b la lb C i d)) (fun v8 _ _ => (intOf v8 + 1).toNat)
          case atStart => exact ⟨lb + 1, lb, C, Nat.le_refl _, rfl, by omega, Lib.hid ⟨HQ.out.1, HQ.out.2.row⟩⟩
          case round =>
            clear HQ
            obtain ⟨d, y, C, hd, rfl, hy, HQ⟩ := hrel
            cases d with
            | zero =>
              have qn : decide ((0 : Int) ≤ y) = false := by simp; omega
              have qm : ¬ ((0 : Int) ≤ y) := by omega
              go_wp2
              go_roundw
              case rel => exact ⟨i, (i : Int) - 1, C, by omega, by go_num, by omega, Lib.hid HQ.out⟩
              case measure => simp [intOf]
            | succ k =>
              obtain rfl : y = (k : Int) := by omega
              clear hy
              have q2 : decide ((0 : Int) ≤ (k : Int)) = true := by simp
              have wk : IntKind.i64.wrap ((k : Int) - 1) = (k : Int) - 1 := IntWalk.i64_in _ (by omega)
              have b0 := cs_bound a b i k (by omega) (by omega)
              have b1 := cs_bound a b (i + 1) (k + 1) (by omega) (by omega)
              have b2 := cs_bound a b (i + 1) k (by omega) (by omega)
              have b3 := cs_bound a b i (k + 1) (by omega) (by omega)
              have i1 : (0 : Int) ≤ (i : Int) := by omega
              have i2 : (i : Int) < (la : Int) + 1 := by omega
              have i3 : (0 : Int) ≤ (k : Int) := by omega
              have i4 : (k : Int) < (lb : Int) + 1 := by omega
              have n1 : ((i : Int) + 1).toNat = i + 1 := by omega
              have n2 : ((k : Int) + 1).toNat = k + 1 := by omega
              have wf : ∀ k, Fence.wide.fn k := fun _ => trivial
              have wd : Fence.wide.depth = none := rfl
              have HFI := Lib.hid HQ.out.2
              have Twr := Lib.hid HQ.out.1
              by_cases hia : i < la
              · by_cases hkb : k < lb
                · skip
                  have hcs := cs_ab (a := a) (b := b) (i := i) (k := k) (by omega) (by omega)
                  have d1 : decide ((i : Int) < (la : Int)) = true := by simp; omega
                  have d2 : decide ((k : Int) < (lb : Int)) = true := by simp; omega
                  obtain ⟨ba, oa, hla, eA, _, _, x0, x1, x2⟩ := (HR.out.1.below HQ.out.1.below z1).ph (k := i) (by omega)
                  obtain rfl := eA
                  obtain ⟨bb, o2, hlb, eB, _, _, y0, y1, y2⟩ := (HR.out.2.below HQ.out.1.below z2).ph (k := k) (by omega)
                  obtain rfl := eB
                  obtain ⟨gi, hgi, o0, g0⟩ := HQ.out.1.row (show i < G.length by omega)
                  have o0' : wr.cell? ⟨ob, 0 + i, none⟩ = some (.slice (some ⟨gi, 0, none⟩) (lb + 1) (lb + 1)) := by rw [Nat.zero_add]; exact o0
                  obtain ⟨gj, hgj, p0, g1⟩ := HQ.out.1.row (show i + 1 < G.length by omega)
                  have p0' : wr.cell? ⟨ob, 0 + (i + 1), none⟩ = some (.slice (some ⟨gj, 0, none⟩) (lb + 1) (lb + 1)) := by rw [Nat.zero_add]; exact p0
                  have t1 : wr.cell? ⟨gj, k + 1, none⟩ = some (.int .i64 (cs a b (i + 1) (k + 1))) := (g1.cell _).trans (HQ.out.2.2 _ _ (by omega) (by omega) (.inl (by omega)))
                  have t1' : wr.cell? ⟨gj, 0 + (k + 1), none⟩ = some (.int .i64 (cs a b (i + 1) (k + 1))) := by rw [Nat.zero_add]; exact t1
                  have t2 : wr.cell? ⟨gj, k, none⟩ = some (.int .i64 (cs a b (i + 1) (k))) := (g1.cell _).trans (HQ.out.2.2 _ _ (by omega) (by omega) (.inl (by omega)))
                  have t2' : wr.cell? ⟨gj, 0 + (k), none⟩ = some (.int .i64 (cs a b (i + 1) (k))) := by rw [Nat.zero_add]; exact t2
                  have t3 : wr.cell? ⟨gi, k + 1, none⟩ = some (.int .i64 (cs a b (i) (k + 1))) := (g0.cell _).trans (HQ.out.2.2 _ _ (by omega) (by omega) (.inr ⟨rfl, by omega⟩))
                  have t3' : wr.cell? ⟨gi, 0 + (k + 1), none⟩ = some (.int .i64 (cs a b (i) (k + 1))) := by rw [Nat.zero_add]; exact t3
                  have lp := lone_hi a[i]
                  have lp0 := lone_pos a[i]
                  have lq := lone_hi b[k]
                  have lq0 := lone_pos b[k]
                  have lpq := apart_hi a[i] b[k]
                  have lpq0 := apart_nn a[i] b[k]
                  generalize a[i] = p at *
                  generalize b[k] = q at *
                  have HCS := Lib.hid (show cs a b i k = min 1099511627776 (min (apartF p q + cs a b (i + 1) (k + 1)) (min (loneF p + cs a b (i + 1) k) (loneF q + cs a b i (k + 1)))) by omega)
                  generalize hcab : cs a b (i + 1) (k + 1) = cab at *
                  generalize hca : cs a b (i + 1) k = ca_ at *
                  generalize hcb : cs a b i (k + 1) = cb_ at *
                  clear hcab hca hcb b0 HQ g0 g1 hcs
                  go_wp2
                  have Xx0 := Bel.cell x0
                  have Xx1 := Bel.cell x1
                  have Xx2 := Bel.cell x2
                  have Xy0 := Bel.cell y0
                  have Xy1 := Bel.cell y1
                  have Xy2 := Bel.cell y2
                  have Xo0 := Bel.cell o0
                  have Xo0' := Bel.cell o0'
                  have Xp0 := Bel.cell p0
                  have Xp0' := Bel.cell p0'
                  have Xt1 := Bel.cell t1
                  have Xt1' := Bel.cell t1'
                  have Xt2 := Bel.cell t2
                  have Xt2' := Bel.cell t2'
                  have Xt3 := Bel.cell t3
                  have Xt3' := Bel.cell t3'
                  clear x0 x1 x2 y0 y1 y2 o0 o0' p0 p0' t1 t1' t2 t2' t3 t3'
                  refine wp_bel (by kernel_rfl) (by kernel_rfl) ?_
                  repeat (gi_big_quiet_step (fail))
                  gi_big_quiet_want
                  gi_big_quiet_op
                  refine ⟨.int .i64 (apartF p q), fun x => ?_, ?_⟩
                  · exact callsIn_wide.2 ((refApart_any p q x.1).mono (fun e w' h => ⟨h.1, x.next h.2⟩))
                  go_big_quiet_on
                  repeat (gi_big_quiet_step (fail))
                  refine wpQuietIn_nil ?_
                  intro _ hw'
                  obtain ⟨xW, hw''⟩ := hw'
                  subst hw''
                  have x0 := Xx0 xW
                  have x1 := Xx1 xW
                  have x2 := Xx2 xW
                  have y0 := Xy0 xW
                  have y1 := Xy1 xW
                  have y2 := Xy2 xW
                  have o0 := Xo0 xW
                  have o0' := Xo0' xW
                  have p0 := Xp0 xW
                  have p0' := Xp0' xW
                  have t1 := Xt1 xW
                  have t1' := Xt1' xW
                  have t2 := Xt2 xW
                  have t2' := Xt2' xW
                  have t3 := Xt3 xW
                  have t3' := Xt3' xW
                  clear Xx0 Xx1 Xx2 Xy0 Xy1 Xy2 Xo0 Xo0' Xp0 Xp0' Xt1 Xt1' Xt2 Xt2' Xt3 Xt3'
                  obtain ⟨W3, hbW3⟩ := xW
                  dsimp only at x0 x1 x2 y0 y1 y2 o0 o0' p0 p0' t1 t1' t2 t2' t3 t3' ⊢
                  have TW3 := Lib.hid (Twr.out.on hbW3)
                  clear hbW3 Twr
                  go_wp2
                  have Xx0 := Bel.cell x0
                  have Xx1 := Bel.cell x1
                  have Xx2 := Bel.cell x2
                  have Xy0 := Bel.cell y0
                  have Xy1 := Bel.cell y1
                  have Xy2 := Bel.cell y2
                  have Xo0 := Bel.cell o0
                  have Xo0' := Bel.cell o0'
                  have Xp0 := Bel.cell p0
                  have Xp0' := Bel.cell p0'
                  have Xt2 := Bel.cell t2
                  have Xt2' := Bel.cell t2'
                  have Xt3 := Bel.cell t3
                  have Xt3' := Bel.cell t3'
                  clear x0 x1 x2 y0 y1 y2 o0 o0' p0 p0' t2 t2' t3 t3'
                  refine wp_bel (by kernel_rfl) (by kernel_rfl) ?_
                  repeat (gi_big_quiet_step (fail))
                  gi_big_quiet_want
                  gi_big_quiet_op
                  refine ⟨.int .i64 (loneF p), fun x => ?_, ?_⟩
                  · exact callsIn_wide.2 ((refLone_any p x.1).mono (fun e w' h => ⟨h.1, x.next h.2⟩))
                  go_big_quiet_on
                  repeat (gi_big_quiet_step (fail))
                  refine wpQuietIn_nil ?_
                  intro _ hw'
                  obtain ⟨xW, hw''⟩ := hw'
                  subst hw''
                  have x0 := Xx0 xW
                  have x1 := Xx1 xW
                  have x2 := Xx2 xW
                  have y0 := Xy0 xW
                  have y1 := Xy1 xW
                  have y2 := Xy2 xW
                  have o0 := Xo0 xW
                  have o0' := Xo0' xW
                  have p0 := Xp0 xW
                  have p0' := Xp0' xW
                  have t2 := Xt2 xW
                  have t2' := Xt2' xW
                  have t3 := Xt3 xW
                  have t3' := Xt3' xW
                  clear Xx0 Xx1 Xx2 Xy0 Xy1 Xy2 Xo0 Xo0' Xp0 Xp0' Xt2 Xt2' Xt3 Xt3'
                  obtain ⟨W4, hbW4⟩ := xW
                  dsimp only at x0 x1 x2 y0 y1 y2 o0 o0' p0 p0' t2 t2' t3 t3' ⊢
                  have TW4 := Lib.hid (TW3.out.on hbW4)
                  clear hbW4 TW3
                  go_wp2
                  have Xy0 := Bel.cell y0
                  have Xy1 := Bel.cell y1
                  have Xy2 := Bel.cell y2
                  have Xo0 := Bel.cell o0
                  have Xo0' := Bel.cell o0'
                  have Xt3 := Bel.cell t3
                  have Xt3' := Bel.cell t3'
                  clear y0 y1 y2 o0 o0' t3 t3'
                  refine wp_bel (by kernel_rfl) (by kernel_rfl) ?_
                  repeat (gi_big_quiet_step (fail))
                  gi_big_quiet_want
                  gi_big_quiet_op
                  refine ⟨.int .i64 (loneF q), fun x => ?_, ?_⟩
                  · exact callsIn_wide.2 ((refLone_any q x.1).mono (fun e w' h => ⟨h.1, x.next h.2⟩))
                  go_big_quiet_on
                  repeat (gi_big_quiet_step (fail))
                  refine wpQuietIn_nil ?_
                  intro _ hw'
                  obtain ⟨xW, hw''⟩ := hw'
                  subst hw''
                  have y0 := Xy0 xW
                  have y1 := Xy1 xW
                  have y2 := Xy2 xW
                  have o0 := Xo0 xW
                  have o0' := Xo0' xW
                  have t3 := Xt3 xW
                  have t3' := Xt3' xW
                  clear Xy0 Xy1 Xy2 Xo0 Xo0' Xt3 Xt3'
                  obtain ⟨W5, hbW5⟩ := xW
                  dsimp only at y0 y1 y2 o0 o0' t3 t3' ⊢
                  have TW5 := Lib.hid (TW4.out.on hbW5)
                  clear hbW5 TW4
                  have old : ∃ u, W5.cell? ⟨gi, k, none⟩ = some u := by
                    have h := (TW5.out.rows i gi hgi).1.cell k
                    have hs : k < (C i).size := by rw [HFI.out.1 i (by omega)]; omega
                    exact ⟨_, h.trans (Array.getElem?_eq_getElem hs)⟩
                  obtain ⟨u0, old⟩ := old
                  have old' : W5.cell? ⟨gi, 0 + k, none⟩ = some u0 := by rw [Nat.zero_add]; exact old
                  have fr : W5.frozen? ⟨gi, k, none⟩ = false := (TW5.out.rows i gi hgi).1.frozen k
                  have fr' : W5.frozen? ⟨gi, 0 + k, none⟩ = false := by rw [Nat.zero_add]; exact fr
                  have HS := Lib.hid (And.intro (TW5.out.put (k := k) hgi (.int .i64 (cs a b i k))) (HFI.out.step (by omega) (by omega)))
                  clear TW5

                  go_wp2
                  go_roundw
                  case rel => exact ⟨k, (k : Int) - 1, _, by omega, by go_num, by omega, Lib.hid (by first | exact HS.out | (have h := HS.out; rw [HCS.out] at h; exact h))⟩
                  case measure => simp [intOf]
                · skip
                  have hcs := cs_a (a := a) (b := b) (i := i) (k := k) (by omega) (by omega)
                  have d1 : decide ((i : Int) < (la : Int)) = true := by simp; omega
                  have d2 : decide ((k : Int) < (lb : Int)) = false := by simp; omega
                  obtain ⟨ba, oa, hla, eA, _, _, x0, x1, x2⟩ := (HR.out.1.below HQ.out.1.below z1).ph (k := i) (by omega)
                  obtain rfl := eA
                  obtain ⟨gi, hgi, o0, g0⟩ := HQ.out.1.row (show i < G.length by omega)
                  have o0' : wr.cell? ⟨ob, 0 + i, none⟩ = some (.slice (some ⟨gi, 0, none⟩) (lb + 1) (lb + 1)) := by rw [Nat.zero_add]; exact o0
                  obtain ⟨gj, hgj, p0, g1⟩ := HQ.out.1.row (show i + 1 < G.length by omega)
                  have p0' : wr.cell? ⟨ob, 0 + (i + 1), none⟩ = some (.slice (some ⟨gj, 0, none⟩) (lb + 1) (lb + 1)) := by rw [Nat.zero_add]; exact p0
                  have t2 : wr.cell? ⟨gj, k, none⟩ = some (.int .i64 (cs a b (i + 1) (k))) := (g1.cell _).trans (HQ.out.2.2 _ _ (by omega) (by omega) (.inl (by omega)))
                  have t2' : wr.cell? ⟨gj, 0 + (k), none⟩ = some (.int .i64 (cs a b (i + 1) (k))) := by rw [Nat.zero_add]; exact t2
                  have lp := lone_hi a[i]
                  have lp0 := lone_pos a[i]
                  generalize a[i] = p at *
                  have HCS := Lib.hid (show cs a b i k = min 1099511627776 (loneF p + cs a b (i + 1) k) by omega)
                  generalize hca : cs a b (i + 1) k = ca_ at *
                  clear hca b0 b1 b3 HQ g0 g1
                  go_wp2
                  have Xx0 := Bel.cell x0
                  have Xx1 := Bel.cell x1
                  have Xx2 := Bel.cell x2
                  have Xo0 := Bel.cell o0
                  have Xo0' := Bel.cell o0'
                  have Xp0 := Bel.cell p0
                  have Xp0' := Bel.cell p0'
                  have Xt2 := Bel.cell t2
                  have Xt2' := Bel.cell t2'
                  clear x0 x1 x2 o0 o0' p0 p0' t2 t2'
                  refine wp_bel (by kernel_rfl) (by kernel_rfl) ?_
                  repeat (gi_big_quiet_step (fail))
                  gi_big_quiet_want
                  gi_big_quiet_op
                  refine ⟨.int .i64 (loneF p), fun x => ?_, ?_⟩
                  · exact callsIn_wide.2 ((refLone_any p x.1).mono (fun e w' h => ⟨h.1, x.next h.2⟩))
                  go_big_quiet_on
                  repeat (gi_big_quiet_step (fail))
                  refine wpQuietIn_nil ?_
                  intro _ hw'
                  obtain ⟨xW, hw''⟩ := hw'
                  subst hw''
                  have x0 := Xx0 xW
                  have x1 := Xx1 xW
                  have x2 := Xx2 xW
                  have o0 := Xo0 xW
                  have o0' := Xo0' xW
                  have p0 := Xp0 xW
                  have p0' := Xp0' xW
                  have t2 := Xt2 xW
                  have t2' := Xt2' xW
                  clear Xx0 Xx1 Xx2 Xo0 Xo0' Xp0 Xp0' Xt2 Xt2'
                  obtain ⟨W3, hbW3⟩ := xW
                  dsimp only at x0 x1 x2 o0 o0' p0 p0' t2 t2' ⊢
                  have TW3 := Lib.hid (Twr.out.on hbW3)
                  clear hbW3 Twr
                  have old : ∃ u, W3.cell? ⟨gi, k, none⟩ = some u := by
                    have h := (TW3.out.rows i gi hgi).1.cell k
                    have hs : k < (C i).size := by rw [HFI.out.1 i (by omega)]; omega
                    exact ⟨_, h.trans (Array.getElem?_eq_getElem hs)⟩
                  obtain ⟨u0, old⟩ := old
                  have old' : W3.cell? ⟨gi, 0 + k, none⟩ = some u0 := by rw [Nat.zero_add]; exact old
                  have fr : W3.frozen? ⟨gi, k, none⟩ = false := (TW3.out.rows i gi hgi).1.frozen k
                  have fr' : W3.frozen? ⟨gi, 0 + k, none⟩ = false := by rw [Nat.zero_add]; exact fr
                  have HS := Lib.hid (And.intro (TW3.out.put (k := k) hgi (.int .i64 (cs a b i k))) (HFI.out.step (by omega) (by omega)))
                  clear TW3

                  go_wp2
                  go_roundw
                  case rel => exact ⟨k, (k : Int) - 1, _, by omega, by go_num, by omega, Lib.hid (by first | exact HS.out | (have h := HS.out; rw [HCS.out] at h; exact h))⟩
                  case measure => simp [intOf]
              · by_cases hkb : k < lb
                · skip
                  have hcs := cs_b (a := a) (b := b) (i := i) (k := k) (by omega) (by omega)
                  have d1 : decide ((i : Int) < (la : Int)) = false := by simp; omega
                  have d2 : decide ((k : Int) < (lb : Int)) = true := by simp; omega
                  obtain ⟨bb, o2, hlb, eB, _, _, y0, y1, y2⟩ := (HR.out.2.below HQ.out.1.below z2).ph (k := k) (by omega)
                  obtain rfl := eB
                  obtain ⟨gi, hgi, o0, g0⟩ := HQ.out.1.row (show i < G.length by omega)
                  have o0' : wr.cell? ⟨ob, 0 + i, none⟩ = some (.slice (some ⟨gi, 0, none⟩) (lb + 1) (lb + 1)) := by rw [Nat.zero_add]; exact o0
                  have t3 : wr.cell? ⟨gi, k + 1, none⟩ = some (.int .i64 (cs a b (i) (k + 1))) := (g0.cell _).trans (HQ.out.2.2 _ _ (by omega) (by omega) (.inr ⟨rfl, by omega⟩))
                  have t3' : wr.cell? ⟨gi, 0 + (k + 1), none⟩ = some (.int .i64 (cs a b (i) (k + 1))) := by rw [Nat.zero_add]; exact t3
                  have lq := lone_hi b[k]
                  have lq0 := lone_pos b[k]
                  generalize b[k] = q at *
                  have HCS := Lib.hid (show cs a b i k = min 1099511627776 (loneF q + cs a b i (k + 1)) by omega)
                  generalize hcb : cs a b i (k + 1) = cb_ at *
                  clear hcb b0 b1 b2 HQ g0
                  go_wp2
                  have Xy0 := Bel.cell y0
                  have Xy1 := Bel.cell y1
                  have Xy2 := Bel.cell y2
                  have Xo0 := Bel.cell o0
                  have Xo0' := Bel.cell o0'
                  have Xt3 := Bel.cell t3
                  have Xt3' := Bel.cell t3'
                  clear y0 y1 y2 o0 o0' t3 t3'
                  refine wp_bel (by kernel_rfl) (by kernel_rfl) ?_
                  repeat (gi_big_quiet_step (fail))
                  gi_big_quiet_want
                  gi_big_quiet_op
                  refine ⟨.int .i64 (loneF q), fun x => ?_, ?_⟩
                  · exact callsIn_wide.2 ((refLone_any q x.1).mono (fun e w' h => ⟨h.1, x.next h.2⟩))
                  go_big_quiet_on
                  repeat (gi_big_quiet_step (fail))
                  refine wpQuietIn_nil ?_
                  intro _ hw'
                  obtain ⟨xW, hw''⟩ := hw'
                  subst hw''
                  have y0 := Xy0 xW
                  have y1 := Xy1 xW
                  have y2 := Xy2 xW
                  have o0 := Xo0 xW
                  have o0' := Xo0' xW
                  have t3 := Xt3 xW
                  have t3' := Xt3' xW
                  clear Xy0 Xy1 Xy2 Xo0 Xo0' Xt3 Xt3'
                  obtain ⟨W3, hbW3⟩ := xW
                  dsimp only at y0 y1 y2 o0 o0' t3 t3' ⊢
                  have TW3 := Lib.hid (Twr.out.on hbW3)
                  clear hbW3 Twr
                  have old : ∃ u, W3.cell? ⟨gi, k, none⟩ = some u := by
                    have h := (TW3.out.rows i gi hgi).1.cell k
                    have hs : k < (C i).size := by rw [HFI.out.1 i (by omega)]; omega
                    exact ⟨_, h.trans (Array.getElem?_eq_getElem hs)⟩
                  obtain ⟨u0, old⟩ := old
                  have old' : W3.cell? ⟨gi, 0 + k, none⟩ = some u0 := by rw [Nat.zero_add]; exact old
                  have fr : W3.frozen? ⟨gi, k, none⟩ = false := (TW3.out.rows i gi hgi).1.frozen k
                  have fr' : W3.frozen? ⟨gi, 0 + k, none⟩ = false := by rw [Nat.zero_add]; exact fr
                  have HS := Lib.hid (And.intro (TW3.out.put (k := k) hgi (.int .i64 (cs a b i k))) (HFI.out.step (by omega) (by omega)))
                  clear TW3

                  go_wp2
                  go_roundw
                  case rel => exact ⟨k, (k : Int) - 1, _, by omega, by go_num, by omega, Lib.hid (by first | exact HS.out | (have h := HS.out; rw [HCS.out] at h; exact h))⟩
                  case measure => simp [intOf]
                · skip
                  have HCS := Lib.hid (show cs a b i k = 0 from cs_end (by omega) (by omega))
                  have d1 : decide ((i : Int) < (la : Int)) = false := by simp; omega
                  have d2 : decide ((k : Int) < (lb : Int)) = false := by simp; omega
                  obtain ⟨gi, hgi, o0, g0⟩ := HQ.out.1.row (show i < G.length by omega)
                  have o0' : wr.cell? ⟨ob, 0 + i, none⟩ = some (.slice (some ⟨gi, 0, none⟩) (lb + 1) (lb + 1)) := by rw [Nat.zero_add]; exact o0
                  clear b0 b1 b2 b3 HQ g0
                  have old : ∃ u, wr.cell? ⟨gi, k, none⟩ = some u := by
                    have h := (Twr.out.rows i gi hgi).1.cell k
                    have hs : k < (C i).size := by rw [HFI.out.1 i (by omega)]; omega
                    exact ⟨_, h.trans (Array.getElem?_eq_getElem hs)⟩
                  obtain ⟨u0, old⟩ := old
                  have old' : wr.cell? ⟨gi, 0 + k, none⟩ = some u0 := by rw [Nat.zero_add]; exact old
                  have fr : wr.frozen? ⟨gi, k, none⟩ = false := (Twr.out.rows i gi hgi).1.frozen k
                  have fr' : wr.frozen? ⟨gi, 0 + k, none⟩ = false := by rw [Nat.zero_add]; exact fr
                  have HS := Lib.hid (And.intro (Twr.out.put (k := k) hgi (.int .i64 (cs a b i k))) (HFI.out.step (by omega) (by omega)))
                  clear Twr

                  go_wp2
                  go_roundw
                  case rel => exact ⟨k, (k : Int) - 1, _, by omega, by go_num, by omega, Lib.hid (by first | exact HS.out | (have h := HS.out; rw [HCS.out] at h; exact h))⟩
                  case measure => simp [intOf]

end Go.Proofs.Ytogofchpocoebaa

namespace Go.Proofs.Ytogofchpocoebaa
open Go.RowKit Go.Maps

theorem info95 : (Try.prog.info? 95).map (fun i => (i.zero, i.size, i.bytes)) = some (some (.agg #[.int .i64 0, .int .i64 0]), 2, 16) := by kernel_rfl
theorem prs_one (l : List (Int × Int)) : ∀ u ∈ prs l, u.oneCell' = true := by
  intro u hu
  obtain ⟨p, _, hp⟩ := List.mem_flatMap.1 hu
  simp at hp
  rcases hp with rfl | rfl <;> rfl

set_option maxHeartbeats 2000000 in
set_option maxRecDepth 100000 in
theorem refDistance_any (A B : Option Addr) (la ca lb cb L1 B1 L2 B2 : Nat) (a b : List Ph) (w : World) (ra : Rd w L1 B1 3 A la (phs a)) (rb : Rd w L2 B2 3 B lb (phs b)) (z1 : B1 ≤ w.heap.size) (z2 : B2 ≤ w.heap.size) :
    Calls Try.prog 63 #[.slice A la ca, .slice B lb cb] w fun e w' => e = .returned (.tuple #[.int .i64 (dsV a b), .int .i64 (dsE a b)]) ∧ Below w.heap.size w w' := by
  have ea := ra.len_ph
  have eb := rb.len_ph
  have HV := Lib.hid (And.intro (show dsE a b = if 128 < a.length ∨ 128 < b.length then 3 else if a.all isF && b.all isF then 0 else 2 from rfl) (show dsV a b = if dsE a b = 0 then costF a b else 0 from rfl))
  have HR := Lib.hid (And.intro ra rb)
  clear ra rb
  by_cases he : dsE a b = 0
  · have hl : la ≤ 128 ∧ lb ≤ 128 := by
      have h := HV.out.1
      rw [he] at h
      split at h
      · cases h
      · omega
    have hv : dsV a b = costF a b := by rw [HV.out.2, if_pos he]
    have HW := Lib.hid (wrong_any A B la ca lb cb L1 B1 L2 B2 a b w HR.out.1 HR.out.2 z1 z2)
    rw [he] at HW
    rw [hv, he]
    clear hv he HV
    go_enter Try.func63, Try.ntmps63
    go_wp2_with fail
    refine HW.out.mono ?_
    rintro e w1 ⟨rfl, hb⟩
    have H1 := Lib.hid hb
    clear hb HW
    go_wp2_with fail
    refine (refCosts_any A B la ca lb cb L1 B1 L2 B2 a b _ (HR.out.1.below H1.out z1) (HR.out.2.below H1.out z2) (Nat.le_trans z1 H1.out.size) (Nat.le_trans z2 H1.out.size) hl.1 hl.2).mono ?_
    rintro e w2 ⟨ob, oc, G, C, rfl, hG, hC, hF⟩
    obtain ⟨g0, _, o0, bl⟩ := hC.row (show 0 < G.length by omega)
    have t0 : w2.cell? ⟨g0, 0, none⟩ = some (.int .i64 (costF a b)) := (bl.cell 0).trans (hF.2 0 0 (by omega) (by omega) (.inr ⟨rfl, Nat.le_refl _⟩))
    have H2 := Lib.hid (H1.out.trans (hC.below.mono H1.out.size))
    clear hC hF bl
    go_wp2
    go_ret2
    exact ⟨rfl, H2.out⟩
  · have hv : dsV a b = 0 := by rw [HV.out.2, if_neg he]
    have HW := Lib.hid (wrong_any A B la ca lb cb L1 B1 L2 B2 a b w HR.out.1 HR.out.2 z1 z2)
    rw [hv]
    have d1 : (dsE a b != 0) = true := by simpa using he
    generalize dsE a b = E at *
    clear he HV hv
    go_enter Try.func63, Try.ntmps63
    go_wp2_with fail
    refine HW.out.mono ?_
    rintro e w1 ⟨rfl, hb⟩
    have H1 := Lib.hid hb
    clear hb HW
    go_wp2
    go_ret2
    exact ⟨rfl, H1.out⟩

/-- memory while Align runs: the costs, the pairs so far -/
structure AsSt (w0 : World) (v : Value) (m : Nat) (G : List Nat) (C : Nat → Array Value) (v8 : Value) (out : List (Int × Int)) (W : World) : Prop where
  co : CoSt w0 v m G C W
  own : W.ownsRow w0.heap.size 95 2 v8 out.length (prs out)
theorem AsSt.on {w0 : World} {v : Value} {m : Nat} {G : List Nat} {C : Nat → Array Value} {v8 : Value} {out : List (Int × Int)} {W W' : World} (h : AsSt w0 v m G C v8 out W) (hb : Below W.heap.size W W') : AsSt w0 v m G C v8 out W' :=
  ⟨h.co.on hb, own_stay h.own (Only.of_below hb _)⟩
theorem own_blk {w : World} {base : Nat} {e : TypeId} {sz n : Nat} {v : Value} {xs : List Value} {k : Nat} (h : w.ownsRow base e sz v n xs) (hk : v.ownBlock = some k) : ∃ cs, Blk w k e cs := by
  rcases h.2 with ⟨rfl, _⟩ | ⟨g', cap, cur, rfl, _, hg, _⟩
  · cases hk
  · injection hk with hk
    subst hk
    exact ⟨cur, hg⟩
theorem blk_ty {w : World} {k : Nat} {t u : TypeId} {a b : Array Value} (h : Blk w k t a) (k2 : Blk w k u b) : t = u := by
  unfold Blk at h k2
  rw [h] at k2
  injection k2 with e
  injection e
theorem AsSt.app {w0 : World} {v : Value} {m : Nat} {G : List Nat} {C : Nat → Array Value} {v8 v8' : Value} {out : List (Int × Int)} {W W' : World} (h : AsSt w0 v m G C v8 out W) (x : Int × Int) (ho : W'.ownsRow w0.heap.size 95 2 v8' (out.length + 1) (prs out ++ [.int .i64 x.1, .int .i64 x.2])) (hg : W.grownBy W' v8.ownBlock) : AsSt w0 v m G C v8' (out ++ [x]) W' := by
  have hO : Only (fun k => v8.ownBlock = some k) W W' := (Only.refl _ _).grown hg (fun _ hg => .inl hg)
  refine ⟨h.co.only hO (fun k hk => (h.own.lt _ hk).1) (fun k hk hs => ?_) (fun g hgG hs => ?_), ?_⟩
  · obtain ⟨c1, h1⟩ := own_blk h.co.own hk
    obtain ⟨c2, h2⟩ := own_blk h.own hs
    have := blk_ty h1 h2
    cases this
  · obtain ⟨i, hi⟩ := List.getElem?_of_mem hgG
    obtain ⟨c2, h2⟩ := own_blk h.own hs
    have := blk_ty (h.co.rows i g hi).1 h2
    cases this
  · rw [prs_append, List.length_append]
    simpa [prs] using ho

set_option maxHeartbeats 8000000 in
set_option maxRecDepth 100000 in
theorem refAlign_any (A B : Option Addr) (la ca lb cb L1 B1 L2 B2 : Nat) (a b : List Ph) (w : World) (ra : Rd w L1 B1 3 A la (phs a)) (rb : Rd w L2 B2 3 B lb (phs b)) (z1 : B1 ≤ w.heap.size) (z2 : B2 ≤ w.heap.size) :
    Calls Try.prog 65 #[.slice A la ca, .slice B lb cb] w fun e w' => ∃ v, e = .returned (.tuple #[v, .int .i64 (dsE a b)]) ∧ w'.ownsRow w.heap.size 95 2 v (if dsE a b = 0 then alL a b else []).length (prs (if dsE a b = 0 then alL a b else [])) ∧ Below w.heap.size w w' := by
  have ea := ra.len_ph
  have eb := rb.len_ph
  have HV := Lib.hid (show dsE a b = if 128 < a.length ∨ 128 < b.length then 3 else if a.all isF && b.all isF then 0 else 2 from rfl)
  have HR := Lib.hid (And.intro ra rb)
  obtain ⟨k0, hk0, kz0, kz1, kz2⟩ := info_parts info95
  have HK := Lib.hid (And.intro hk0 (And.intro kz0 (And.intro kz1 kz2)))
  clear ra rb hk0 kz0 kz1 kz2
  by_cases he : dsE a b = 0
  · have hl : la ≤ 128 ∧ lb ≤ 128 := by
      have h := HV.out
      rw [he] at h
      split at h
      · cases h
      · omega
    have HW := Lib.hid (wrong_any A B la ca lb cb L1 B1 L2 B2 a b w HR.out.1 HR.out.2 z1 z2)
    rw [he] at HW
    rw [if_pos he, he]
    clear he HV
    go_enter Try.func65, Try.ntmps65
    go_wp2_with fail
    refine HW.out.mono ?_
    rintro e w1 ⟨rfl, hb⟩
    have H1 := Lib.hid hb
    clear hb HW
    go_wp2_with fail
    refine (refCosts_any A B la ca lb cb L1 B1 L2 B2 a b _ (HR.out.1.below H1.out z1) (HR.out.2.below H1.out z2) (Nat.le_trans z1 H1.out.size) (Nat.le_trans z2 H1.out.size) hl.1 hl.2).mono ?_
    rintro e w2 ⟨ob, oc, G, C, rfl, hG, hC, hF⟩
    have HFI := Lib.hid hF
    have HS := Lib.hid (show AsSt w1 (.slice (some ⟨ob, 0, none⟩) (la + 1) oc) (lb + 1) G C (.slice none 0 0) [] w2 from ⟨hC, World.ownsRow_nil _ _ _ _⟩)
    clear hC hF
    obtain ⟨h1, h2⟩ := hl
    have wf : ∀ k, Fence.wide.fn k := fun _ => trivial
    have wd : Fence.wide.depth = none := rfl
    have HAL := Lib.hid (show alL a b = alGo a b (a.length + b.length + 1) 0 0 from rfl)
    go_wp2
    go_loopw [8, 9, 10] (fun v8 v9 v10 wr => ∃ (i k f : Nat) (out : List (Int × Int)), i ≤ la ∧ k ≤ lb ∧ v9 = .int .i64 i ∧ v10 = .int .i64 k ∧ out.length ≤ i + k ∧ Hid (AsSt w1 (.slice (some ⟨ob, 0, none⟩) (la + 1) oc) (lb + 1) G C v8 out wr) ∧ Hid (alL a b = out ++ alGo a b f i k ∧ (la - i) + (lb - k) < f)) (fun _ v9 v10 _ => (la + lb) - ((intOf v9).toNat + (intOf v10).toNat))
    case atStart => exact ⟨0, 0, la + lb + 1, [], by omega, by omega, rfl, rfl, by simp, HS, Lib.hid ⟨by rw [HAL.out, ea, eb]; rfl, by omega⟩⟩
    case round =>
      clear HS
      obtain ⟨i, k, f, out, hi, hk, rfl, rfl, hol, HQ, HF⟩ := hrel
      have i1 : (0 : Int) ≤ (i : Int) := by omega
      have i2 : (i : Int) < (la : Int) + 1 := by omega
      have i3 : (0 : Int) ≤ (k : Int) := by omega
      have i4 : (k : Int) < (lb : Int) + 1 := by omega
      have n1 : ((i : Int) + 1).toNat = i + 1 := by omega
      have n2 : ((k : Int) + 1).toNat = k + 1 := by omega
      have b0 := cs_bound a b i k (by omega) (by omega)
      have b1 := cs_bound a b (i + 1) (k + 1) (by omega) (by omega)
      have b2 := cs_bound a b (i + 1) k (by omega) (by omega)
      have bb1 : (lb : Int) ≤ 128 ∧ (la : Int) ≤ 128 := by omega
      have Twr := Lib.hid HQ.out
      by_cases hia : i < la
      · by_cases hkb : k < lb
        · skip
          have d1 : decide ((i : Int) < (la : Int)) = true := by simp; omega
          have d2 : decide ((k : Int) < (lb : Int)) = true := by simp; omega
          have i5 : (i : Int) < (la : Int) := by omega
          have i6 : (k : Int) < (lb : Int) := by omega
          obtain ⟨f', q1, q2, q3⟩ := alGo_step (a := a) (b := b) (f := f) (i := i) (k := k) (by omega) (by have := HF.out.2; omega)
          obtain ⟨ba, oa, hla, eA, _, _, x0, x1, x2⟩ := (HR.out.1.below (H1.out.trans (HQ.out.co.below.mono H1.out.size)) z1).ph (k := i) (by omega)
          obtain rfl := eA
          have ga : a.getD i (0, false, 0) = a[i] := by rw [List.getD_eq_getElem?_getD, List.getElem?_eq_getElem hla]; rfl
          obtain ⟨bb, o2, hlb, eB, _, _, y0, y1, y2⟩ := (HR.out.2.below (H1.out.trans (HQ.out.co.below.mono H1.out.size)) z2).ph (k := k) (by omega)
          obtain rfl := eB
          have gb : b.getD k (0, false, 0) = b[k] := by rw [List.getD_eq_getElem?_getD, List.getElem?_eq_getElem hlb]; rfl
          obtain ⟨gi, hgi, o0, g0⟩ := HQ.out.co.row (show i < G.length by omega)
          have o0' : wr.cell? ⟨ob, 0 + i, none⟩ = some (.slice (some ⟨gi, 0, none⟩) (lb + 1) (lb + 1)) := by rw [Nat.zero_add]; exact o0
          obtain ⟨gj, hgj, p0, g1⟩ := HQ.out.co.row (show i + 1 < G.length by omega)
          have p0' : wr.cell? ⟨ob, 0 + (i + 1), none⟩ = some (.slice (some ⟨gj, 0, none⟩) (lb + 1) (lb + 1)) := by rw [Nat.zero_add]; exact p0
          have t0 : wr.cell? ⟨gi, k, none⟩ = some (.int .i64 (cs a b (i) (k))) := (g0.cell _).trans (HFI.out.2 _ _ (by omega) (by omega) (by omega))
          have t0' : wr.cell? ⟨gi, 0 + (k), none⟩ = some (.int .i64 (cs a b (i) (k))) := by rw [Nat.zero_add]; exact t0
          have t1 : wr.cell? ⟨gj, k + 1, none⟩ = some (.int .i64 (cs a b (i + 1) (k + 1))) := (g1.cell _).trans (HFI.out.2 _ _ (by omega) (by omega) (by omega))
          have t1' : wr.cell? ⟨gj, 0 + (k + 1), none⟩ = some (.int .i64 (cs a b (i + 1) (k + 1))) := by rw [Nat.zero_add]; exact t1
          have t2 : wr.cell? ⟨gj, k, none⟩ = some (.int .i64 (cs a b (i + 1) (k))) := (g1.cell _).trans (HFI.out.2 _ _ (by omega) (by omega) (by omega))
          have t2' : wr.cell? ⟨gj, 0 + (k), none⟩ = some (.int .i64 (cs a b (i + 1) (k))) := by rw [Nat.zero_add]; exact t2
          have lp := lone_hi a[i]
          have lp0 := lone_pos a[i]
          have lpq := apart_hi a[i] b[k]
          have lpq0 := apart_nn a[i] b[k]
          have hB : (cs a b i k == apartF a[i] b[k] + cs a b (i + 1) (k + 1)) = alB a b i k := by
            unfold alB
            rw [decide_eq_true (by omega : i < a.length), decide_eq_true (by omega : k < b.length), ga, gb, Bool.true_and, Bool.true_and]
            rfl
          have hA : (cs a b i k == loneF a[i] + cs a b (i + 1) k) = alA a b i k := by
            unfold alA
            rw [decide_eq_true (by omega : i < a.length), ga, Bool.true_and]
            rfl
          have HQ1 := Lib.hid (And.intro q1 (And.intro q2 q3))
          clear q1 q2 q3 ga gb
          generalize a[i] = p at *
          generalize b[k] = q at *
          generalize cs a b (i + 1) (k + 1) = cab at *
          generalize cs a b (i + 1) k = ca_ at *
          generalize cs a b i k = cc at *
          clear HQ g0 g1
          cases hb : alB a b i k with
          | true =>
            rw [hb] at hB
            have HFF := Lib.hid (HQ1.out.1 hb)
            clear hb hA HQ1
            go_wp2
            have Xx0 := Bel.cell x0
            have Xx1 := Bel.cell x1
            have Xx2 := Bel.cell x2
            have Xy0 := Bel.cell y0
            have Xy1 := Bel.cell y1
            have Xy2 := Bel.cell y2
            have Xo0 := Bel.cell o0
            have Xo0' := Bel.cell o0'
            have Xp0 := Bel.cell p0
            have Xp0' := Bel.cell p0'
            have Xt0 := Bel.cell t0
            have Xt0' := Bel.cell t0'
            have Xt1 := Bel.cell t1
            have Xt1' := Bel.cell t1'
            have Xt2 := Bel.cell t2
            have Xt2' := Bel.cell t2'
            clear x0 x1 x2 y0 y1 y2 o0 o0' p0 p0' t0 t0' t1 t1' t2 t2'
            refine wp_bel (by kernel_rfl) (by kernel_rfl) ?_
            repeat (gi_big_quiet_step (fail))
            gi_big_quiet_want
            gi_big_quiet_op
            refine ⟨.int .i64 (apartF p q), fun x => ?_, ?_⟩
            · exact callsIn_wide.2 ((refApart_any p q x.1).mono (fun e w' h => ⟨h.1, x.next h.2⟩))
            go_big_quiet_on
            repeat (gi_big_quiet_step (fail))
            refine wpQuietIn_nil ?_
            intro _ hw'
            obtain ⟨xW, hw''⟩ := hw'
            subst hw''
            have x0 := Xx0 xW
            have x1 := Xx1 xW
            have x2 := Xx2 xW
            have y0 := Xy0 xW
            have y1 := Xy1 xW
            have y2 := Xy2 xW
            have o0 := Xo0 xW
            have o0' := Xo0' xW
            have p0 := Xp0 xW
            have p0' := Xp0' xW
            have t0 := Xt0 xW
            have t0' := Xt0' xW
            have t1 := Xt1 xW
            have t1' := Xt1' xW
            have t2 := Xt2 xW
            have t2' := Xt2' xW
            clear Xx0 Xx1 Xx2 Xy0 Xy1 Xy2 Xo0 Xo0' Xp0 Xp0' Xt0 Xt0' Xt1 Xt1' Xt2 Xt2'
            obtain ⟨W3, hbW3⟩ := xW
            dsimp only at x0 x1 x2 y0 y1 y2 o0 o0' p0 p0' t0 t0' t1 t1' t2 t2' ⊢
            have TW3 := Lib.hid (Twr.out.on hbW3)
            clear hbW3 Twr
            obtain ⟨A8, c8, e8⟩ := own_slice TW3.out.own
            subst e8
            have hl0 := TW3.out.co.below.size
            go_wp2_with (at_builtin; go_must (refine wpList_append_rd _ rfl _ _ 86 rfl w1.heap.size 95 k0 (.agg #[.int .i64 0, .int .i64 0]) 2 16 Try.underlying86 HK.out.1 HK.out.2.1 HK.out.2.2.1 HK.out.2.2.2 rfl (by decide) _ _ _ rfl (TW3.out.own.alloc _) _ _ _ 1 1 _ rfl (rd_new_eq rfl rfl) (by simp [Value.oneCell']) (by unfold maxLen; omega) (by omega) (by simp; omega) ?_; intro v4 w4 _ hown hgrow _; have HE := Lib.hid ((TW3.out.on ((Below.refl _ _).alloc (Nat.le_refl _) _)).app ((i : Int), (k : Int)) hown hgrow); clear hown hgrow))
            go_roundw
            case rel => exact ⟨i + 1, k + 1, f', out ++ [((i : Int), (k : Int))], by omega, by omega, by go_num, by go_num, by simp; omega, HE, Lib.hid ⟨by rw [HF.out.1, HFF.out.2]; simp, by have := HFF.out.1; omega⟩⟩
            case measure => simp [intOf]; omega
          | false =>
            rw [hb] at hB
            go_wp2
            have Xx0 := Bel.cell x0
            have Xx1 := Bel.cell x1
            have Xx2 := Bel.cell x2
            have Xy0 := Bel.cell y0
            have Xy1 := Bel.cell y1
            have Xy2 := Bel.cell y2
            have Xo0 := Bel.cell o0
            have Xo0' := Bel.cell o0'
            have Xp0 := Bel.cell p0
            have Xp0' := Bel.cell p0'
            have Xt0 := Bel.cell t0
            have Xt0' := Bel.cell t0'
            have Xt1 := Bel.cell t1
            have Xt1' := Bel.cell t1'
            have Xt2 := Bel.cell t2
            have Xt2' := Bel.cell t2'
            clear x0 x1 x2 y0 y1 y2 o0 o0' p0 p0' t0 t0' t1 t1' t2 t2'
            refine wp_bel (by kernel_rfl) (by kernel_rfl) ?_
            repeat (gi_big_quiet_step (fail))
            gi_big_quiet_want
            gi_big_quiet_op
            refine ⟨.int .i64 (apartF p q), fun x => ?_, ?_⟩
            · exact callsIn_wide.2 ((refApart_any p q x.1).mono (fun e w' h => ⟨h.1, x.next h.2⟩))
            go_big_quiet_on
            repeat (gi_big_quiet_step (fail))
            refine wpQuietIn_nil ?_
            intro _ hw'
            obtain ⟨xW, hw''⟩ := hw'
            subst hw''
            have x0 := Xx0 xW
            have x1 := Xx1 xW
            have x2 := Xx2 xW
            have y0 := Xy0 xW
            have y1 := Xy1 xW
            have y2 := Xy2 xW
            have o0 := Xo0 xW
            have o0' := Xo0' xW
            have p0 := Xp0 xW
            have p0' := Xp0' xW
            have t0 := Xt0 xW
            have t0' := Xt0' xW
            have t1 := Xt1 xW
            have t1' := Xt1' xW
            have t2 := Xt2 xW
            have t2' := Xt2' xW
            clear Xx0 Xx1 Xx2 Xy0 Xy1 Xy2 Xo0 Xo0' Xp0 Xp0' Xt0 Xt0' Xt1 Xt1' Xt2 Xt2'
            obtain ⟨W3, hbW3⟩ := xW
            dsimp only at x0 x1 x2 y0 y1 y2 o0 o0' p0 p0' t0 t0' t1 t1' t2 t2' ⊢
            have TW3 := Lib.hid (Twr.out.on hbW3)
            clear hbW3 Twr
            cases ha : alA a b i k with
            | true =>
              rw [ha] at hA
              have HFF := Lib.hid (HQ1.out.2.1 hb ha)
              clear hb ha HQ1 hB
              go_wp2
              have Xx0 := Bel.cell x0
              have Xx1 := Bel.cell x1
              have Xx2 := Bel.cell x2
              have Xo0 := Bel.cell o0
              have Xo0' := Bel.cell o0'
              have Xp0 := Bel.cell p0
              have Xp0' := Bel.cell p0'
              have Xt0 := Bel.cell t0
              have Xt0' := Bel.cell t0'
              have Xt2 := Bel.cell t2
              have Xt2' := Bel.cell t2'
              clear x0 x1 x2 o0 o0' p0 p0' t0 t0' t2 t2'
              refine wp_bel (by kernel_rfl) (by kernel_rfl) ?_
              repeat (gi_big_quiet_step (fail))
              gi_big_quiet_want
              gi_big_quiet_op
              refine ⟨.int .i64 (loneF p), fun x => ?_, ?_⟩
              · exact callsIn_wide.2 ((refLone_any p x.1).mono (fun e w' h => ⟨h.1, x.next h.2⟩))
              go_big_quiet_on
              repeat (gi_big_quiet_step (fail))
              refine wpQuietIn_nil ?_
              intro _ hw'
              obtain ⟨xW, hw''⟩ := hw'
              subst hw''
              have x0 := Xx0 xW
              have x1 := Xx1 xW
              have x2 := Xx2 xW
              have o0 := Xo0 xW
              have o0' := Xo0' xW
              have p0 := Xp0 xW
              have p0' := Xp0' xW
              have t0 := Xt0 xW
              have t0' := Xt0' xW
              have t2 := Xt2 xW
              have t2' := Xt2' xW
              clear Xx0 Xx1 Xx2 Xo0 Xo0' Xp0 Xp0' Xt0 Xt0' Xt2 Xt2'
              obtain ⟨W4, hbW4⟩ := xW
              dsimp only at x0 x1 x2 o0 o0' p0 p0' t0 t0' t2 t2' ⊢
              have TW4 := Lib.hid (TW3.out.on hbW4)
              clear hbW4 TW3
              obtain ⟨A8, c8, e8⟩ := own_slice TW4.out.own
              subst e8
              have hl0 := TW4.out.co.below.size
              go_wp2_with (at_builtin; go_must (refine wpList_append_rd _ rfl _ _ 86 rfl w1.heap.size 95 k0 (.agg #[.int .i64 0, .int .i64 0]) 2 16 Try.underlying86 HK.out.1 HK.out.2.1 HK.out.2.2.1 HK.out.2.2.2 rfl (by decide) _ _ _ rfl (TW4.out.own.alloc _) _ _ _ 1 1 _ rfl (rd_new_eq rfl rfl) (by simp [Value.oneCell']) (by unfold maxLen; omega) (by omega) (by simp; omega) ?_; intro v4 w4 _ hown hgrow _; have HE := Lib.hid ((TW4.out.on ((Below.refl _ _).alloc (Nat.le_refl _) _)).app ((i : Int), -1) hown hgrow); clear hown hgrow))
              go_roundw
              case rel => exact ⟨i + 1, k, f', out ++ [((i : Int), -1)], by omega, by omega, by go_num, by go_num, by simp; omega, HE, Lib.hid ⟨by rw [HF.out.1, HFF.out.2]; simp, by have := HFF.out.1; omega⟩⟩
              case measure => simp [intOf]; omega
            | false =>
              rw [ha] at hA
              have HFF := Lib.hid (HQ1.out.2.2 hb ha)
              clear hb ha HQ1 hB
              go_wp2
              have Xx0 := Bel.cell x0
              have Xx1 := Bel.cell x1
              have Xx2 := Bel.cell x2
              have Xo0 := Bel.cell o0
              have Xo0' := Bel.cell o0'
              have Xp0 := Bel.cell p0
              have Xp0' := Bel.cell p0'
              have Xt0 := Bel.cell t0
              have Xt0' := Bel.cell t0'
              have Xt2 := Bel.cell t2
              have Xt2' := Bel.cell t2'
              clear x0 x1 x2 o0 o0' p0 p0' t0 t0' t2 t2'
              refine wp_bel (by kernel_rfl) (by kernel_rfl) ?_
              repeat (gi_big_quiet_step (fail))
              gi_big_quiet_want
              gi_big_quiet_op
              refine ⟨.int .i64 (loneF p), fun x => ?_, ?_⟩
              · exact callsIn_wide.2 ((refLone_any p x.1).mono (fun e w' h => ⟨h.1, x.next h.2⟩))
              go_big_quiet_on
              repeat (gi_big_quiet_step (fail))
              refine wpQuietIn_nil ?_
              intro _ hw'
              obtain ⟨xW, hw''⟩ := hw'
              subst hw''
              have x0 := Xx0 xW
              have x1 := Xx1 xW
              have x2 := Xx2 xW
              have o0 := Xo0 xW
              have o0' := Xo0' xW
              have p0 := Xp0 xW
              have p0' := Xp0' xW
              have t0 := Xt0 xW
              have t0' := Xt0' xW
              have t2 := Xt2 xW
              have t2' := Xt2' xW
              clear Xx0 Xx1 Xx2 Xo0 Xo0' Xp0 Xp0' Xt0 Xt0' Xt2 Xt2'
              obtain ⟨W4, hbW4⟩ := xW
              dsimp only at x0 x1 x2 o0 o0' p0 p0' t0 t0' t2 t2' ⊢
              have TW4 := Lib.hid (TW3.out.on hbW4)
              clear hbW4 TW3
              obtain ⟨A8, c8, e8⟩ := own_slice TW4.out.own
              subst e8
              have hl0 := TW4.out.co.below.size
              go_wp2_with (at_builtin; go_must (refine wpList_append_rd _ rfl _ _ 86 rfl w1.heap.size 95 k0 (.agg #[.int .i64 0, .int .i64 0]) 2 16 Try.underlying86 HK.out.1 HK.out.2.1 HK.out.2.2.1 HK.out.2.2.2 rfl (by decide) _ _ _ rfl (TW4.out.own.alloc _) _ _ _ 1 1 _ rfl (rd_new_eq rfl rfl) (by simp [Value.oneCell']) (by unfold maxLen; omega) (by omega) (by simp; omega) ?_; intro v4 w4 _ hown hgrow _; have HE := Lib.hid ((TW4.out.on ((Below.refl _ _).alloc (Nat.le_refl _) _)).app (-1, (k : Int)) hown hgrow); clear hown hgrow))
              go_roundw
              case rel => exact ⟨i, k + 1, f', out ++ [(-1, (k : Int))], by omega, by omega, by go_num, by go_num, by simp; omega, HE, Lib.hid ⟨by rw [HF.out.1, HFF.out.2]; simp, by have := HFF.out.1; omega⟩⟩
              case measure => simp [intOf]; omega
        · skip
          have d1 : decide ((i : Int) < (la : Int)) = true := by simp; omega
          have d2 : decide ((k : Int) < (lb : Int)) = false := by simp; omega
          have i5 : (i : Int) < (la : Int) := by omega
          obtain ⟨f', q1, q2, q3⟩ := alGo_step (a := a) (b := b) (f := f) (i := i) (k := k) (by omega) (by have := HF.out.2; omega)
          obtain ⟨ba, oa, hla, eA, _, _, x0, x1, x2⟩ := (HR.out.1.below (H1.out.trans (HQ.out.co.below.mono H1.out.size)) z1).ph (k := i) (by omega)
          obtain rfl := eA
          have ga : a.getD i (0, false, 0) = a[i] := by rw [List.getD_eq_getElem?_getD, List.getElem?_eq_getElem hla]; rfl
          obtain ⟨gi, hgi, o0, g0⟩ := HQ.out.co.row (show i < G.length by omega)
          have o0' : wr.cell? ⟨ob, 0 + i, none⟩ = some (.slice (some ⟨gi, 0, none⟩) (lb + 1) (lb + 1)) := by rw [Nat.zero_add]; exact o0
          obtain ⟨gj, hgj, p0, g1⟩ := HQ.out.co.row (show i + 1 < G.length by omega)
          have p0' : wr.cell? ⟨ob, 0 + (i + 1), none⟩ = some (.slice (some ⟨gj, 0, none⟩) (lb + 1) (lb + 1)) := by rw [Nat.zero_add]; exact p0
          have t0 : wr.cell? ⟨gi, k, none⟩ = some (.int .i64 (cs a b (i) (k))) := (g0.cell _).trans (HFI.out.2 _ _ (by omega) (by omega) (by omega))
          have t0' : wr.cell? ⟨gi, 0 + (k), none⟩ = some (.int .i64 (cs a b (i) (k))) := by rw [Nat.zero_add]; exact t0
          have t2 : wr.cell? ⟨gj, k, none⟩ = some (.int .i64 (cs a b (i + 1) (k))) := (g1.cell _).trans (HFI.out.2 _ _ (by omega) (by omega) (by omega))
          have t2' : wr.cell? ⟨gj, 0 + (k), none⟩ = some (.int .i64 (cs a b (i + 1) (k))) := by rw [Nat.zero_add]; exact t2
          have lp := lone_hi a[i]
          have lp0 := lone_pos a[i]
          have hbB : alB a b i k = false := by unfold alB; rw [decide_eq_false (by omega : ¬ k < b.length)]; simp
          have haA : alA a b i k = true := by
            cases h : alA a b i k with
            | true => rfl
            | false => have := al_third (a := a) (b := b) (i := i) (k := k) (by omega) h; omega
          have hA : (cs a b i k == loneF a[i] + cs a b (i + 1) k) = true := by
            rw [← haA]
            unfold alA
            rw [decide_eq_true (by omega : i < a.length), ga, Bool.true_and]
            rfl
          have HFF := Lib.hid (q2 hbB haA)
          clear q1 q2 q3 ga hbB haA
          generalize a[i] = p at *
          generalize cs a b (i + 1) k = ca_ at *
          generalize cs a b i k = cc at *
          clear HQ g0 g1
          go_wp2
          have Xx0 := Bel.cell x0
          have Xx1 := Bel.cell x1
          have Xx2 := Bel.cell x2
          have Xo0 := Bel.cell o0
          have Xo0' := Bel.cell o0'
          have Xp0 := Bel.cell p0
          have Xp0' := Bel.cell p0'
          have Xt0 := Bel.cell t0
          have Xt0' := Bel.cell t0'
          have Xt2 := Bel.cell t2
          have Xt2' := Bel.cell t2'
          clear x0 x1 x2 o0 o0' p0 p0' t0 t0' t2 t2'
          refine wp_bel (by kernel_rfl) (by kernel_rfl) ?_
          repeat (gi_big_quiet_step (fail))
          refine wpQuietIn_nil ?_
          intro _ hw'
          obtain ⟨xW, hw''⟩ := hw'
          subst hw''
          have x0 := Xx0 xW
          have x1 := Xx1 xW
          have x2 := Xx2 xW
          have o0 := Xo0 xW
          have o0' := Xo0' xW
          have p0 := Xp0 xW
          have p0' := Xp0' xW
          have t0 := Xt0 xW
          have t0' := Xt0' xW
          have t2 := Xt2 xW
          have t2' := Xt2' xW
          clear Xx0 Xx1 Xx2 Xo0 Xo0' Xp0 Xp0' Xt0 Xt0' Xt2 Xt2'
          obtain ⟨W3, hbW3⟩ := xW
          dsimp only at x0 x1 x2 o0 o0' p0 p0' t0 t0' t2 t2' ⊢
          have TW3 := Lib.hid (Twr.out.on hbW3)
          clear hbW3 Twr
          go_wp2
          have Xx0 := Bel.cell x0
          have Xx1 := Bel.cell x1
          have Xx2 := Bel.cell x2
          have Xo0 := Bel.cell o0
          have Xo0' := Bel.cell o0'
          have Xp0 := Bel.cell p0
          have Xp0' := Bel.cell p0'
          have Xt0 := Bel.cell t0
          have Xt0' := Bel.cell t0'
          have Xt2 := Bel.cell t2
          have Xt2' := Bel.cell t2'
          clear x0 x1 x2 o0 o0' p0 p0' t0 t0' t2 t2'
          refine wp_bel (by kernel_rfl) (by kernel_rfl) ?_
          repeat (gi_big_quiet_step (fail))
          gi_big_quiet_want
          gi_big_quiet_op
          refine ⟨.int .i64 (loneF p), fun x => ?_, ?_⟩
          · exact callsIn_wide.2 ((refLone_any p x.1).mono (fun e w' h => ⟨h.1, x.next h.2⟩))
          go_big_quiet_on
          repeat (gi_big_quiet_step (fail))
          refine wpQuietIn_nil ?_
          intro _ hw'
          obtain ⟨xW, hw''⟩ := hw'
          subst hw''
          have x0 := Xx0 xW
          have x1 := Xx1 xW
          have x2 := Xx2 xW
          have o0 := Xo0 xW
          have o0' := Xo0' xW
          have p0 := Xp0 xW
          have p0' := Xp0' xW
          have t0 := Xt0 xW
          have t0' := Xt0' xW
          have t2 := Xt2 xW
          have t2' := Xt2' xW
          clear Xx0 Xx1 Xx2 Xo0 Xo0' Xp0 Xp0' Xt0 Xt0' Xt2 Xt2'
          obtain ⟨W4, hbW4⟩ := xW
          dsimp only at x0 x1 x2 o0 o0' p0 p0' t0 t0' t2 t2' ⊢
          have TW4 := Lib.hid (TW3.out.on hbW4)
          clear hbW4 TW3
          obtain ⟨A8, c8, e8⟩ := own_slice TW4.out.own
          subst e8
          have hl0 := TW4.out.co.below.size
          go_wp2_with (at_builtin; go_must (refine wpList_append_rd _ rfl _ _ 86 rfl w1.heap.size 95 k0 (.agg #[.int .i64 0, .int .i64 0]) 2 16 Try.underlying86 HK.out.1 HK.out.2.1 HK.out.2.2.1 HK.out.2.2.2 rfl (by decide) _ _ _ rfl (TW4.out.own.alloc _) _ _ _ 1 1 _ rfl (rd_new_eq rfl rfl) (by simp [Value.oneCell']) (by unfold maxLen; omega) (by omega) (by simp; omega) ?_; intro v4 w4 _ hown hgrow _; have HE := Lib.hid ((TW4.out.on ((Below.refl _ _).alloc (Nat.le_refl _) _)).app ((i : Int), -1) hown hgrow); clear hown hgrow))
          go_roundw
          case rel => exact ⟨i + 1, k, f', out ++ [((i : Int), -1)], by omega, by omega, by go_num, by go_num, by simp; omega, HE, Lib.hid ⟨by rw [HF.out.1, HFF.out.2]; simp, by have := HFF.out.1; omega⟩⟩
          case measure => simp [intOf]; omega
      · by_cases hkb : k < lb
        · skip
          have d1 : decide ((i : Int) < (la : Int)) = false := by simp; omega
          have d2 : decide ((k : Int) < (lb : Int)) = true := by simp; omega
          obtain ⟨f', q1, q2, q3⟩ := alGo_step (a := a) (b := b) (f := f) (i := i) (k := k) (by omega) (by have := HF.out.2; omega)
          have hbB : alB a b i k = false := by unfold alB; rw [decide_eq_false (by omega : ¬ i < a.length)]; simp
          have haA : alA a b i k = false := by unfold alA; rw [decide_eq_false (by omega : ¬ i < a.length)]; simp
          have HFF := Lib.hid (q3 hbB haA)
          clear q1 q2 q3 hbB haA HQ
          go_wp2
          refine wp_bel (by kernel_rfl) (by kernel_rfl) ?_
          repeat (gi_big_quiet_step (fail))
          refine wpQuietIn_nil ?_
          intro _ hw'
          obtain ⟨xW, hw''⟩ := hw'
          subst hw''
          obtain ⟨W3, hbW3⟩ := xW
          dsimp only
          have TW3 := Lib.hid (Twr.out.on hbW3)
          clear hbW3 Twr
          go_wp2
          refine wp_bel (by kernel_rfl) (by kernel_rfl) ?_
          repeat (gi_big_quiet_step (fail))
          refine wpQuietIn_nil ?_
          intro _ hw'
          obtain ⟨xW, hw''⟩ := hw'
          subst hw''
          obtain ⟨W4, hbW4⟩ := xW
          dsimp only
          have TW4 := Lib.hid (TW3.out.on hbW4)
          clear hbW4 TW3
          obtain ⟨A8, c8, e8⟩ := own_slice TW4.out.own
          subst e8
          have hl0 := TW4.out.co.below.size
          go_wp2_with (at_builtin; go_must (refine wpList_append_rd _ rfl _ _ 86 rfl w1.heap.size 95 k0 (.agg #[.int .i64 0, .int .i64 0]) 2 16 Try.underlying86 HK.out.1 HK.out.2.1 HK.out.2.2.1 HK.out.2.2.2 rfl (by decide) _ _ _ rfl (TW4.out.own.alloc _) _ _ _ 1 1 _ rfl (rd_new_eq rfl rfl) (by simp [Value.oneCell']) (by unfold maxLen; omega) (by omega) (by simp; omega) ?_; intro v4 w4 _ hown hgrow _; have HE := Lib.hid ((TW4.out.on ((Below.refl _ _).alloc (Nat.le_refl _) _)).app (-1, (k : Int)) hown hgrow); clear hown hgrow))
          go_roundw
          case rel => exact ⟨i, k + 1, f', out ++ [(-1, (k : Int))], by omega, by omega, by go_num, by go_num, by simp; omega, HE, Lib.hid ⟨by rw [HF.out.1, HFF.out.2]; simp, by have := HFF.out.1; omega⟩⟩
          case measure => simp [intOf]; omega
        · skip
          have d1 : decide ((i : Int) < (la : Int)) = false := by simp; omega
          have d2 : decide ((k : Int) < (lb : Int)) = false := by simp; omega
          have hend : alL a b = out := by rw [HF.out.1, alGo_end (by omega), List.append_nil]
          have HEND := Lib.hid hend
          clear hend
          go_wp2
          go_ret2
          first
            | exact ⟨_, rfl, by rw [HEND.out]; exact own_more HQ.out.own H1.out.size, H1.out.trans (HQ.out.co.below.mono H1.out.size)⟩
            | exact ⟨by rw [HEND.out]; exact own_more HQ.out.own H1.out.size, H1.out.trans (HQ.out.co.below.mono H1.out.size)⟩
  · have d1 : (dsE a b != 0) = true := by simpa using he
    have HW := Lib.hid (wrong_any A B la ca lb cb L1 B1 L2 B2 a b w HR.out.1 HR.out.2 z1 z2)
    rw [if_neg he]
    generalize dsE a b = E at *
    clear he HV
    go_enter Try.func65, Try.ntmps65
    go_wp2_with fail
    refine HW.out.mono ?_
    rintro e w1 ⟨rfl, hb⟩
    have H1 := Lib.hid hb
    clear hb HW
    go_wp2
    go_ret2
    exact ⟨_, rfl, World.ownsRow_nil _ _ _ _, H1.out⟩
end Go.Proofs.Ytogofchpocoebaa
