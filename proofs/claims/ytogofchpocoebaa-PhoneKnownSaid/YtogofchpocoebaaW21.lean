/- The reference's Sign; memory while the reference's Read runs. -/
import Derived.Test.YtogofchpocoebaaW9
import Derived.Test.YtogofchpocoebaaY3
import Derived.Test.YtogofchpocoebaaS9
namespace Go.Proofs.Ytogofchpocoebaa
open Go.RowKit Go.Maps

theorem u8_eq (a : UInt8) (k : Nat) (hk : k < 256) : (((a.toNat : Nat) : Int) == (k : Int)) = decide (a = UInt8.ofNat k) := by
  by_cases e : a = UInt8.ofNat k
  · subst e
    rw [decide_eq_true rfl]
    have : (UInt8.ofNat k).toNat = k := by simp [UInt8.toNat_ofNat']; omega
    rw [this]
    simp
  · rw [decide_eq_false e]
    refine beq_eq_false_iff_ne.2 fun h => e ?_
    have : a.toNat = k := by omega
    rw [← this]
    exact (UInt8.ofNat_toNat).symm

set_option maxHeartbeats 8000000 in
set_option maxRecDepth 100000 in
theorem refSign_any (s : ByteArray) (at_ : Nat) (w : World) (hs : s.size ≤ maxLen) (h : at_ < s.size) : Calls Try.prog 147 #[.string s, .int .i64 at_] w fun e w' => e = .returned (.tuple #[.int .i64 (signL (s.data.toList.drop at_)).1, .int .i64 ((signL (s.data.toList.drop at_)).2 : Nat)]) ∧ Below w.heap.size w w' := by
  unfold maxLen at hs
  have hl : at_ < s.data.toList.length := h
  have hd : s.data.toList.drop at_ = s[at_] :: s.data.toList.drop (at_ + 1) := List.drop_eq_getElem_cons hl
  have i1 : (0 : Int) ≤ (at_ : Int) := by omega
  have i2 : (at_ : Int) < (s.size : Int) := by omega
  obtain ⟨q, hq⟩ : ∃ q, q = at_ + 1 := ⟨_, rfl⟩
  have wq : IntKind.i64.wrap ((at_ : Int) + 1) = (q : Int) := by rw [IntWalk.i64_in _ (by omega)]; omega
  have e46 := u8_eq s[at_] 46 (by decide)
  have e203 := u8_eq s[at_] 203 (by decide)
  by_cases h46 : s[at_] = 46
  · have HV := Lib.hid (show signL (s.data.toList.drop at_) = (0, 1) by
      rw [hd, h46]
      cases s.data.toList.drop (at_ + 1) <;> rfl)
    have b1 : (((s[at_].toNat : Nat) : Int) == 46) = true := e46.trans (decide_eq_true h46)
    rw [HV.out]
    clear hd e46 e203 h46 HV
    go_enter Try.func147, Try.ntmps147
    go_wp2
    go_ret2
    exact ⟨rfl, Below.refl _ _⟩
  have b1 : (((s[at_].toNat : Nat) : Int) == 46) = false := e46.trans (decide_eq_false h46)
  by_cases hlt : q < s.size
  case neg =>
    have HV := Lib.hid (show signL (s.data.toList.drop at_) = (0, 0) by
      rw [hd, List.drop_eq_nil_of_le (by show s.size ≤ _; omega), sign_one, if_neg h46])
    rw [HV.out]
    have d1 : decide ((q : Int) < (s.size : Int)) = false := decide_eq_false (by omega)
    clear hd e46 e203 h46 HV hq
    go_enter Try.func147, Try.ntmps147
    go_wp2
    go_ret2
    exact ⟨rfl, Below.refl _ _⟩
  have d1 : decide ((q : Int) < (s.size : Int)) = true := decide_eq_true (by omega)
  have hl2 : at_ + 1 < s.data.toList.length := by show at_ + 1 < s.size; omega
  have hd2 : s.data.toList.drop (at_ + 1) = s[q] :: s.data.toList.drop (at_ + 2) := by
    subst hq
    exact List.drop_eq_getElem_cons hl2
  rw [hd2] at hd
  have j1 : (0 : Int) ≤ (q : Int) := by omega
  have j2 : (q : Int) < (s.size : Int) := by omega
  have e136 := u8_eq s[q] 136 (by decide)
  have e140 := u8_eq s[q] 140 (by decide)
  by_cases h203 : s[at_] = 203
  case neg =>
    have HV := Lib.hid (show signL (s.data.toList.drop at_) = (0, 0) by
      rw [hd, sign_two, if_neg h46, if_neg (fun e => h203 e.1), if_neg (fun e => h203 e.1)])
    have b2 : (((s[at_].toNat : Nat) : Int) == 203) = false := e203.trans (decide_eq_false h203)
    rw [HV.out]
    clear hd hd2 e46 e203 h46 HV hq e136 e140 h203
    go_enter Try.func147, Try.ntmps147
    go_wp2
    go_ret2
    exact ⟨rfl, Below.refl _ _⟩
  have b2 : (((s[at_].toNat : Nat) : Int) == 203) = true := e203.trans (decide_eq_true h203)
  by_cases h136 : s[q] = 136
  · have HV := Lib.hid (show signL (s.data.toList.drop at_) = (2, 2) by
      rw [hd, sign_two, if_neg h46, if_pos ⟨h203, h136⟩])
    have b3 : (((s[q].toNat : Nat) : Int) == 136) = true := e136.trans (decide_eq_true h136)
    rw [HV.out]
    clear hd hd2 e46 e203 h46 HV hq e136 e140 h203 h136
    go_enter Try.func147, Try.ntmps147
    go_wp2
    go_ret2
    exact ⟨rfl, Below.refl _ _⟩
  have b3 : (((s[q].toNat : Nat) : Int) == 136) = false := e136.trans (decide_eq_false h136)
  by_cases h140 : s[q] = 140
  · have HV := Lib.hid (show signL (s.data.toList.drop at_) = (1, 2) by
      rw [hd, sign_two, if_neg h46, if_neg (fun e => h136 e.2), if_pos ⟨h203, h140⟩])
    have b4 : (((s[q].toNat : Nat) : Int) == 140) = true := e140.trans (decide_eq_true h140)
    rw [HV.out]
    clear hd hd2 e46 e203 h46 HV hq e136 e140 h203 h136 h140
    go_enter Try.func147, Try.ntmps147
    go_wp2
    go_ret2
    exact ⟨rfl, Below.refl _ _⟩
  have b4 : (((s[q].toNat : Nat) : Int) == 140) = false := e140.trans (decide_eq_false h140)
  have HV := Lib.hid (show signL (s.data.toList.drop at_) = (0, 0) by
    rw [hd, sign_two, if_neg h46, if_neg (fun e => h136 e.2), if_neg (fun e => h140 e.2)])
  rw [HV.out]
  clear hd hd2 e46 e203 h46 HV hq e136 e140 h203 h136 h140
  go_enter Try.func147, Try.ntmps147
  go_wp2
  go_ret2
  exact ⟨rfl, Below.refl _ _⟩

/-- syllables with the heaviness that a row gives them -/
def hvL (ps : List Ph) (o : List Sy) : List Sy := o.map fun s => setHv s (heavyF ps s)
theorem hvL_len (ps : List Ph) (o : List Sy) : (hvL ps o).length = o.length := by simp [hvL]
theorem heavy_more2 {ps : List Ph} {p : Ph} {s : Sy} (h0 : 0 ≤ s.nu) (h1 : s.nu < ps.length) : heavyF (ps ++ [p]) s = heavyF ps s := by
  unfold heavyF
  rw [List.getD_eq_getElem?_getD, List.getD_eq_getElem?_getD, List.getElem?_append_left (by omega)]
theorem hvL_more {ps : List Ph} {p : Ph} {o : List Sy} (h : ∀ s ∈ o, 0 ≤ s.nu ∧ s.nu < ps.length) : hvL (ps ++ [p]) o = hvL ps o :=
  List.map_congr_left fun s hs => by rw [heavy_more2 (h s hs).1 (h s hs).2]
theorem hvL_snoc (ps : List Ph) (o : List Sy) (fr nu st : Int) : hvL ps (o ++ [(fr, nu, (ps.length : Int), st, false)]) = hvL ps o ++ [shutS ps fr nu st] := by
  simp [hvL, shutS, setHv, Sy.fr, Sy.nu, Sy.to_, Sy.st]
/-- the first i of them have it -/
def hvM (ps : List Ph) (o : List Sy) (i : Nat) : List Sy := hvL ps (o.take i) ++ o.drop i
theorem hvM_len (ps : List Ph) (o : List Sy) (i : Nat) : (hvM ps o i).length = o.length := by
  unfold hvM
  rw [List.length_append, hvL_len, List.length_take, List.length_drop]
  omega
theorem hvM_zero (ps : List Ph) (o : List Sy) : hvM ps o 0 = o := by simp [hvM, hvL]
theorem hvM_end (ps : List Ph) (o : List Sy) : hvM ps o o.length = hvL ps o := by simp [hvM]
theorem hvM_at {ps : List Ph} {o : List Sy} {i : Nat} (h : i < o.length) : (hvM ps o i).getD i sy0 = o[i] := by
  unfold hvM
  have e : (hvL ps (o.take i)).length = i := by rw [hvL_len, List.length_take]; omega
  rw [List.getD_eq_getElem?_getD, List.getElem?_append_right (by omega), e, Nat.sub_self, List.getElem?_drop, Nat.add_zero, List.getElem?_eq_getElem h]
  rfl
theorem hvM_step {ps : List Ph} {o : List Sy} {i : Nat} (h : i < o.length) : (hvM ps o i).set i (setHv o[i] (heavyF ps o[i])) = hvM ps o (i + 1) := by
  unfold hvM
  have e : (hvL ps (o.take i)).length = i := by rw [hvL_len, List.length_take]; omega
  rw [List.set_append_right _ _ (by omega), e, Nat.sub_self, List.drop_eq_getElem_cons h, List.set_cons_zero, List.take_succ_eq_append_getElem h, show hvL ps (o.take i ++ [o[i]]) = hvL ps (o.take i) ++ hvL ps [o[i]] from List.map_append, List.append_assoc]
  rfl

/-- memory while the reference's Read runs -/
structure RfSt (w0 : World) (v5 v6 : Value) (ps : List Ph) (out : List Sy) (x : Sy) (W : World) : Prop where
  rs : Blk W w0.heap.size 68 #[.int .i64 0, .int .i64 0]
  bx : Blk W (w0.heap.size + 1) 37 #[.int .i64 x.fr, .int .i64 x.nu, .int .i64 x.to_, .int .i64 x.st, .bool x.hv]
  ownP : W.ownsRow (w0.heap.size + 2) 43 3 v5 ps.length (phs ps)
  ownS : W.ownsRow (w0.heap.size + 2) 37 5 v6 out.length (sys out)
  below : Below w0.heap.size w0 W
section
variable {w0 : World} {v5 v6 v5' v6' : Value} {ps : List Ph} {out : List Sy} {x : Sy} {W W' : World}
theorem RfSt.on (h : RfSt w0 v5 v6 ps out x W) (hb : Below W.heap.size W W') : RfSt w0 v5 v6 ps out x W' :=
  ⟨h.rs.below hb h.rs.lt, h.bx.below hb h.bx.lt, own_stay h.ownP (Only.of_below hb _), own_stay h.ownS (Only.of_below hb _), h.below.trans (hb.mono h.below.size)⟩
theorem RfSt.lo (h : RfSt w0 v5 v6 ps out x W) : w0.heap.size + 2 ≤ W.heap.size := h.bx.lt
theorem RfSt.apart (h : RfSt w0 v5 v6 ps out x W) {k : Nat} (e : v5.ownBlock = some k) : v6.ownBlock ≠ some k := fun e2 => by
  obtain ⟨c1, h1⟩ := blk_of_own h.ownP e
  obtain ⟨c2, h2⟩ := blk_of_own h.ownS e2
  have := blk_type h1 h2
  cases this
/-- the syllable under way turns -/
theorem RfSt.setx (h : RfSt w0 v5 v6 ps out x W) (i : Nat) (u : Value) (x' : Sy) (he : #[.int .i64 x.fr, .int .i64 x.nu, .int .i64 x.to_, .int .i64 x.st, .bool x.hv].setIfInBounds i u = #[.int .i64 x'.fr, .int .i64 x'.nu, .int .i64 x'.to_, .int .i64 x'.st, .bool x'.hv]) : RfSt w0 v5 v6 ps out x' (W.setCell ⟨w0.heap.size + 1, i, none⟩ u) :=
  ⟨h.rs.far (by simp) u, he ▸ h.bx.set_ i u, own_far h.ownP (fun e => by have := (h.ownP.lt _ e).1; simp at this) u, own_far h.ownS (fun e => by have := (h.ownS.lt _ e).1; simp at this) u, h.below.setCell (by simp) _⟩
theorem RfSt.appS {m : Nat} (h : RfSt w0 v5 v6 ps out x W) (hm : out.length = m) (y : Sy) (ho : W'.ownsRow (w0.heap.size + 2) 37 5 v6' (m + 1) (sys out ++ syC y)) (hg : W.grownBy W' v6.ownBlock) : RfSt w0 v5 v6' ps (out ++ [y]) x W' := by
  subst hm
  have hO : Only (fun k => v6.ownBlock = some k) W W' := (Only.refl _ _).grown hg (fun _ hg => .inl hg)
  refine ⟨h.rs.only hO (fun hs => by have := (h.ownS.lt _ hs).1; omega), h.bx.only hO (fun hs => by have := (h.ownS.lt _ hs).1; omega), own_only h.ownP hO (fun k _ _ hk hs => h.apart hk hs), ?_, h.below.trans (hO.below h.below.size fun k hk hs => by have := (h.ownS.lt _ hs).1; omega)⟩
  rw [sys_append, List.length_append]
  simpa [sys] using ho
theorem RfSt.appP {m : Nat} (h : RfSt w0 v5 v6 ps out x W) (hm : ps.length = m) (y : Ph) (ho : W'.ownsRow (w0.heap.size + 2) 43 3 v5' (m + 1) (phs ps ++ phC y)) (hg : W.grownBy W' v5.ownBlock) : RfSt w0 v5' v6 (ps ++ [y]) out x W' := by
  subst hm
  have hO : Only (fun k => v5.ownBlock = some k) W W' := (Only.refl _ _).grown hg (fun _ hg => .inl hg)
  refine ⟨h.rs.only hO (fun hs => by have := (h.ownP.lt _ hs).1; omega), h.bx.only hO (fun hs => by have := (h.ownP.lt _ hs).1; omega), ?_, own_only h.ownS hO (fun k _ _ hk hs => h.apart hs hk), h.below.trans (hO.below h.below.size fun k hk hs => by have := (h.ownP.lt _ hs).1; omega)⟩
  rw [phs_append, List.length_append]
  simpa [phs] using ho
/-- a cell of the syllables' row turns -/
theorem RfSt.put {g cap m : Nat} (h : RfSt w0 v5 (.slice (some ⟨g, 0, none⟩) m cap) ps out x W) (hm : out.length = m) (i : Nat) (u : Value) (out' : List Sy) (he : (sys out).set i u = sys out') (hl : out'.length = m) : RfSt w0 v5 (.slice (some ⟨g, 0, none⟩) m cap) ps out' x (W.setCell ⟨g, i, none⟩ u) := by
  subst hm
  have hg : w0.heap.size + 2 ≤ g := (h.ownS.lt g rfl).1
  refine ⟨h.rs.far (by simp; omega) _, h.bx.far (by simp; omega) _, own_far h.ownP (fun e => h.apart (k := g) e rfl) u, ?_, h.below.setCell (by simp; omega) _⟩
  rw [hl, ← he]
  exact own_set h.ownS i u
theorem RfSt.drew (h : RfSt w0 v5 v6 ps out x W) : RfSt w0 v5 v6 ps out x W.drew := h.on (bdrew (Below.refl _ _))
end

end Go.Proofs.Ytogofchpocoebaa
