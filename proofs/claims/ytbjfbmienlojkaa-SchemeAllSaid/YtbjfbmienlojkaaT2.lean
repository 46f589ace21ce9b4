/- 
   
   
   scheme.Read: what it computes (rdF), and its walk: a scope of labels. -/
import Derived.Test.YtbjfbmienlojkaaChecked
import Derived.Test.YtbjfbmienlojkaaMem
namespace Go.Proofs.Ytbjfbmienlojkaa
open Go.RowKit

def placeF : List UInt8 → Int → Nat → Int
  | [], _, _ => -1
  | c :: t, r, i => if (c.toNat : Int) = r then i else placeF t r (i + 1)


set_option maxHeartbeats 400000 in
theorem place_any (s : ByteArray) (r : Int) (w : World) (hs : ∀ i, (h : i < s.size) → (s[i]'h).toNat < 128) (hz : s.size ≤ 1000) :
    Calls Try.prog 54 #[.string s, .int .i32 r] w fun e w' => e = .returned (.int .i64 (placeF s.data.toList r 0)) ∧ Below w.heap.size w w' := by
  go_enter Try.func54, Try.ntmps54
  go_wp2
  go_loopw [] (fun wr => ∃ pos : Nat, pos ≤ s.size ∧ wr = w.iter s pos ∧ Hid (placeF s.data.toList r 0 = placeF (s.data.toList.drop pos) r pos)) (fun w' => s.size - w'.iterPos w.heap.size)
  case atStart => exact ⟨0, by omega, rfl, rfl⟩
  case round =>
    obtain ⟨pos, hpos, rfl, H⟩ := hrel
    by_cases hp : pos < s.size
    · have hd : s.data.toList.drop pos = s[pos] :: s.data.toList.drop (pos + 1) := by
        rw [List.drop_eq_getElem_cons (by simpa using hp)]; rfl
      have HD := Lib.hid hd
      clear hd
      have hs1 := hs pos hp
      have hnx : ∀ ty, (Instr.next (.pointer (some ⟨w.heap.size, 0, none⟩)) true ty).run Try.prog (w.iter s pos) = _ := fun ty => run_next_ascii w s pos ty hp hs1
      go_wp2
      · go_ret
        have : (s[pos].toNat : Int) = r := beq_iff_eq.1 (by assumption)
        exact ⟨ret_int (by rw [H.out, HD.out]; simp [placeF, this]), iter_below _ _ _⟩
      · have : ¬ (s[pos].toNat : Int) = r := beq_eq_false_iff_ne.1 (by assumption)
        go_roundw
        case rel => exact ⟨pos + 1, by omega, rfl, by rw [H.out, HD.out, placeF, if_neg this]; rfl⟩
        case measure => simp; omega
    · have hnx : ∀ ty, (Instr.next (.pointer (some ⟨w.heap.size, 0, none⟩)) true ty).run Try.prog (w.iter s pos) = _ := fun ty => run_next_end w s pos ty hp
      have hd : s.data.toList.drop pos = [] := List.drop_of_length_le (by simp; omega)
      have HD := Lib.hid hd
      clear hd
      go_wp2
      go_ret
      exact ⟨ret_int (by rw [H.out, HD.out]; rfl), iter_below _ _ _⟩
end Go.Proofs.Ytbjfbmienlojkaa

namespace Go.Proofs.Ytbjfbmienlojkaa
open Go.RowKit

/-- what 'take' takes off a text: the rune, and what is left -/
def tookR (s : ByteArray) : Int := if s.size = 0 then 0 else (Utf8.decode s 0).1
def tookS (s : ByteArray) : ByteArray := s.extract (Utf8.decode s 0).2 s.size

theorem extract_past (s : ByteArray) (a b : Nat) (h : s.size ≤ a) : s.extract a b = ⟨#[]⟩ := by
  apply ByteArray.ext
  rw [ByteArray.data_extract]
  apply Array.ext'
  simp
  omega

set_option maxHeartbeats 400000 in
theorem take_any (p q : Nat) (s : ByteArray) (r0 : Int) (w : World) (hp : Blk w p 9 #[.string s]) (hq : Blk w q 21 #[.int .i32 r0]) (hpq : p ≠ q) (hsz : s.size ≤ 65536) :
    Calls Try.prog 52 #[.pointer (some ⟨p, 0, none⟩), .pointer (some ⟨q, 0, none⟩)] w fun e w' =>
      e = .returned (.int .i32 (tookR s)) ∧ Blk w' p 9 #[.string (tookS s)] ∧ Blk w' q 21 #[.int .i32 (tookR s)] ∧ Only (fun k => k = p ∨ k = q) w w' := by
  have HP := Lib.hid hp
  have HQ := Lib.hid hq
  have lp := hp.lt
  have lq := hq.lt
  have npq' : q ≠ p := Ne.symm hpq
  have npq : (q = p) = False := by simp; omega
  have npI : p ≠ w.heap.size := by omega
  have nqI : q ≠ w.heap.size := by omega
  clear hp hq
  go_enter Try.func52, Try.ntmps52
  have hc0 : w.cell? ⟨p, 0, none⟩ = some (.string s) := HP.out.cell 0
  go_wp2
  refine wp_abs (fun w1 => Blk w1 p 9 #[.string s] ∧ Blk w1 q 21 #[.int .i32 r0] ∧ w1.heap[w.heap.size]? = some (.stringIter s 0) ∧ Only (fun k => k = p ∨ k = q) w w1) ⟨HP.out.iter _ _, HQ.out.iter _ _, World.iter_heap _ _ _, (Only.refl _ _).iter _ _⟩ ?_
  clear hc0
  rintro w1 ⟨hp1, hq1, hi1, ho1⟩
  have c1 : w1.cell? ⟨p, 0, none⟩ = some (.string s) := hp1.cell 0
  have c2 : w1.cell? ⟨q, 0, none⟩ = some (.int .i32 r0) := hq1.cell 0
  have f1 := hp1.frozen 0
  have f2 := hq1.frozen 0
  have H1 := Lib.hid (And.intro hp1 (And.intro hq1 hi1))
  clear hp1 hq1 hi1
  have j1 : ∀ x, (w1.iterAt w.heap.size s x).cell? ⟨p, 0, none⟩ = some (.string s) := fun x => (cell_iterAt w1 _ s x p 0 npI).trans c1
  have j2 : ∀ x, (w1.iterAt w.heap.size s x).cell? ⟨q, 0, none⟩ = some (.int .i32 r0) := fun x => (cell_iterAt w1 _ s x q 0 nqI).trans c2
  have j3 : ∀ x, (w1.iterAt w.heap.size s x).frozen? ⟨p, 0, none⟩ = false := fun x => (frozen_iterAt w1 _ s x p 0 npI).trans f1
  have j4 : ∀ x, (w1.iterAt w.heap.size s x).frozen? ⟨q, 0, none⟩ = false := fun x => (frozen_iterAt w1 _ s x q 0 nqI).trans f2
  by_cases h0 : 0 < s.size
  · have hl1 := (str_ne s h0).1
    have hl2 := (str_ne s h0).2
    have hr0 : tookR s = (Utf8.decode s 0).1 := by unfold tookR; rw [if_neg (by omega)]
    have hs0 : tookS s = s.extract (Utf8.decode s 0).2 s.size := rfl
    have hd1 : 1 ≤ (Utf8.decode s 0).2 := width_pos s 0 h0
    have hnx : ∀ ty, (Instr.next (.pointer (some ⟨w.heap.size, 0, none⟩)) true ty).run Try.prog w1 = _ := fun ty => Lib.run_next_any_at w1 w.heap.size s 0 ty H1.out.2.2 h0
    have HR0 := Lib.hid hr0
    have HS0 := Lib.hid hs0
    clear hr0 hs0
    generalize hd : (Utf8.decode s 0).2 = d at hnx HS0 hd1
    generalize hr : (Utf8.decode s 0).1 = r at hnx HR0
    have HD := Lib.hid hd
    have HR := Lib.hid hr
    clear hd hr
    simp only [Nat.zero_add] at hnx
    refine wp_loop_rounds 2 ?_
    rw [rounds_succ]
    go_wp2
    refine rounds_abs (fun w2 => Blk w2 p 9 #[.string s] ∧ Blk w2 q 21 #[.int .i32 r] ∧ w2.heap[w.heap.size]? = some (.stringIter s d) ∧ Only (fun k => k = p ∨ k = q) w w2)
      ⟨(H1.out.1.iterAt npI _ _).far (by simpa using Ne.symm npq') _, (H1.out.2.1.iterAt nqI _ _).set_ 0 _, (Below.heap_setCell _ _ _ _ (Ne.symm nqI)).trans (Lib.iterAt_heap _ _ _ _ _ H1.out.2.2), (ho1.iterAt (.inr (Nat.le_refl _)) _ _).setCell (.inl (.inr rfl)) _⟩ ?_
    clear hnx c1 c2 f1 f2 j1 j2 j3 j4
    rintro w2 ⟨hp2, hq2, hi2, ho2⟩
    have c1 : w2.cell? ⟨p, 0, none⟩ = some (.string s) := hp2.cell 0
    have c2 : w2.cell? ⟨q, 0, none⟩ = some (.int .i32 r) := hq2.cell 0
    have f1 := hp2.frozen 0
    have f2 := hq2.frozen 0
    have H2 := Lib.hid (And.intro hp2 (And.intro hq2 hi2))
    clear hp2 hq2 hi2
    have j1 : ∀ x, (w2.iterAt w.heap.size s x).cell? ⟨p, 0, none⟩ = some (.string s) := fun x => (cell_iterAt w2 _ s x p 0 npI).trans c1
    have j2 : ∀ x, (w2.iterAt w.heap.size s x).cell? ⟨q, 0, none⟩ = some (.int .i32 r) := fun x => (cell_iterAt w2 _ s x q 0 nqI).trans c2
    have j3 : ∀ x, (w2.iterAt w.heap.size s x).frozen? ⟨p, 0, none⟩ = false := fun x => (frozen_iterAt w2 _ s x p 0 npI).trans f1
    have j4 : ∀ x, (w2.iterAt w.heap.size s x).frozen? ⟨q, 0, none⟩ = false := fun x => (frozen_iterAt w2 _ s x q 0 nqI).trans f2
    by_cases h1 : d < s.size
    · have hnx : ∀ ty, (Instr.next (.pointer (some ⟨w.heap.size, 0, none⟩)) true ty).run Try.prog w2 = _ := fun ty => Lib.run_next_any_at w2 w.heap.size s d ty H2.out.2.2 h1
      have hdp : (0 : Int) < d := by omega
      rw [rounds_succ]
      go_wp2
      go_ret
      refine ⟨ret_int HR0.out.symm, ?_, ?_, (ho2.iterAt (.inr (Nat.le_refl _)) _ _).setCell (.inl (.inl rfl)) _⟩
      · rw [HS0.out]; exact (H2.out.1.iterAt npI _ _).set_ 0 _
      · rw [HR0.out]; exact (H2.out.2.1.iterAt nqI _ _).far npq' _
    · have hnx : ∀ ty, (Instr.next (.pointer (some ⟨w.heap.size, 0, none⟩)) true ty).run Try.prog w2 = _ := fun ty => Lib.run_next_end_at w2 w.heap.size s d ty H2.out.2.2 h1
      rw [rounds_succ]
      go_wp2
      go_ret
      refine ⟨ret_int HR0.out.symm, ?_, ?_, ho2.setCell (.inl (.inl rfl)) _⟩
      · rw [HS0.out, extract_past s d s.size (by omega)]; exact H2.out.1.set_ 0 _
      · rw [HR0.out]; exact H2.out.2.1.far npq' _
  · have hl1 := str_eq s (by omega)
    have hnx : ∀ ty, (Instr.next (.pointer (some ⟨w.heap.size, 0, none⟩)) true ty).run Try.prog w1 = _ := fun ty => Lib.run_next_end_at w1 w.heap.size s 0 ty H1.out.2.2 h0
    refine wp_loop_rounds 1 ?_
    rw [rounds_succ]
    go_wp2
    go_ret
    have e0 : tookR s = 0 := by unfold tookR; rw [if_pos (by omega)]
    have e1 : tookS s = ⟨#[]⟩ := extract_past s _ s.size (by omega)
    refine ⟨ret_int e0.symm, ?_, ?_, (ho1.setCell (.inl (.inr rfl)) _).setCell (.inl (.inl rfl)) _⟩
    · rw [e1]; exact (H1.out.1.far (p := ⟨q, 0, none⟩) hpq _).set_ 0 _
    · rw [e0]; exact (H1.out.2.1.set_ 0 _).far npq' _
end Go.Proofs.Ytbjfbmienlojkaa

namespace Go.Proofs.Ytbjfbmienlojkaa
open Go.RowKit

set_option maxHeartbeats 400000 in
theorem at_any (p q : Nat) (s t : ByteArray) (w : World) (hp : w.cell? ⟨p, 0, none⟩ = some (.string s)) (hq : w.cell? ⟨q, 0, none⟩ = some (.string t)) (h1 : t.size ≤ s.size) (h2 : s.size ≤ 65536) :
    Calls Try.prog 53 #[.pointer (some ⟨p, 0, none⟩), .pointer (some ⟨q, 0, none⟩)] w fun e w' => e = .returned (.int .i64 (s.size - t.size)) ∧ w = w' := by
  go_enter Try.func53, Try.ntmps53
  go_wp2
  go_ret
  exact ⟨rfl, rfl⟩

end Go.Proofs.Ytbjfbmienlojkaa

namespace Go.Proofs.Ytbjfbmienlojkaa
open Go.RowKit

/-- what a reading comes to: lines and stanzas, or an error and its place -/
inductive Res where
  | ok (ls : List (Int × Int)) (st : List Int)
  | bad (e : Int) (at_ : Int)

def lettersB : ByteArray := ⟨#[97, 98, 99, 100, 101, 102, 103, 104, 105, 106, 107, 108, 109, 110, 111, 112, 113, 114, 115, 116, 117, 118, 119, 121, 122]⟩
def greatsB : ByteArray := ⟨#[65, 66, 67, 68, 69, 70, 71, 72, 73, 74, 75, 76, 77, 78, 79, 80, 81, 82, 83, 84, 85, 86, 87, 89, 90]⟩
def smallOf (r : Int) : Int := placeF lettersB.data.toList r 0
def greatOf (r : Int) : Int := placeF greatsB.data.toList r 0

/-- reading on from a place: bytes left, the place, lines of the stanza, what has been read -/
def rdF : List UInt8 → Nat → Nat → List (Int × Int) → List Int → Res
  | [], pos, n, ls, st => if 0 < n then .ok ls (st ++ [(n : Int)]) else .bad 160 pos
  | c :: t, pos, n, ls, st =>
    if c.toNat = 32 ∧ 0 < n then rdF t (pos + 1) 0 ls (st ++ [(n : Int)])
    else if c.toNat = 120 ∨ 0 ≤ smallOf c.toNat then
      if ls.length = 512 then .bad 3 pos else rdF t (pos + 1) (n + 1) (ls ++ [(smallOf c.toNat, 0)]) st
    else if 0 ≤ greatOf c.toNat then
      if ls.length = 512 then .bad 3 pos
      else match t with
        | [] => .bad 160 (pos + 1 : Nat)
        | d :: t' => if d.toNat < 49 ∨ 57 < d.toNat then .bad 160 (pos + 1 : Nat) else rdF t' (pos + 2) (n + 1) (ls ++ [(greatOf c.toNat, (d.toNat : Int) - 48)]) st
    else .bad 160 pos

/-- what is read of a text -/
def readF (s : ByteArray) : Res := if 65536 < s.size then .bad 3 65536 else if s.size = 0 then .ok [] [] else rdF s.data.toList 0 0 [] []

/-- the great case, behind its first letter -/
def grF (c : Int) (t : List UInt8) (pos n : Nat) (ls : List (Int × Int)) (st : List Int) : Res :=
  if ls.length = 512 then .bad 3 pos
  else match t with
    | [] => .bad 160 (pos + 1 : Nat)
    | d :: t' => if d.toNat < 49 ∨ 57 < d.toNat then .bad 160 (pos + 1 : Nat) else rdF t' (pos + 2) (n + 1) (ls ++ [(greatOf c, (d.toNat : Int) - 48)]) st

theorem rdF_cons (c : UInt8) (t : List UInt8) (pos n : Nat) (ls : List (Int × Int)) (st : List Int) : rdF (c :: t) pos n ls st =
    if c.toNat = 32 ∧ 0 < n then rdF t (pos + 1) 0 ls (st ++ [(n : Int)])
    else if c.toNat = 120 ∨ 0 ≤ smallOf c.toNat then (if ls.length = 512 then .bad 3 pos else rdF t (pos + 1) (n + 1) (ls ++ [(smallOf c.toNat, 0)]) st)
    else if 0 ≤ greatOf c.toNat then grF c.toNat t pos n ls st
    else .bad 160 pos := by
  cases t <;> simp only [rdF, grF]

/-- memory while Read runs -/
structure St (w0 : World) (s rest : ByteArray) (ls : List (Int × Int)) (st : List Int) (v1 v2 : Value) (r : Int) (w : World) : Prop where
  b0 : Blk w (w0.heap.size) 9 #[.string s]
  b1 : Blk w (w0.heap.size + 1) 26 #[.slice none 0 0, .slice none 0 0]
  b2 : Blk w (w0.heap.size + 1 + 1) 29 #[.int .i64 0, .int .i64 0]
  b3 : Blk w (w0.heap.size + 1 + 1 + 1) 26 #[v1, v2]
  b4 : Blk w (w0.heap.size + 1 + 1 + 1 + 1) 9 #[.string rest]
  b5 : Blk w (w0.heap.size + 1 + 1 + 1 + 1 + 1) 21 #[.int .i32 r]
  o1 : w.ownsRow (w0.heap.size + 6) 66 2 v1 ls.length (prs ls)
  o2 : w.ownsRow (w0.heap.size + 6) 3 1 v2 st.length (st.map (Value.int .i64))
  below : Below w0.heap.size w0 w

def J0 (w0 : World) (s : ByteArray) (top : Res) (m : Nat) (a : Act) (w : World) : Prop :=
  ∃ (pos : Nat) (n : Nat) (ls : List (Int × Int)) (st : List Int) (v1 v2 : Value) (r cls e : Int) (spot : Value), (St w0 s (s.extract pos s.size) ls st v1 v2 r w) ∧ (e = 160 ∧ m = 3 * (s.size - pos) + 2 ∧ top = rdF (s.data.toList.drop pos) pos 0 ls st) ∧ ls.length ≤ 512 ∧ st.length ≤ pos ∧ n ≤ pos ∧ pos ≤ s.size ∧
    ∃ f : Nat → Value, a = ⟨#[.string s, .pointer (some ⟨w0.heap.size, 0, none⟩), .pointer (some ⟨w0.heap.size + 1, 0, none⟩), .pointer (some ⟨w0.heap.size + 1 + 1, 0, none⟩), .pointer (some ⟨w0.heap.size + 1 + 1 + 1, 0, none⟩), .int .i64 e, .pointer (some ⟨w0.heap.size + 1 + 1 + 1 + 1, 0, none⟩), .int .i64 n, .int .i64 cls, .pointer (some ⟨w0.heap.size + 1 + 1 + 1 + 1 + 1, 0, none⟩), .func (.func 52) #[] #[.pointer (some ⟨w0.heap.size + 1 + 1 + 1 + 1, 0, none⟩), .pointer (some ⟨w0.heap.size + 1 + 1 + 1 + 1 + 1, 0, none⟩)], .func (.func 53) #[] #[.pointer (some ⟨w0.heap.size, 0, none⟩), .pointer (some ⟨w0.heap.size + 1 + 1 + 1 + 1, 0, none⟩)], spot, f 13, f 14, f 15, f 16, f 17, f 18, f 19, f 20, f 21, f 22, f 23, f 24, f 25, f 26, f 27, f 28, f 29, f 30, f 31, f 32, f 33, f 34, f 35, f 36, f 37, f 38, f 39, f 40, f 41, f 42, f 43, f 44, f 45, f 46, f 47, f 48, f 49, f 50, f 51, f 52, f 53, f 54, f 55, f 56, f 57, f 58, f 59, f 60, f 61, f 62, f 63, f 64, f 65, f 66, f 67, f 68, f 69, f 70, f 71, f 72, f 73, f 74, f 75, f 76, f 77, f 78, f 79, f 80, f 81, f 82, f 83, f 84, f 85, f 86, f 87, f 88, f 89, f 90, f 91, f 92, f 93, f 94, f 95, f 96, f 97, f 98, f 99, f 100, f 101, f 102, f 103, f 104, f 105, f 106, f 107, f 108, f 109, f 110, f 111, f 112, f 113, f 114], []⟩
def J1 (w0 : World) (s : ByteArray) (top : Res) (m : Nat) (a : Act) (w : World) : Prop :=
  ∃ (pos : Nat) (n : Nat) (ls : List (Int × Int)) (st : List Int) (v1 v2 : Value) (r cls e : Int) (spot : Value), (St w0 s (s.extract pos s.size) ls st v1 v2 r w) ∧ (e = 160 ∧ m = 3 * (s.size - pos) + 1 ∧ top = rdF (s.data.toList.drop pos) pos n ls st) ∧ ls.length ≤ 512 ∧ st.length ≤ pos ∧ n ≤ pos ∧ pos ≤ s.size ∧
    ∃ f : Nat → Value, a = ⟨#[.string s, .pointer (some ⟨w0.heap.size, 0, none⟩), .pointer (some ⟨w0.heap.size + 1, 0, none⟩), .pointer (some ⟨w0.heap.size + 1 + 1, 0, none⟩), .pointer (some ⟨w0.heap.size + 1 + 1 + 1, 0, none⟩), .int .i64 e, .pointer (some ⟨w0.heap.size + 1 + 1 + 1 + 1, 0, none⟩), .int .i64 n, .int .i64 cls, .pointer (some ⟨w0.heap.size + 1 + 1 + 1 + 1 + 1, 0, none⟩), .func (.func 52) #[] #[.pointer (some ⟨w0.heap.size + 1 + 1 + 1 + 1, 0, none⟩), .pointer (some ⟨w0.heap.size + 1 + 1 + 1 + 1 + 1, 0, none⟩)], .func (.func 53) #[] #[.pointer (some ⟨w0.heap.size, 0, none⟩), .pointer (some ⟨w0.heap.size + 1 + 1 + 1 + 1, 0, none⟩)], spot, f 13, f 14, f 15, f 16, f 17, f 18, f 19, f 20, f 21, f 22, f 23, f 24, f 25, f 26, f 27, f 28, f 29, f 30, f 31, f 32, f 33, f 34, f 35, f 36, f 37, f 38, f 39, f 40, f 41, f 42, f 43, f 44, f 45, f 46, f 47, f 48, f 49, f 50, f 51, f 52, f 53, f 54, f 55, f 56, f 57, f 58, f 59, f 60, f 61, f 62, f 63, f 64, f 65, f 66, f 67, f 68, f 69, f 70, f 71, f 72, f 73, f 74, f 75, f 76, f 77, f 78, f 79, f 80, f 81, f 82, f 83, f 84, f 85, f 86, f 87, f 88, f 89, f 90, f 91, f 92, f 93, f 94, f 95, f 96, f 97, f 98, f 99, f 100, f 101, f 102, f 103, f 104, f 105, f 106, f 107, f 108, f 109, f 110, f 111, f 112, f 113, f 114], []⟩
def J2 (w0 : World) (s : ByteArray) (top : Res) (m : Nat) (a : Act) (w : World) : Prop :=
  ∃ (pos : Nat) (n : Nat) (ls : List (Int × Int)) (st : List Int) (v1 v2 : Value) (r cls e : Int) (spot : Value), (St w0 s (s.extract pos s.size) ls st v1 v2 r w) ∧ (e = 160 ∧ pos = s.size ∧ spot = .int .i64 pos ∧ m = 0 ∧ top = rdF [] pos n ls st) ∧ ls.length ≤ 512 ∧ st.length ≤ pos ∧ n ≤ pos ∧ pos ≤ s.size ∧
    ∃ f : Nat → Value, a = ⟨#[.string s, .pointer (some ⟨w0.heap.size, 0, none⟩), .pointer (some ⟨w0.heap.size + 1, 0, none⟩), .pointer (some ⟨w0.heap.size + 1 + 1, 0, none⟩), .pointer (some ⟨w0.heap.size + 1 + 1 + 1, 0, none⟩), .int .i64 e, .pointer (some ⟨w0.heap.size + 1 + 1 + 1 + 1, 0, none⟩), .int .i64 n, .int .i64 cls, .pointer (some ⟨w0.heap.size + 1 + 1 + 1 + 1 + 1, 0, none⟩), .func (.func 52) #[] #[.pointer (some ⟨w0.heap.size + 1 + 1 + 1 + 1, 0, none⟩), .pointer (some ⟨w0.heap.size + 1 + 1 + 1 + 1 + 1, 0, none⟩)], .func (.func 53) #[] #[.pointer (some ⟨w0.heap.size, 0, none⟩), .pointer (some ⟨w0.heap.size + 1 + 1 + 1 + 1, 0, none⟩)], spot, f 13, f 14, f 15, f 16, f 17, f 18, f 19, f 20, f 21, f 22, f 23, f 24, f 25, f 26, f 27, f 28, f 29, f 30, f 31, f 32, f 33, f 34, f 35, f 36, f 37, f 38, f 39, f 40, f 41, f 42, f 43, f 44, f 45, f 46, f 47, f 48, f 49, f 50, f 51, f 52, f 53, f 54, f 55, f 56, f 57, f 58, f 59, f 60, f 61, f 62, f 63, f 64, f 65, f 66, f 67, f 68, f 69, f 70, f 71, f 72, f 73, f 74, f 75, f 76, f 77, f 78, f 79, f 80, f 81, f 82, f 83, f 84, f 85, f 86, f 87, f 88, f 89, f 90, f 91, f 92, f 93, f 94, f 95, f 96, f 97, f 98, f 99, f 100, f 101, f 102, f 103, f 104, f 105, f 106, f 107, f 108, f 109, f 110, f 111, f 112, f 113, f 114], []⟩
def J3 (w0 : World) (s : ByteArray) (top : Res) (m : Nat) (a : Act) (w : World) : Prop :=
  ∃ (pos : Nat) (n : Nat) (ls : List (Int × Int)) (st : List Int) (v1 v2 : Value) (r cls e : Int) (spot : Value), (St w0 s (s.extract pos s.size) ls st v1 v2 r w) ∧ (e = 160 ∧ m = 3 * (s.size - pos) + 2 ∧ ∃ p0, pos = p0 + 1 ∧ n ≤ p0 ∧ st.length ≤ p0 ∧ spot = .int .i64 p0 ∧ 0 ≤ greatOf r ∧ top = grF r (s.data.toList.drop pos) p0 n ls st) ∧ ls.length ≤ 512 ∧ st.length ≤ pos ∧ n ≤ pos ∧ pos ≤ s.size ∧
    ∃ f : Nat → Value, a = ⟨#[.string s, .pointer (some ⟨w0.heap.size, 0, none⟩), .pointer (some ⟨w0.heap.size + 1, 0, none⟩), .pointer (some ⟨w0.heap.size + 1 + 1, 0, none⟩), .pointer (some ⟨w0.heap.size + 1 + 1 + 1, 0, none⟩), .int .i64 e, .pointer (some ⟨w0.heap.size + 1 + 1 + 1 + 1, 0, none⟩), .int .i64 n, .int .i64 cls, .pointer (some ⟨w0.heap.size + 1 + 1 + 1 + 1 + 1, 0, none⟩), .func (.func 52) #[] #[.pointer (some ⟨w0.heap.size + 1 + 1 + 1 + 1, 0, none⟩), .pointer (some ⟨w0.heap.size + 1 + 1 + 1 + 1 + 1, 0, none⟩)], .func (.func 53) #[] #[.pointer (some ⟨w0.heap.size, 0, none⟩), .pointer (some ⟨w0.heap.size + 1 + 1 + 1 + 1, 0, none⟩)], spot, f 13, f 14, f 15, f 16, f 17, f 18, f 19, f 20, f 21, f 22, f 23, f 24, f 25, f 26, f 27, f 28, f 29, f 30, f 31, f 32, f 33, f 34, f 35, f 36, f 37, f 38, f 39, f 40, f 41, f 42, f 43, f 44, f 45, f 46, f 47, f 48, f 49, f 50, f 51, f 52, f 53, f 54, f 55, f 56, f 57, f 58, f 59, f 60, f 61, f 62, f 63, f 64, f 65, f 66, f 67, f 68, f 69, f 70, f 71, f 72, f 73, f 74, f 75, f 76, f 77, f 78, f 79, f 80, f 81, f 82, f 83, f 84, f 85, f 86, f 87, f 88, f 89, f 90, f 91, f 92, f 93, f 94, f 95, f 96, f 97, f 98, f 99, f 100, f 101, f 102, f 103, f 104, f 105, f 106, f 107, f 108, f 109, f 110, f 111, f 112, f 113, f 114], []⟩
def J4 (w0 : World) (s : ByteArray) (top : Res) (m : Nat) (a : Act) (w : World) : Prop :=
  ∃ (pos : Nat) (n : Nat) (ls : List (Int × Int)) (st : List Int) (v1 v2 : Value) (r cls e : Int) (spot : Value), (∃ rest : ByteArray, St w0 s (rest) ls st v1 v2 r w) ∧ (∃ sp : Int, spot = .int .i64 sp ∧ m = 0 ∧ top = .bad e sp) ∧ ls.length ≤ 512 ∧ st.length ≤ pos ∧ n ≤ pos ∧ pos ≤ s.size ∧
    ∃ f : Nat → Value, a = ⟨#[.string s, .pointer (some ⟨w0.heap.size, 0, none⟩), .pointer (some ⟨w0.heap.size + 1, 0, none⟩), .pointer (some ⟨w0.heap.size + 1 + 1, 0, none⟩), .pointer (some ⟨w0.heap.size + 1 + 1 + 1, 0, none⟩), .int .i64 e, .pointer (some ⟨w0.heap.size + 1 + 1 + 1 + 1, 0, none⟩), .int .i64 n, .int .i64 cls, .pointer (some ⟨w0.heap.size + 1 + 1 + 1 + 1 + 1, 0, none⟩), .func (.func 52) #[] #[.pointer (some ⟨w0.heap.size + 1 + 1 + 1 + 1, 0, none⟩), .pointer (some ⟨w0.heap.size + 1 + 1 + 1 + 1 + 1, 0, none⟩)], .func (.func 53) #[] #[.pointer (some ⟨w0.heap.size, 0, none⟩), .pointer (some ⟨w0.heap.size + 1 + 1 + 1 + 1, 0, none⟩)], spot, f 13, f 14, f 15, f 16, f 17, f 18, f 19, f 20, f 21, f 22, f 23, f 24, f 25, f 26, f 27, f 28, f 29, f 30, f 31, f 32, f 33, f 34, f 35, f 36, f 37, f 38, f 39, f 40, f 41, f 42, f 43, f 44, f 45, f 46, f 47, f 48, f 49, f 50, f 51, f 52, f 53, f 54, f 55, f 56, f 57, f 58, f 59, f 60, f 61, f 62, f 63, f 64, f 65, f 66, f 67, f 68, f 69, f 70, f 71, f 72, f 73, f 74, f 75, f 76, f 77, f 78, f 79, f 80, f 81, f 82, f 83, f 84, f 85, f 86, f 87, f 88, f 89, f 90, f 91, f 92, f 93, f 94, f 95, f 96, f 97, f 98, f 99, f 100, f 101, f 102, f 103, f 104, f 105, f 106, f 107, f 108, f 109, f 110, f 111, f 112, f 113, f 114], []⟩

theorem ex_frame {t : Array Value} {F : (Nat → Value) → Array Value} (h : t = F (fun i => t.getD i undef)) : ∃ f : Nat → Value, (⟨t, []⟩ : Act) = ⟨F f, []⟩ := ⟨_, congrArg (fun x => (⟨x, []⟩ : Act)) h⟩

theorem St.took {w0 : World} {s rest rest' : ByteArray} {ls : List (Int × Int)} {st : List Int} {v1 v2 : Value} {r r' : Int} {w w' : World} (h : St w0 s rest ls st v1 v2 r w)
    (hp : Blk w' (w0.heap.size + 1 + 1 + 1 + 1) 9 #[.string rest']) (hq : Blk w' (w0.heap.size + 1 + 1 + 1 + 1 + 1) 21 #[.int .i32 r'])
    (ho : Only (fun k => k = w0.heap.size + 1 + 1 + 1 + 1 ∨ k = w0.heap.size + 1 + 1 + 1 + 1 + 1) w w') : St w0 s rest' ls st v1 v2 r' w' := by
  have hs := h.b5.lt
  have own : ∀ {e : TypeId} {sz : Nat} {v : Value} {n : Nat} {xs : List Value}, w.ownsRow (w0.heap.size + 6) e sz v n xs → w'.ownsRow (w0.heap.size + 6) e sz v n xs := by
    intro e sz v n xs ho1
    refine ⟨ho1.1, ?_⟩
    rcases ho1.2 with h0 | ⟨g, cap, cur, hv, hb, hg, rest⟩
    · exact .inl h0
    · have hlt : g < w.heap.size := by
        rcases Nat.lt_or_ge g w.heap.size with hlt | hge
        · exact hlt
        · rw [Array.getElem?_eq_none hge] at hg; cases hg
      exact .inr ⟨g, cap, cur, hv, hb, (ho.block g hlt (by rintro (hh | hh) <;> omega)).trans hg, rest⟩
  exact ⟨h.b0.only ho (by rintro (hh | hh) <;> omega), h.b1.only ho (by rintro (hh | hh) <;> omega), h.b2.only ho (by rintro (hh | hh) <;> omega), h.b3.only ho (by rintro (hh | hh) <;> omega), hp, hq, own h.o1, own h.o2,
    h.below.trans (ho.below (by have := h.below.size; omega) (by rintro k hk (hh | hh) <;> omega))⟩
theorem St.on {w0 : World} {s rest : ByteArray} {ls : List (Int × Int)} {st : List Int} {v1 v2 : Value} {r : Int} {w w' : World} (h : St w0 s rest ls st v1 v2 r w) (hb : Below w.heap.size w w') : St w0 s rest ls st v1 v2 r w' := by
  have hs := h.b5.lt
  exact h.took (h.b4.below hb (by omega)) (h.b5.below hb (by omega)) (Only.of_below hb _)

theorem St.put {w0 : World} {s rest : ByteArray} {ls ls' : List (Int × Int)} {st st' : List Int} {v1 v2 v1' v2' : Value} {r : Int} {w w4 : World} (h : St w0 s rest ls st v1 v2 r w)
    (row : Option Nat) (hrow : ∀ k, row = some k → w0.heap.size + 6 ≤ k) (o : Obj) (hgrow : (w.alloc o).grownBy w4 row) (i : Nat) (u : Value) (hcs : #[v1, v2].setIfInBounds i u = #[v1', v2'])
    (h1 : w4.ownsRow (w0.heap.size + 6) 66 2 v1' ls'.length (prs ls')) (h2 : w4.ownsRow (w0.heap.size + 6) 3 1 v2' st'.length (st'.map (Value.int .i64))) :
    St w0 s rest ls' st' v1' v2' r (w4.setCell ⟨w0.heap.size + 1 + 1 + 1, i, none⟩ u) := by
  have hs := h.b5.lt
  have ho : Only (fun k => w0.heap.size + 6 ≤ k) w w4 := ((Only.refl _ w).alloc o).grown hgrow (fun k hk => .inl (hrow k hk))
  have hne : ∀ k, k < w0.heap.size + 6 → ¬ (fun k => w0.heap.size + 6 ≤ k) k := fun k hk => by simp; omega
  refine ⟨(h.b0.only ho (hne _ (by omega))).far (by simp; omega) _, (h.b1.only ho (hne _ (by omega))).far (by simp) _, (h.b2.only ho (hne _ (by omega))).far (by simp) _, ?_,
    (h.b4.only ho (hne _ (by omega))).far (by simp) _, (h.b5.only ho (hne _ (by omega))).far (by simp; omega) _, own_setCell h1 (by simp) _, own_setCell h2 (by simp) _,
    (h.below.trans (ho.below (by have := h.below.size; omega) (by intro k hk; simp; omega))).setCell (by simp; omega) _⟩
  have := (h.b3.only ho (hne _ (by omega))).set_ i u
  rw [hcs] at this
  exact this

theorem St.anyrest {w0 : World} {s rest : ByteArray} {ls : List (Int × Int)} {st : List Int} {v1 v2 : Value} {r : Int} {w : World} (h : St w0 s rest ls st v1 v2 r w) : ∃ rest : ByteArray, St w0 s rest ls st v1 v2 r w := ⟨_, h⟩

theorem St.mid {w0 : World} {s rest : ByteArray} {ls : List (Int × Int)} {st : List Int} {v1 v2 : Value} {r : Int} {w w4 : World} (h : St w0 s rest ls st v1 v2 r w)
    (row : Option Nat) (hrow : ∀ k, row = some k → w0.heap.size + 6 ≤ k) (o : Obj) (hgrow : (w.alloc o).grownBy w4 row) : Blk w4 (w0.heap.size + 1 + 1 + 1) 26 #[v1, v2] := by
  have hs := h.b5.lt
  have ho : Only (fun k => w0.heap.size + 6 ≤ k) w w4 := ((Only.refl _ w).alloc o).grown hgrow (fun k hk => .inl (hrow k hk))
  exact h.b3.only ho (by simp)

theorem placeF_none (l : List UInt8) (r : Int) (i : Nat) (h : ∀ c ∈ l, (c.toNat : Int) ≠ r) : placeF l r i = -1 := by
  induction l generalizing i with
  | nil => rfl
  | cons c t ih => rw [placeF, if_neg (h c (by simp)), ih _ (fun c hc => h c (by simp [hc]))]
theorem lettersB_ascii : ∀ c ∈ lettersB.data.toList, c.toNat < 128 := by decide
theorem greatsB_ascii : ∀ c ∈ greatsB.data.toList, c.toNat < 128 := by decide
theorem smallOf_high (r : Int) (h : 128 ≤ r) : smallOf r = -1 := placeF_none _ _ _ fun c hc => by have := lettersB_ascii c hc; omega
theorem greatOf_high (r : Int) (h : 128 ≤ r) : greatOf r = -1 := placeF_none _ _ _ fun c hc => by have := greatsB_ascii c hc; omega

theorem took_at (s : ByteArray) (pos : Nat) (h : pos < s.size) :
    (tookR (s.extract pos s.size) = (s[pos]'h).toNat ∧ tookS (s.extract pos s.size) = s.extract (pos + 1) s.size) ∨ (128 ≤ tookR (s.extract pos s.size) ∧ 128 ≤ (s[pos]'h).toNat) := by
  have hz : 0 < (s.extract pos s.size).size := by simp; omega
  have hg : (s.extract pos s.size)[0] = s[pos]'h := by simp [ByteArray.getElem_extract]
  by_cases ha : (s[pos]'h).toNat < 128
  · left
    have hd := decode_ascii (s.extract pos s.size) 0 hz (by rw [hg]; exact ha)
    constructor
    · unfold tookR; rw [if_neg (by omega), hd, hg]
    · unfold tookS; rw [hd]; simp only [ByteArray.size_extract, Nat.min_self, ByteArray.extract_extract]; rw [show min (pos + (s.size - pos)) s.size = s.size by omega]
  · right
    refine ⟨?_, by omega⟩
    have := (decode_high (s.extract pos s.size) 0 hz (by rw [hg]; omega)).1
    unfold tookR; rw [if_neg (by omega)]; omega

def JJ (w0 : World) (s : ByteArray) (top : Res) : Nat → Nat → Act → World → Prop
  | 0 => J0 w0 s top
  | 1 => J1 w0 s top
  | 2 => J2 w0 s top
  | 3 => J3 w0 s top
  | 4 => J4 w0 s top
  | _ => fun _ _ _ => False

end Go.Proofs.Ytbjfbmienlojkaa
