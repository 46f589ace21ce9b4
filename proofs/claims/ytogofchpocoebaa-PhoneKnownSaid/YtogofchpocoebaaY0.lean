/- Syllables: what they are; whether they may be (no program in sight).
   The tail syllable; tails, heads (no program in sight). -/
import Derived.Test.YtogofchpocoebaaP5
import Derived.Test.YtogofchpocoebaaQ5
namespace Go.Proofs.Ytogofchpocoebaa
open Go.RowKit

/-- a syllable: where it begins, its vowel, where it ends, its stress, heavy? -/
abbrev Sy := Int × Int × Int × Int × Bool
def Sy.fr (s : Sy) : Int := s.1
def Sy.nu (s : Sy) : Int := s.2.1
def Sy.to_ (s : Sy) : Int := s.2.2.1
def Sy.st (s : Sy) : Int := s.2.2.2.1
def Sy.hv (s : Sy) : Bool := s.2.2.2.2
def syC (s : Sy) : List Value := [.int .i64 s.fr, .int .i64 s.nu, .int .i64 s.to_, .int .i64 s.st, .bool s.hv]
theorem syC_len (s : Sy) : (syC s).length = 5 := rfl
def sys (l : List Sy) : List Value := l.flatMap syC
theorem sys_len (l : List Sy) : (sys l).length = l.length * 5 := flat_len syC 5 syC_len l
theorem sys_append (a b : List Sy) : sys (a ++ b) = sys a ++ sys b := by simp [sys]
theorem sys_one (l : List Sy) : ∀ u ∈ sys l, u.oneCell' = true := by
  intro u hu
  obtain ⟨p, _, hp⟩ := List.mem_flatMap.1 hu
  simp [syC] at hp
  rcases hp with rfl | rfl | rfl | rfl | rfl <;> rfl
theorem Rd.sy {w : World} {L B n : Nat} {A : Option Addr} {l : List Sy} (h : Rd w L B 5 A n (sys l)) {k : Nat} (hk : k < n) :
    ∃ b o, ∃ hl : k < l.length, A = some ⟨b, o, none⟩ ∧ L ≤ b ∧ b < B ∧ w.cell? ⟨b, o + k * 5, none⟩ = some (.int .i64 l[k].fr) ∧ w.cell? ⟨b, o + k * 5 + 1, none⟩ = some (.int .i64 l[k].nu) ∧ w.cell? ⟨b, o + k * 5 + 2, none⟩ = some (.int .i64 l[k].to_) ∧
      w.cell? ⟨b, o + k * 5 + 3, none⟩ = some (.int .i64 l[k].st) ∧ w.cell? ⟨b, o + k * 5 + 4, none⟩ = some (.bool l[k].hv) := by
  obtain ⟨b, o, hl, e, h1, h2, hc⟩ := Rd.flat syC_len (by omega) h hk
  exact ⟨b, o, hl, e, h1, h2, hc 0 _ rfl, hc 1 _ rfl, hc 2 _ rfl, hc 3 _ rfl, hc 4 _ rfl⟩
theorem Rd.len_sy {w : World} {L B n : Nat} {A : Option Addr} {l : List Sy} (h : Rd w L B 5 A n (sys l)) : l.length = n := by have := h.1; rw [sys_len] at this; omega

def ph0 : Ph := (0, false, 0)
def vowF (p : Ph) : Bool := (traits p.1).vow
theorem son_vow {p : Ph} (h : isF p = true) : (sonF p == 7) = vowF p := by
  unfold sonF vowF
  rw [h, if_pos rfl]
  have := traits_ok' p.1
  cases (traits p.1).vow with
  | true => rfl
  | false =>
    rw [if_neg (by decide)]
    have h2 : (traits p.1).mnr + 1 ≠ 7 := by omega
    simpa using h2
/-- is a syllable heavy? -/
def heavyF (l : List Ph) (s : Sy) : Bool := (l.getD s.nu.toNat ph0).2.1 || (l.getD s.nu.toNat ph0).2.2 != 0 || decide (s.nu + 1 < s.to_)
/-- among n phones from place k on, is one a vowel that should be none, or none that should be one? -/
def vbad (l : List Ph) (nu : Nat) : Nat → Nat → Bool
  | _, 0 => false
  | k, n + 1 => (vowF (l.getD k ph0) != decide (k = nu)) || vbad l nu (k + 1) n
/-- what is wrong with a syllable that is to begin at a place -/
def oneF (l : List Ph) (s : Sy) (f : Nat) : Int :=
  if s.fr ≠ f ∨ s.nu < s.fr ∨ s.to_ ≤ s.nu ∨ l.length < s.to_ then 2
  else if vbad l s.nu.toNat f (s.to_.toNat - f) then 110
  else if s.hv ≠ heavyF l s ∨ s.st < 0 ∨ 2 < s.st then 2 else 0
def mayGo (l : List Ph) : List Sy → Nat → Int
  | [], f => if f = l.length then 0 else 2
  | s :: r, f => if oneF l s f = 0 then mayGo l r s.to_.toNat else oneF l s f
/-- may these be syllables of a row? -/
def mayF (l : List Ph) (ss : List Sy) : Int := if 128 < l.length ∨ 64 < ss.length then 3 else if l.all isF then if ss = [] then 110 else mayGo l ss 0 else 2
theorem one_ok {l : List Ph} {s : Sy} {f : Nat} (h : oneF l s f = 0) : s.fr = f ∧ s.fr ≤ s.nu ∧ s.nu < s.to_ ∧ s.to_ ≤ l.length ∧ vbad l s.nu.toNat f (s.to_.toNat - f) = false ∧ s.hv = heavyF l s ∧ 0 ≤ s.st ∧ s.st ≤ 2 := by
  unfold oneF at h
  split at h
  · cases h
  · split at h
    · cases h
    · split at h
      · cases h
      · rename_i h1 h2 h3
        refine ⟨by omega, by omega, by omega, by omega, by simpa using h2, Classical.byContradiction fun hne => h3 (.inl hne), by omega, by omega⟩
end Go.Proofs.Ytogofchpocoebaa

namespace Go.Proofs.Ytogofchpocoebaa

def sy0 : Sy := (0, 0, 0, 0, false)
/-- the last of the first k syllables with a stress -/
def lastAt (ss : List Sy) (v : Int) : Nat → Option Nat
  | 0 => none
  | k + 1 => if (ss.getD k sy0).st = v then some k else lastAt ss v k
def lastF (ss : List Sy) : Nat := match lastAt ss 2 ss.length with | some i => i | none => match lastAt ss 1 ss.length with | some i => i | none => ss.length - 1
theorem lastAt_lt {ss : List Sy} {v : Int} : ∀ {k i : Nat}, lastAt ss v k = some i → i < k := by
  intro k
  induction k with
  | zero => intro i h; cases h
  | succ k ih =>
    intro i h
    unfold lastAt at h
    split at h
    · injection h with h; omega
    · have := ih h; omega
theorem lastF_lt {ss : List Sy} (h : 0 < ss.length) : lastF ss < ss.length := by
  unfold lastF
  split
  · rename_i i hi; exact lastAt_lt hi
  · split
    · rename_i i hi; exact lastAt_lt hi
    · omega
/-- the reference's way: its place and its best stress behind k syllables -/
def topGo (ss : List Sy) : Nat → Int × Int
  | 0 => (-1, -1)
  | k + 1 => if (topGo ss k).2 ≤ (ss.getD k sy0).st then ((k : Int), (ss.getD k sy0).st) else topGo ss k
def stOk (ss : List Sy) : Prop := ∀ s ∈ ss, 0 ≤ s.st ∧ s.st ≤ 2
theorem topGo_is {ss : List Sy} (hs : stOk ss) : ∀ k, 0 < k → k ≤ ss.length → ((topGo ss k).2 = 2 ∧ ∃ i, lastAt ss 2 k = some i ∧ (topGo ss k).1 = i) ∨ ((topGo ss k).2 = 1 ∧ lastAt ss 2 k = none ∧ ∃ i, lastAt ss 1 k = some i ∧ (topGo ss k).1 = i) ∨ ((topGo ss k).2 = 0 ∧ lastAt ss 2 k = none ∧ lastAt ss 1 k = none ∧ (topGo ss k).1 = (k : Int) - 1) := by
  intro k
  induction k with
  | zero => intro h; omega
  | succ k ih =>
    intro _ hk
    have hm : ss.getD k sy0 ∈ ss := by
      rw [List.getD_eq_getElem?_getD, List.getElem?_eq_getElem (by omega)]
      exact List.getElem_mem _
    obtain ⟨h0, h2⟩ := hs _ hm
    unfold topGo lastAt
    generalize (ss.getD k sy0).st = st at *
    have hst : st = 0 ∨ st = 1 ∨ st = 2 := by omega
    rcases Nat.eq_zero_or_pos k with rfl | hk0
    · have e : (topGo ss 0) = (-1, -1) := rfl
      rw [e]
      rcases hst with rfl | rfl | rfl
      · right; right; simp [lastAt]
      · right; left; simp [lastAt]
      · left; simp
    · rcases ih hk0 (by omega) with ⟨a1, i, a2, a3⟩ | ⟨a1, a2, i, a3, a4⟩ | ⟨a1, a2, a3, a4⟩
      · rcases hst with rfl | rfl | rfl
        · rw [if_neg (by omega), if_neg (by decide)]; exact .inl ⟨a1, i, a2, a3⟩
        · rw [if_neg (by omega), if_neg (by decide)]; exact .inl ⟨a1, i, a2, a3⟩
        · rw [if_pos (by omega), if_pos rfl]; exact .inl ⟨rfl, k, rfl, rfl⟩
      · rcases hst with rfl | rfl | rfl
        · rw [if_neg (by omega), if_neg (by decide), if_neg (by decide)]; exact .inr (.inl ⟨a1, a2, i, a3, a4⟩)
        · rw [if_pos (by omega), if_neg (by decide), if_pos rfl]; exact .inr (.inl ⟨rfl, a2, k, rfl, rfl⟩)
        · rw [if_pos (by omega), if_pos rfl]; exact .inl ⟨rfl, k, rfl, rfl⟩
      · rcases hst with rfl | rfl | rfl
        · rw [if_pos (by omega), if_neg (by decide), if_neg (by decide)]; exact .inr (.inr ⟨rfl, a2, a3, by simp⟩)
        · rw [if_pos (by omega), if_neg (by decide), if_pos rfl]; exact .inr (.inl ⟨rfl, a2, k, rfl, rfl⟩)
        · rw [if_pos (by omega), if_pos rfl]; exact .inl ⟨rfl, k, rfl, rfl⟩
theorem top_last {ss : List Sy} (hs : stOk ss) (h : 0 < ss.length) : (topGo ss ss.length).1 = (lastF ss : Int) := by
  unfold lastF
  rcases topGo_is hs ss.length h (Nat.le_refl _) with ⟨a1, i, a2, a3⟩ | ⟨a1, a2, i, a3, a4⟩ | ⟨a1, a2, a3, a4⟩
  · rw [a2]; exact a3
  · rw [a2, a3]; exact a4
  · rw [a2, a3, a4]; simp only; omega
/-- forms that may be: what is known of them -/
structure Form (l : List Ph) (ss : List Sy) : Prop where
  n128 : l.length ≤ 128
  m64 : ss.length ≤ 64
  all : l.all isF = true
  pos : 0 < ss.length
  ok : stOk ss
  nuc : ∀ s ∈ ss, 0 ≤ s.fr ∧ s.fr ≤ s.nu ∧ s.nu < s.to_ ∧ s.to_ ≤ l.length
theorem mayGo_all {l : List Ph} : ∀ {ss : List Sy} {f : Nat}, mayGo l ss f = 0 → stOk ss ∧ ∀ s ∈ ss, 0 ≤ s.fr ∧ s.fr ≤ s.nu ∧ s.nu < s.to_ ∧ s.to_ ≤ l.length := by
  intro ss
  induction ss with
  | nil => intro f _; exact ⟨fun s h => by simp at h, fun s h => by simp at h⟩
  | cons s r ih =>
    intro f h
    unfold mayGo at h
    split at h
    · rename_i he
      obtain ⟨q1, q2, q3, q4, _, _, q5, q6⟩ := one_ok he
      obtain ⟨i1, i2⟩ := ih h
      refine ⟨fun x hx => ?_, fun x hx => ?_⟩
      · rcases List.mem_cons.1 hx with rfl | hx
        · exact ⟨q5, q6⟩
        · exact i1 x hx
      · rcases List.mem_cons.1 hx with rfl | hx
        · exact ⟨by omega, q2, q3, q4⟩
        · exact i2 x hx
    · rename_i he
      exact absurd h he
theorem form_of {l : List Ph} {ss : List Sy} (h : mayF l ss = 0) : Form l ss := by
  unfold mayF at h
  split at h
  · cases h
  · split at h
    · split at h
      · cases h
      · rename_i h1 h2 h3
        obtain ⟨i1, i2⟩ := mayGo_all h
        exact ⟨by omega, by omega, h2, List.length_pos_iff.2 h3, i1, i2⟩
    · cases h
/-- the tail's syllable, the tail, the head -/
def lastS (ss : List Sy) : Sy := ss.getD (lastF ss) sy0
def tailF (l : List Ph) (ss : List Sy) : List Ph := l.drop (lastS ss).nu.toNat
def headF (l : List Ph) (ss : List Sy) : List Ph := (l.drop (lastS ss).fr.toNat).take ((lastS ss).nu.toNat - (lastS ss).fr.toNat)
theorem lastS_mem {ss : List Sy} (h : 0 < ss.length) : lastS ss ∈ ss := by
  unfold lastS
  rw [List.getD_eq_getElem?_getD, List.getElem?_eq_getElem (lastF_lt h)]
  exact List.getElem_mem _
theorem Form.last {l : List Ph} {ss : List Sy} (h : Form l ss) : 0 ≤ (lastS ss).fr ∧ (lastS ss).fr ≤ (lastS ss).nu ∧ (lastS ss).nu < (lastS ss).to_ ∧ (lastS ss).to_ ≤ l.length := h.nuc _ (lastS_mem h.pos)
end Go.Proofs.Ytogofchpocoebaa
