/- Onsets; a row parted into syllables (no program in sight).
   Syllables in texts: signs; what is read (no program in sight).
   The syllables of a row, laid one behind another; heavy ones marked; stresses (no program in sight).
   A row's syllables may be (no program in sight). -/
import Derived.Test.YtogofchpocoebaaY0
import Derived.Test.YtogofchpocoebaaP5
namespace Go.Proofs.Ytogofchpocoebaa

/-- a phone that may stand in an onset of n phones -/
def onOne (n : Nat) (p : Ph) : Bool := isF p && !vowF p && p.1 != 331 && !(decide (1 < n) && p.2.1)
def pairs8 : List Int := [112, 116, 107, 109, 110, 102, 108, 119]
def pairs3 : List Int := [112, 116, 107]
def pairs4 : List Int := [108, 114, 106, 119]
def onShape : List Ph → Bool
  | [] => true
  | [_] => true
  | [p, q] => decide (2 ≤ sonF q - sonF p) || (p.1 == 115 && pairs8.contains q.1)
  | [p, q, r] => p.1 == 115 && pairs3.contains q.1 && pairs4.contains r.1
  | _ => false
def onsetF (l : List Ph) : Bool := l.all (onOne l.length) && onShape l
theorem onset_long {l : List Ph} (h : 3 < l.length) : onsetF l = false := by
  unfold onsetF
  match l, h with
  | a :: b :: c :: d :: r, _ => simp [onShape]
theorem onset_nil : onsetF [] = true := rfl
theorem son_zero (p : Ph) : (sonF p == 0) = !isF p := by
  unfold sonF
  cases h : isF p with
  | false => rfl
  | true =>
    rw [if_pos rfl]
    have := traits_ok' p.1
    cases (traits p.1).vow with
    | true => rfl
    | false =>
      rw [if_neg (by decide)]
      have h2 : (traits p.1).mnr + 1 ≠ 0 := by omega
      simpa using h2
theorem son_bad (p : Ph) : (sonF p == 0 || sonF p == 7) = !(isF p && !vowF p) := by
  rw [son_zero]
  cases h : isF p with
  | false => rfl
  | true => rw [son_vow h]; cases vowF p <;> rfl
theorem son_le (p : Ph) : 0 ≤ sonF p ∧ sonF p ≤ 7 := by
  unfold sonF
  have := traits_ok' p.1
  split
  · split <;> omega
  · omega

/-- the phones from i up to b -/
def cutL (l : List Ph) (i b : Nat) : List Ph := (l.drop i).take (b - i)
theorem cut_len {l : List Ph} {i b : Nat} (hb : b ≤ l.length) : (cutL l i b).length = b - i := by
  unfold cutL
  rw [List.length_take, List.length_drop]
  omega
/-- the least place among the n below b, or b itself, from which there is an onset up to b -/
def bordD (l : List Ph) (b : Nat) : Nat → Nat
  | 0 => b
  | n + 1 => if onsetF (cutL l (b - n) b) then b - n else bordD l b n
theorem bord_short {l : List Ph} {b : Nat} (hb : b ≤ l.length) : ∀ {n : Nat}, 4 ≤ n → n ≤ b → bordD l b n = bordD l b 4 := by
  intro n
  induction n with
  | zero => intro h; omega
  | succ n ih =>
    intro h h2
    rcases Nat.lt_or_ge n 4 with h4 | h4
    · rw [show n = 3 by omega]
    · unfold bordD
      rw [onset_long (by rw [cut_len hb]; omega), if_neg (by decide)]
      exact ih h4 (by omega)
theorem bord_one (l : List Ph) (b : Nat) : bordD l b 1 = b := by
  unfold bordD
  split
  · rfl
  · rfl
theorem bord_le (l : List Ph) (b : Nat) : ∀ n, bordD l b n ≤ b ∧ b ≤ bordD l b n + n := by
  intro n
  induction n with
  | zero => unfold bordD; omega
  | succ n ih =>
    unfold bordD
    split
    · omega
    · omega
theorem bord_on (l : List Ph) (b : Nat) : ∀ n, onsetF (cutL l (bordD l b n) b) = true := by
  intro n
  induction n with
  | zero => unfold bordD cutL; rw [Nat.sub_self, List.take_zero]; rfl
  | succ n ih =>
    unfold bordD
    split
    · assumption
    · exact ih
theorem bord_least (l : List Ph) (b : Nat) : ∀ n i, b < i + n → i < bordD l b n → onsetF (cutL l i b) = false := by
  intro n
  induction n with
  | zero => intro i h1 h2; have := bord_le l b 0; omega
  | succ n ih =>
    intro i h1 h2
    unfold bordD at h2
    split at h2
    · omega
    · rename_i hn
      by_cases e : i = b - n
      · subst e
        simpa using hn
      · exact ih i (by omega) h2
/-- where the syllable of the vowel b begins, behind the vowel a -/
def bordF (l : List Ph) (a b : Nat) : Nat := bordD l b (b - a)
theorem bordF_in {l : List Ph} {a b : Nat} (h : a < b) : a < bordF l a b ∧ bordF l a b ≤ b := by
  unfold bordF
  have h1 := bord_le l b (b - a)
  refine ⟨?_, h1.1⟩
  obtain ⟨n, hn⟩ : ∃ n, b - a = n + 1 := ⟨b - a - 1, by omega⟩
  rw [hn] at h1 ⊢
  have h2 : ∀ n, b ≤ bordD l b (n + 1) + n := by
    intro n
    induction n with
    | zero => rw [bord_one]; omega
    | succ n ih =>
      unfold bordD
      split
      · omega
      · omega
  have := h2 n
  omega
/-- the places of the vowels among the first k phones -/
def nucs (l : List Ph) : Nat → List Nat
  | 0 => []
  | k + 1 => nucs l k ++ (if vowF (l.getD k ph0) then [k] else [])
theorem nucs_lt {l : List Ph} : ∀ {k x : Nat}, x ∈ nucs l k → x < k ∧ vowF (l.getD x ph0) = true := by
  intro k
  induction k with
  | zero => intro x h; simp [nucs] at h
  | succ k ih =>
    intro x h
    unfold nucs at h
    rcases List.mem_append.1 h with h | h
    · have := ih h; exact ⟨by omega, this.2⟩
    · split at h
      · rename_i hv
        have : x = k := by simpa using h
        subst this
        exact ⟨by omega, hv⟩
      · simp at h
theorem nucs_len_le (l : List Ph) : ∀ k, (nucs l k).length ≤ k := by
  intro k
  induction k with
  | zero => simp [nucs]
  | succ k ih =>
    unfold nucs
    rw [List.length_append]
    split
    · simp; omega
    · simp; omega
/-- the vowels' places rise -/
theorem nucs_rise {l : List Ph} : ∀ {k i j : Nat}, i < j → j < (nucs l k).length → (nucs l k).getD i 0 < (nucs l k).getD j 0 := by
  intro k
  induction k with
  | zero => intro i j _ h; simp [nucs] at h
  | succ k ih =>
    intro i j hij hj
    unfold nucs at hj ⊢
    split at hj
    · rename_i hv
      rw [if_pos hv]
      simp only [List.length_append, List.length_cons, List.length_nil] at hj
      have hi : i < (nucs l k).length := by omega
      rw [show (nucs l k ++ [k]).getD i 0 = (nucs l k).getD i 0 from by rw [List.getD_eq_getElem?_getD, List.getD_eq_getElem?_getD, List.getElem?_append_left hi]]
      rcases Nat.lt_or_ge j (nucs l k).length with h | h
      · rw [show (nucs l k ++ [k]).getD j 0 = (nucs l k).getD j 0 from by rw [List.getD_eq_getElem?_getD, List.getD_eq_getElem?_getD, List.getElem?_append_left h]]
        exact ih hij h
      · have e : j = (nucs l k).length := by omega
        subst e
        rw [show (nucs l k ++ [k]).getD (nucs l k).length 0 = k from by rw [List.getD_eq_getElem?_getD, List.getElem?_append_right (Nat.le_refl _)]; simp]
        have : (nucs l k).getD i 0 ∈ nucs l k := by rw [List.getD_eq_getElem?_getD, List.getElem?_eq_getElem hi]; exact List.getElem_mem _
        exact (nucs_lt this).1
    · rename_i hv
      rw [if_neg hv, List.append_nil]
      rw [List.append_nil] at hj
      exact ih hij hj
/-- where syllable k begins, where it ends (e: where the last one does) -/
def frK (l : List Ph) (ns : List Nat) (k : Nat) : Nat := if k = 0 then 0 else bordF l (ns.getD (k - 1) 0) (ns.getD k 0)
def toK (l : List Ph) (ns : List Nat) (e k : Nat) : Nat := if k + 1 < ns.length then frK l ns (k + 1) else e
def sylK (l : List Ph) (ns : List Nat) (e : Nat) (hv : Sy → Bool) (k : Nat) : Sy :=
  ((frK l ns k : Int), (ns.getD k 0 : Int), (toK l ns e k : Int), 0, hv ((frK l ns k : Int), (ns.getD k 0 : Int), (toK l ns e k : Int), 0, false))
def sylL (l : List Ph) (ns : List Nat) (e : Nat) (hv : Sy → Bool) : List Sy := (List.range ns.length).map (sylK l ns e hv)
theorem sylL_len (l : List Ph) (ns : List Nat) (e : Nat) (hv : Sy → Bool) : (sylL l ns e hv).length = ns.length := by simp [sylL]
theorem sylL_at {l : List Ph} {ns : List Nat} {e : Nat} {hv : Sy → Bool} {k : Nat} (h : k < ns.length) : (sylL l ns e hv)[k]? = some (sylK l ns e hv k) := by
  unfold sylL
  rw [List.getElem?_map, List.getElem?_range h]
  rfl
/-- what is wrong with a row that is to be parted -/
def spE (l : List Ph) : Int := if 128 < l.length then 3 else if l.all isF then if nucs l l.length = [] then 110 else if 64 < (nucs l l.length).length then 3 else 0 else 2
def spL (l : List Ph) : List Sy := if spE l = 0 then sylL l (nucs l l.length) l.length (heavyF l) else []
end Go.Proofs.Ytogofchpocoebaa

namespace Go.Proofs.Ytogofchpocoebaa

/-- the sign with which bytes begin: its stress, and how many bytes it has -/
def signL : List UInt8 → Int × Nat
  | [] => (0, 0)
  | [a] => if a = 46 then (0, 1) else (0, 0)
  | a :: b :: _ => if a = 46 then (0, 1) else if a = 203 ∧ b = 136 then (2, 2) else if a = 203 ∧ b = 140 then (1, 2) else (0, 0)
theorem sign_one (a : UInt8) : signL [a] = if a = 46 then (0, 1) else (0, 0) := rfl
theorem sign_two (a b : UInt8) (r : List UInt8) : signL (a :: b :: r) = if a = 46 then (0, 1) else if a = 203 ∧ b = 136 then (2, 2) else if a = 203 ∧ b = 140 then (1, 2) else (0, 0) := rfl
theorem sign_le (l : List UInt8) : (signL l).2 ≤ l.length ∧ (signL l).2 ≤ 2 := by
  match l with
  | [] => simp [signL]
  | [a] => rw [sign_one]; split <;> simp
  | a :: b :: r =>
    rw [sign_two]
    split
    · simp
    · split
      · simp
      · split <;> simp
theorem sign_st (l : List UInt8) : 0 ≤ (signL l).1 ∧ (signL l).1 ≤ 2 := by
  match l with
  | [] => simp [signL]
  | [a] => rw [sign_one]; split <;> simp
  | a :: b :: r =>
    rw [sign_two]
    split
    · simp
    · split
      · simp
      · split <;> simp
/-- by the rune with which bytes begin -/
theorem sign_rune (l : List UInt8) (h : l ≠ []) :
    ((Utf8.decode (bts l) 0).1 = 46 ∧ signL l = (0, 1)) ∨ ((Utf8.decode (bts l) 0).1 = 712 ∧ signL l = (2, 2)) ∨ ((Utf8.decode (bts l) 0).1 = 716 ∧ signL l = (1, 2)) ∨
      ((Utf8.decode (bts l) 0).1 ≠ 46 ∧ (Utf8.decode (bts l) 0).1 ≠ 712 ∧ (Utf8.decode (bts l) 0).1 ≠ 716 ∧ signL l = (0, 0)) := by
  have e1 : encL 46 = [46] := by decide +kernel
  have e2 : encL 712 = [203, 136] := by decide +kernel
  have e3 : encL 716 = [203, 140] := by decide +kernel
  by_cases h1 : (Utf8.decode (bts l) 0).1 = 46
  · obtain ⟨⟨t, ht⟩, _⟩ := dec_small l h (by omega)
    rw [h1] at ht
    have ht : encL 46 ++ t = l := ht
    rw [e1] at ht
    refine .inl ⟨h1, ?_⟩
    subst ht
    cases t <;> rfl
  · by_cases h2 : (Utf8.decode (bts l) 0).1 = 712
    · obtain ⟨⟨t, ht⟩, _⟩ := dec_small l h (by omega)
      rw [h2] at ht
      have ht : encL 712 ++ t = l := ht
      rw [e2] at ht
      refine .inr (.inl ⟨h2, ?_⟩)
      subst ht
      rfl
    · by_cases h3 : (Utf8.decode (bts l) 0).1 = 716
      · obtain ⟨⟨t, ht⟩, _⟩ := dec_small l h (by omega)
        rw [h3] at ht
        have ht : encL 716 ++ t = l := ht
        rw [e3] at ht
        refine .inr (.inr (.inl ⟨h3, ?_⟩))
        subst ht
        rfl
      · refine .inr (.inr (.inr ⟨h1, h2, h3, ?_⟩))
        match l with
        | [] => rfl
        | [a] =>
          rw [sign_one]
          rw [if_neg]
          rintro rfl
          exact h1 (by rw [(pre_dec [46] 46 (by decide) (by decide) (by rw [e1]; exact List.prefix_refl _)).1]; rfl)
        | a :: b :: r =>
          rw [sign_two]
          rw [if_neg, if_neg, if_neg]
          · rintro ⟨rfl, rfl⟩
            exact h3 (by rw [(pre_dec (203 :: 140 :: r) 716 (by decide) (by decide) (by rw [e3]; exact ⟨r, rfl⟩)).1]; rfl)
          · rintro ⟨rfl, rfl⟩
            exact h2 (by rw [(pre_dec (203 :: 136 :: r) 712 (by decide) (by decide) (by rw [e2]; exact ⟨r, rfl⟩)).1]; rfl)
          · rintro rfl
            exact h1 (by rw [(pre_dec (46 :: b :: r) 46 (by decide) (by decide) (by rw [e1]; exact ⟨b :: r, rfl⟩)).1]; rfl)

/-- a syllable, ended -/
def shutS (ps : List Ph) (fr nu st : Int) : Sy := (fr, nu, (ps.length : Int), st, heavyF ps (fr, nu, (ps.length : Int), st, false))
/-- what is read from a place on: phones, syllables, the error, its place -/
def srGo (l : List UInt8) : Nat → Nat → List Ph → List Sy → Int → Int → Int → Nat → Bool → List Ph × List Sy × Int × Int
  | 0, at_, _, _, _, _, _, _, _ => ([], [], 110, (at_ : Int))
  | f + 1, at_, ps, out, fr, nu, st, vs, sg =>
    if at_ < l.length then
      if 0 < (signL (l.drop at_)).2 then
        if at_ = 0 ∧ (signL (l.drop at_)).2 = 1 ∨ sg = true then ([], [], 111, (at_ : Int))
        else if 0 < at_ ∧ nu < 0 then ([], [], 110, (at_ : Int))
        else if at_ + (signL (l.drop at_)).2 = l.length then ([], [], 111, (at_ : Int))
        else srGo l f (at_ + (signL (l.drop at_)).2) ps (if 0 < at_ then out ++ [shutS ps fr nu st] else out) (ps.length : Int) (-1) (signL (l.drop at_)).1 vs true
      else if (nextL (l.drop at_)).2 = 0 then ([], [], 80, (at_ : Int))
      else if ps.length = 128 then ([], [], 3, (at_ : Int))
      else if vowF (nextL (l.drop at_)).1 then
        if 0 ≤ nu then ([], [], 110, (at_ : Int)) else if vs = 64 then ([], [], 3, (at_ : Int))
        else srGo l f (at_ + (nextL (l.drop at_)).2) (ps ++ [(nextL (l.drop at_)).1]) out fr (ps.length : Int) st (vs + 1) false
      else srGo l f (at_ + (nextL (l.drop at_)).2) (ps ++ [(nextL (l.drop at_)).1]) out fr nu st vs false
    else if nu < 0 then ([], [], 110, (at_ : Int)) else (ps, out ++ [shutS ps fr nu st], 0, 0)
def srL (l : List UInt8) : List Ph × List Sy × Int × Int := srGo l (l.length + 1) 0 [] [] 0 (-1) 0 0 false

/-- the sign ahead of a syllable; a row's text with its syllables -/
def signB (i : Nat) (s : Sy) : List UInt8 := if s.st = 2 then [203, 136] else if s.st = 1 then [203, 140] else if 0 < i then [46] else []
def spGo (l : List Ph) : Nat → List Sy → List UInt8
  | _, [] => []
  | i, s :: r => signB i s ++ texts (cutL l s.fr.toNat s.to_.toNat) ++ spGo l (i + 1) r
def spT (l : List Ph) (ss : List Sy) : List UInt8 := if mayF l ss = 0 then spGo l 0 ss else []
end Go.Proofs.Ytogofchpocoebaa

namespace Go.Proofs.Ytogofchpocoebaa

def setTo (s : Sy) (v : Int) : Sy := (s.fr, s.nu, v, s.st, s.hv)
def setHv (s : Sy) (b : Bool) : Sy := (s.fr, s.nu, s.to_, s.st, b)
def setSt (s : Sy) (v : Int) : Sy := (s.fr, s.nu, s.to_, v, s.hv)
theorem sys_cons (s : Sy) (l : List Sy) : sys (s :: l) = syC s ++ sys l := rfl
theorem sys_to (l : List Sy) (k : Nat) (v : Int) (hk : k < l.length) : (sys l).set (k * 5 + 2) (.int .i64 v) = sys (l.set k (setTo (l.getD k sy0) v)) := by
  induction l generalizing k with
  | nil => simp at hk
  | cons a l ih =>
    rcases k with _ | k
    · simp [sys_cons, syC, setTo, Sy.fr, Sy.nu, Sy.to_, Sy.st, Sy.hv]
    · have := ih k (by simpa using hk)
      rw [sys_cons, show (k + 1) * 5 + 2 = (k * 5 + 2) + 5 by omega]
      simp only [syC, List.cons_append, List.nil_append, List.set_cons_succ, List.getD_cons_succ]
      rw [this]
      rfl
theorem sys_hv (l : List Sy) (k : Nat) (b : Bool) (hk : k < l.length) : (sys l).set (k * 5 + 4) (.bool b) = sys (l.set k (setHv (l.getD k sy0) b)) := by
  induction l generalizing k with
  | nil => simp at hk
  | cons a l ih =>
    rcases k with _ | k
    · simp [sys_cons, syC, setHv, Sy.fr, Sy.nu, Sy.to_, Sy.st, Sy.hv]
    · have := ih k (by simpa using hk)
      rw [sys_cons, show (k + 1) * 5 + 4 = (k * 5 + 4) + 5 by omega]
      simp only [syC, List.cons_append, List.nil_append, List.set_cons_succ, List.getD_cons_succ]
      rw [this]
      rfl
theorem sys_st (l : List Sy) (k : Nat) (v : Int) (hk : k < l.length) : (sys l).set (k * 5 + 3) (.int .i64 v) = sys (l.set k (setSt (l.getD k sy0) v)) := by
  induction l generalizing k with
  | nil => simp at hk
  | cons a l ih =>
    rcases k with _ | k
    · simp [sys_cons, syC, setSt, Sy.fr, Sy.nu, Sy.to_, Sy.st, Sy.hv]
    · have := ih k (by simpa using hk)
      rw [sys_cons, show (k + 1) * 5 + 3 = (k * 5 + 3) + 5 by omega]
      simp only [syC, List.cons_append, List.nil_append, List.set_cons_succ, List.getD_cons_succ]
      rw [this]
      rfl
def hv0 (_ : Sy) : Bool := false
theorem getD_snoc {l : List Nat} {x j : Nat} (h : j < l.length) : (l ++ [x]).getD j 0 = l.getD j 0 := by
  rw [List.getD_eq_getElem?_getD, List.getD_eq_getElem?_getD, List.getElem?_append_left h]
theorem getD_last (l : List Nat) (x : Nat) : (l ++ [x]).getD l.length 0 = x := by
  rw [List.getD_eq_getElem?_getD, List.getElem?_append_right (Nat.le_refl _)]
  simp
theorem frK_snoc {l : List Ph} {ns : List Nat} {i k : Nat} (h : k < ns.length) : frK l (ns ++ [i]) k = frK l ns k := by
  unfold frK
  rw [getD_snoc h]
  split
  · rfl
  · rw [getD_snoc (by omega)]
theorem frK_last {l : List Ph} {ns : List Nat} {i : Nat} (h : 0 < ns.length) : frK l (ns ++ [i]) ns.length = bordF l (ns.getD (ns.length - 1) 0) i := by
  unfold frK
  rw [if_neg (by omega), getD_last, getD_snoc (by omega)]
/-- one vowel more -/
theorem syl_snoc {l : List Ph} {ns : List Nat} {i : Nat} (h : 0 < ns.length) :
    sylL l (ns ++ [i]) 0 hv0 = (sylL l ns 0 hv0).set (ns.length - 1) (setTo ((sylL l ns 0 hv0).getD (ns.length - 1) sy0) (bordF l (ns.getD (ns.length - 1) 0) i : Nat)) ++ [((bordF l (ns.getD (ns.length - 1) 0) i : Int), (i : Int), 0, 0, false)] := by
  apply List.ext_getElem?
  intro j
  have hl1 := sylL_len l ns 0 hv0
  rcases Nat.lt_or_ge j (ns.length + 1) with hj | hj
  · rw [sylL_at (by simpa using hj)]
    rcases Nat.lt_or_ge j ns.length with hj2 | hj2
    · rw [List.getElem?_append_left (by rw [List.length_set, hl1]; exact hj2), List.getElem?_set]
      by_cases e : ns.length - 1 = j
      · rw [if_pos e, if_pos (by omega)]
        congr 1
        rw [List.getD_eq_getElem?_getD, sylL_at (by omega)]
        unfold sylK setTo
        simp only [Option.getD_some, Sy.fr, Sy.nu, Sy.st, Sy.hv, hv0]
        rw [frK_snoc hj2, getD_snoc hj2, e]
        have : toK l (ns ++ [i]) 0 j = bordF l (ns.getD j 0) i := by
          unfold toK
          rw [if_pos (by simp; omega), show j + 1 = ns.length by omega, frK_last h, e]
        rw [this]
      · rw [if_neg e, sylL_at hj2]
        congr 1
        unfold sylK
        rw [frK_snoc hj2, getD_snoc hj2]
        have : toK l (ns ++ [i]) 0 j = toK l ns 0 j := by
          unfold toK
          rw [if_pos (by simp; omega), if_pos (by omega), frK_snoc (by omega)]
        rw [this]
    · have e : j = ns.length := by omega
      subst e
      rw [List.getElem?_append_right (by rw [List.length_set, hl1]; exact Nat.le_refl _), List.length_set, hl1, Nat.sub_self, List.getElem?_cons_zero]
      congr 1
      unfold sylK
      rw [frK_last h, getD_last]
      unfold toK
      rw [if_neg (by simp)]
      rfl
  · rw [List.getElem?_eq_none (by rw [sylL_len]; simpa using hj), List.getElem?_eq_none (by rw [List.length_append, List.length_set, hl1]; simpa using hj)]
theorem syl_one (l : List Ph) (i : Nat) : sylL l [i] 0 hv0 = [(0, (i : Int), 0, 0, false)] := rfl
/-- the last one's end -/
theorem syl_end {l : List Ph} {ns : List Nat} {e : Nat} (h : 0 < ns.length) : (sylL l ns 0 hv0).set (ns.length - 1) (setTo ((sylL l ns 0 hv0).getD (ns.length - 1) sy0) (e : Nat)) = sylL l ns e hv0 := by
  apply List.ext_getElem?
  intro j
  have hl1 := sylL_len l ns 0 hv0
  rw [List.getElem?_set]
  rcases Nat.lt_or_ge j ns.length with hj | hj
  · rw [sylL_at (e := e) hj]
    by_cases e1 : ns.length - 1 = j
    · rw [if_pos e1, if_pos (by omega), List.getD_eq_getElem?_getD, sylL_at (by omega)]
      congr 1
      unfold sylK setTo
      simp only [Option.getD_some, Sy.fr, Sy.nu, Sy.st, Sy.hv, hv0]
      rw [e1]
      have : toK l ns e j = e := by unfold toK; rw [if_neg (by omega)]
      rw [this]
    · rw [if_neg e1, sylL_at hj]
      congr 1
      unfold sylK
      have : toK l ns 0 j = toK l ns e j := by unfold toK; rw [if_pos (by omega), if_pos (by omega)]
      rw [this]
  · rw [if_neg (by omega), List.getElem?_eq_none (by omega), List.getElem?_eq_none (by rw [sylL_len]; exact hj)]
/-- the first i of them marked -/
def sylM (l : List Ph) (ns : List Nat) (e : Nat) (hv : Sy → Bool) (i : Nat) : List Sy := (List.range ns.length).map fun k => sylK l ns e (if k < i then hv else hv0) k
theorem sylM_len (l : List Ph) (ns : List Nat) (e : Nat) (hv : Sy → Bool) (i : Nat) : (sylM l ns e hv i).length = ns.length := by simp [sylM]
theorem sylM_at {l : List Ph} {ns : List Nat} {e i : Nat} {hv : Sy → Bool} {k : Nat} (h : k < ns.length) : (sylM l ns e hv i)[k]? = some (sylK l ns e (if k < i then hv else hv0) k) := by
  unfold sylM
  rw [List.getElem?_map, List.getElem?_range h]
  rfl
theorem sylM_zero (l : List Ph) (ns : List Nat) (e : Nat) (hv : Sy → Bool) : sylM l ns e hv 0 = sylL l ns e hv0 := by
  unfold sylM sylL
  apply List.map_congr_left
  intro k _
  rw [if_neg (Nat.not_lt_zero _)]
theorem sylM_end (l : List Ph) (ns : List Nat) (e : Nat) (hv : Sy → Bool) : sylM l ns e hv ns.length = sylL l ns e hv := by
  unfold sylM sylL
  apply List.map_congr_left
  intro k hk
  rw [if_pos (List.mem_range.1 hk)]
theorem sylM_step {l : List Ph} {ns : List Nat} {e i : Nat} {hv : Sy → Bool} (h : i < ns.length) :
    (sylM l ns e hv i).set i (setHv ((sylM l ns e hv i).getD i sy0) (hv (sylK l ns e hv0 i))) = sylM l ns e hv (i + 1) := by
  apply List.ext_getElem?
  intro j
  rw [List.getElem?_set, sylM_len]
  rcases Nat.lt_or_ge j ns.length with hj | hj
  · rw [sylM_at (i := i + 1) hj]
    by_cases e1 : i = j
    · subst e1
      rw [if_pos rfl, if_pos h, List.getD_eq_getElem?_getD, sylM_at h, if_neg (Nat.lt_irrefl _), if_pos (Nat.lt_succ_self _)]
      rfl
    · rw [if_neg e1, sylM_at hj]
      by_cases h2 : j < i
      · rw [if_pos h2, if_pos (by omega)]
      · rw [if_neg h2, if_neg (by omega)]
  · rw [if_neg (by omega), List.getElem?_eq_none (by rw [sylM_len]; exact hj), List.getElem?_eq_none (by rw [sylM_len]; exact hj)]

/-- the place of the main stress -/
def stAt (l : List Sy) (rule : Int) : Nat :=
  if l.length = 1 ∨ rule = 1 then 0 else if rule = 2 then l.length - 1 else if rule = 3 ∨ l.length = 2 ∨ (l.getD (l.length - 2) sy0).hv = true then l.length - 2 else l.length - 3
def stE (l : List Sy) (rule : Int) : Int := if rule < 1 ∨ 4 < rule ∨ l.length = 0 then 2 else if 64 < l.length then 3 else 0
/-- the first k of them, the main stress on one -/
def stK (l : List Sy) (at_ k : Nat) : List Sy := (List.range k).map fun i => setSt (l.getD i sy0) (if i = at_ then 2 else 0)
theorem stK_len (l : List Sy) (at_ k : Nat) : (stK l at_ k).length = k := by simp [stK]
theorem stK_snoc (l : List Sy) (at_ k : Nat) : stK l at_ (k + 1) = stK l at_ k ++ [setSt (l.getD k sy0) (if k = at_ then 2 else 0)] := by
  unfold stK
  rw [List.range_succ, List.map_append]
  rfl
def stL (l : List Sy) (rule : Int) : List Sy := if stE l rule = 0 then stK l (stAt l rule) l.length else []
end Go.Proofs.Ytogofchpocoebaa

namespace Go.Proofs.Ytogofchpocoebaa

theorem nucs_mem {l : List Ph} : ∀ {k x : Nat}, x < k → vowF (l.getD x ph0) = true → x ∈ nucs l k := by
  intro k
  induction k with
  | zero => intro x h; omega
  | succ k ih =>
    intro x h hv
    unfold nucs
    rcases Nat.lt_or_ge x k with hl | hl
    · exact List.mem_append_left _ (ih hl hv)
    · have : x = k := by omega
      subst this
      rw [if_pos hv]
      simp
theorem nucs_at {l : List Ph} {k j : Nat} (h : j < (nucs l k).length) : (nucs l k).getD j 0 < k ∧ vowF (l.getD ((nucs l k).getD j 0) ph0) = true := by
  have : (nucs l k).getD j 0 ∈ nucs l k := by rw [List.getD_eq_getElem?_getD, List.getElem?_eq_getElem h]; exact List.getElem_mem _
  exact nucs_lt this
theorem nucs_ix {l : List Ph} {k x : Nat} (h : x ∈ nucs l k) : ∃ j, j < (nucs l k).length ∧ (nucs l k).getD j 0 = x := by
  obtain ⟨j, hj, e⟩ := List.getElem_of_mem h
  exact ⟨j, hj, by rw [List.getD_eq_getElem?_getD, List.getElem?_eq_getElem hj]; exact e⟩
section
variable {l : List Ph}
/-- where a syllable begins and ends, against the vowels -/
theorem fr_in {k : Nat} (hk : k < (nucs l l.length).length) : frK l (nucs l l.length) k ≤ (nucs l l.length).getD k 0 ∧ (0 < k → (nucs l l.length).getD (k - 1) 0 < frK l (nucs l l.length) k) := by
  unfold frK
  by_cases h0 : k = 0
  · rw [if_pos h0]; exact ⟨Nat.zero_le _, by omega⟩
  · rw [if_neg h0]
    have := bordF_in (l := l) (nucs_rise (l := l) (k := l.length) (i := k - 1) (j := k) (by omega) hk)
    exact ⟨this.2, fun _ => this.1⟩
theorem to_in {k : Nat} (hk : k < (nucs l l.length).length) : (nucs l l.length).getD k 0 < toK l (nucs l l.length) l.length k ∧ toK l (nucs l l.length) l.length k ≤ l.length ∧ (k + 1 < (nucs l l.length).length → toK l (nucs l l.length) l.length k ≤ (nucs l l.length).getD (k + 1) 0) := by
  unfold toK
  by_cases h : k + 1 < (nucs l l.length).length
  · rw [if_pos h]
    have h1 := fr_in h
    have h2 := (nucs_at h).1
    have h3 := h1.2 (by omega)
    exact ⟨by simpa using h3, by omega, fun _ => h1.1⟩
  · rw [if_neg h]
    exact ⟨(nucs_at hk).1, Nat.le_refl _, fun h' => absurd h' h⟩
/-- between them stands one vowel -/
theorem vow_in {k i : Nat} (hk : k < (nucs l l.length).length) (h1 : frK l (nucs l l.length) k ≤ i) (h2 : i < toK l (nucs l l.length) l.length k) : vowF (l.getD i ph0) = decide (i = (nucs l l.length).getD k 0) := by
  have ht := to_in hk
  by_cases e : i = (nucs l l.length).getD k 0
  · rw [decide_eq_true e, e]
    exact (nucs_at hk).2
  · rw [decide_eq_false e]
    cases hv : vowF (l.getD i ph0) with
    | false => rfl
    | true =>
      exfalso
      obtain ⟨j, hj, hji⟩ := nucs_ix (nucs_mem (by omega : i < l.length) hv)
      rcases Nat.lt_trichotomy j k with h | h | h
      · have h3 := (fr_in hk).2 (by omega)
        rcases Nat.lt_or_ge j (k - 1) with h4 | h4
        · have := nucs_rise (l := l) (k := l.length) h4 (by omega); omega
        · have : j = k - 1 := by omega
          subst this; omega
      · subst h; exact e hji.symm
      · have h3 := ht.2.2 (by omega)
        rcases Nat.lt_or_ge (k + 1) j with h4 | h4
        · have := nucs_rise (l := l) (k := l.length) h4 hj; omega
        · have : j = k + 1 := by omega
          subst this; omega
theorem vbad_false {nu : Nat} : ∀ {n k : Nat}, (∀ i, k ≤ i → i < k + n → vowF (l.getD i ph0) = decide (i = nu)) → vbad l nu k n = false := by
  intro n
  induction n with
  | zero => intro k _; rfl
  | succ n ih =>
    intro k h
    unfold vbad
    rw [h k (Nat.le_refl _) (by omega), ih (fun i h1 h2 => h i (by omega) (by omega))]
    simp
theorem heavy_hv (l : List Ph) (a b c d : Int) (x y : Bool) : heavyF l (a, b, c, d, x) = heavyF l (a, b, c, d, y) := rfl
theorem one_zero {l : List Ph} {s : Sy} {f : Nat} (h1 : s.fr = f) (h2 : s.fr ≤ s.nu) (h3 : s.nu < s.to_) (h4 : s.to_ ≤ l.length) (h5 : vbad l s.nu.toNat f (s.to_.toNat - f) = false) (h6 : s.hv = heavyF l s) (h7 : 0 ≤ s.st) (h8 : s.st ≤ 2) : oneF l s f = 0 := by
  unfold oneF
  rw [if_neg (show ¬ (s.fr ≠ f ∨ s.nu < s.fr ∨ s.to_ ≤ s.nu ∨ l.length < s.to_) by omega), h5, if_neg (by decide), if_neg]
  rintro (h | h | h)
  · exact h h6
  · omega
  · omega
theorem one_syl {k : Nat} (hk : k < (nucs l l.length).length) : oneF l (sylK l (nucs l l.length) l.length (heavyF l) k) (frK l (nucs l l.length) k) = 0 := by
  have h1 := (fr_in hk).1
  have h2 := to_in hk
  have h3 := vbad_false (l := l) (nu := (nucs l l.length).getD k 0) (k := frK l (nucs l l.length) k) (n := toK l (nucs l l.length) l.length k - frK l (nucs l l.length) k) (fun i a b => vow_in hk a (by omega))
  refine one_zero rfl ?_ ?_ ?_ ?_ rfl (by show (0 : Int) ≤ 0; decide) (by show (0 : Int) ≤ 2; decide)
  · show ((frK l (nucs l l.length) k : Nat) : Int) ≤ ((nucs l l.length).getD k 0 : Nat)
    omega
  · show (((nucs l l.length).getD k 0 : Nat) : Int) < (toK l (nucs l l.length) l.length k : Nat)
    omega
  · show ((toK l (nucs l l.length) l.length k : Nat) : Int) ≤ l.length
    omega
  · exact h3
theorem may_syl : ∀ {n k : Nat}, n + k = (nucs l l.length).length → mayGo l (((List.range n).map (· + k)).map (sylK l (nucs l l.length) l.length (heavyF l))) (if k < (nucs l l.length).length then frK l (nucs l l.length) k else l.length) = 0 := by
  intro n
  induction n with
  | zero =>
    intro k h
    rw [if_neg (by omega)]
    unfold mayGo
    simp
  | succ n ih =>
    intro k h
    rw [if_pos (by omega), List.range_succ_eq_map, List.map_cons, List.map_cons, Nat.zero_add]
    unfold mayGo
    rw [if_pos (one_syl (by omega))]
    have e : List.map (sylK l (nucs l l.length) l.length (heavyF l)) (List.map (· + k) (List.map Nat.succ (List.range n))) = List.map (sylK l (nucs l l.length) l.length (heavyF l)) (List.map (· + (k + 1)) (List.range n)) := by
      congr 1
      rw [List.map_map]
      apply List.map_congr_left
      intro x _
      show Nat.succ x + k = x + (k + 1)
      omega
    rw [e]
    have e2 : (sylK l (nucs l l.length) l.length (heavyF l) k).to_.toNat = if k + 1 < (nucs l l.length).length then frK l (nucs l l.length) (k + 1) else l.length := by
      unfold sylK toK
      simp only [Sy.to_, Int.toNat_natCast]
    rw [e2]
    exact ih (by omega)
/-- a row's syllables may be -/
theorem may_split (h : spE l = 0) : mayF l (spL l) = 0 := by
  have hL : spL l = sylL l (nucs l l.length) l.length (heavyF l) := by unfold spL; rw [if_pos h]
  have hlen := sylL_len l (nucs l l.length) l.length (heavyF l)
  unfold spE at h
  split at h
  · cases h
  · rename_i h1
    split at h
    · rename_i h2
      split at h
      · cases h
      · rename_i h3
        split at h
        · cases h
        · rename_i h4
          unfold mayF
          rw [hL, hlen, if_neg (by omega), if_pos h2, if_neg]
          · have := may_syl (l := l) (n := (nucs l l.length).length) (k := 0) (by omega)
            have e : ((List.range (nucs l l.length).length).map (· + 0)) = List.range (nucs l l.length).length := by simp
            rw [e] at this
            rw [show (if 0 < (nucs l l.length).length then frK l (nucs l l.length) 0 else l.length) = 0 from by rw [if_pos (List.length_pos_iff.2 h3)]; rfl] at this
            exact this
          · intro he
            have := congrArg List.length he
            rw [hlen] at this
            exact h3 (List.eq_nil_of_length_eq_zero (by simpa using this))
    · cases h
end
end Go.Proofs.Ytogofchpocoebaa
