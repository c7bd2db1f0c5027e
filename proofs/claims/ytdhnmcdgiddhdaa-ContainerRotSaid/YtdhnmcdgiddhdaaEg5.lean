/-
  Texts joined: PureKraft, PureCodes, PureZeros, PureMtf, PureEnt, Copy, Byte, Zeros, Mtf, Num, NumR, Arr.
-/
import Derived.Test.YtdhnmcdgiddhdaaEg4
import Derived.Lib.Hide
import Derived.Test.YtdhnmcdgiddhdaaEg2
import Derived.Test.YtdhnmcdgiddhdaaEg1
import Derived.Laws.IdiomCopy
import Derived.BigRegion
import Derived.Laws.BitsAllLaws
import Derived.Laws.Rows
import Derived.Laws.Tables
/-
  How much of the codes lengths take, plain.
-/
set_option linter.unusedVariables false
set_option linter.unusedSimpArgs false
namespace Go.Proofs.Ytdhnmcdgiddhdaa
/-- How much room lengths take, of 2^15. -/
def kraftP (l : List Int) : Nat := (l.map fun k => if 1 ≤ k ∧ k ≤ 15 then 2 ^ (15 - k.toNat) else 0).sum
theorem kraftP_append (a b : List Int) : kraftP (a ++ b) = kraftP a + kraftP b := by simp [kraftP]
theorem kraftP_take_succ (l : List Int) (i : Nat) (k : Int) (h : l[i]? = some k) : kraftP (l.take (i + 1)) = kraftP (l.take i) + (if 1 ≤ k ∧ k ≤ 15 then 2 ^ (15 - k.toNat) else 0) := by
  rw [List.take_add_one, h, Option.toList_some, kraftP_append]
  simp [kraftP]
theorem kraftP_le (l : List Int) : kraftP l ≤ 16384 * l.length := by
  induction l with
  | nil => simp [kraftP]
  | cons k l ih =>
    have h : (if 1 ≤ k ∧ k ≤ 15 then 2 ^ (15 - k.toNat) else 0) ≤ 16384 := by
      split
      · rename_i hk
        have : 2 ^ (15 - k.toNat) ≤ 2 ^ 14 := Nat.pow_le_pow_right (by omega) (by omega)
        omega
      · omega
    simp only [kraftP, List.map_cons, List.sum_cons, List.length_cons] at ih ⊢
    omega
end Go.Proofs.Ytdhnmcdgiddhdaa
/-
  Canonical codes, plain.
-/
set_option linter.unusedVariables false
set_option linter.unusedSimpArgs false
namespace Go.Proofs.Ytdhnmcdgiddhdaa

def okLens (l : List Int) : Bool := decide (l.length ≤ 300) && decide (kraftP l ≤ 32768) && l.all fun k => decide (0 ≤ k ∧ k ≤ 15)
/-- How many codes of each length there are; none of length nought. -/
def cntP (l : List Int) (k : Nat) : Nat := if k = 0 then 0 else l.count (k : Int)
/-- The first code of each length. -/
def fstP (l : List Int) : Nat → Nat
  | 0 => 0
  | k + 1 => (fstP l k + cntP l k) * 2
/-- Behind the last code of each length. -/
def endP (l : List Int) (k : Nat) : Nat := fstP l k + cntP l k
/-- The code of symbol s. -/
def codeP (l : List Int) (s : Nat) : Nat := fstP l (l.getD s 0).toNat + (l.take s).count (l.getD s 0)
theorem okLens_iff (l : List Int) : okLens l = true ↔ l.length ≤ 300 ∧ kraftP l ≤ 32768 ∧ ∀ k ∈ l, 0 ≤ k ∧ k ≤ 15 := by
  simp [okLens, and_assoc]

/-- The room that lengths up to k take. -/
def kraftTo (l : List Int) (k : Nat) : Nat := (l.map fun x => if 1 ≤ x ∧ x ≤ (k : Int) then 2 ^ (15 - x.toNat) else 0).sum
theorem kraftTo_succ (l : List Int) (k : Nat) (hk : k + 1 ≤ 15) : kraftTo l (k + 1) = kraftTo l k + cntP l (k + 1) * 2 ^ (14 - k) := by
  unfold cntP
  rw [if_neg (by omega)]
  induction l with
  | nil => simp [kraftTo]
  | cons x l ih =>
    simp only [kraftTo, List.map_cons, List.sum_cons] at ih ⊢
    rw [ih, List.count_cons]
    by_cases hx : x = ((k + 1 : Nat) : Int)
    · subst hx
      have e1 : (1 ≤ (((k + 1 : Nat)) : Int) ∧ (((k + 1 : Nat)) : Int) ≤ (((k + 1 : Nat)) : Int)) := by omega
      have e2 : ¬ (1 ≤ (((k + 1 : Nat)) : Int) ∧ (((k + 1 : Nat)) : Int) ≤ (k : Int)) := by omega
      rw [if_pos e1, if_neg e2, Int.toNat_natCast, show 15 - (k + 1) = 14 - k from by omega]
      simp only [beq_self_eq_true, if_true, Nat.add_mul, Nat.one_mul]
      omega
    · have e3 : (x == ((k + 1 : Nat) : Int)) = false := by simpa using hx
      rw [e3]
      have e4 : (1 ≤ x ∧ x ≤ ((k + 1 : Nat) : Int)) ↔ (1 ≤ x ∧ x ≤ (k : Int)) := by omega
      simp only [e4]
      simp
      omega
theorem kraftTo_zero (l : List Int) : kraftTo l 0 = 0 := by
  unfold kraftTo
  induction l with
  | nil => rfl
  | cons x l ih => simp only [List.map_cons, List.sum_cons, ih]; rw [if_neg (by omega)]
theorem kraftTo_mono (l : List Int) (k : Nat) : ∀ m, k + m ≤ 15 → kraftTo l k ≤ kraftTo l (k + m)
  | 0, _ => Nat.le_refl _
  | m + 1, h => by
    have := kraftTo_mono l k m (by omega)
    rw [← Nat.add_assoc, kraftTo_succ _ _ (by omega)]
    omega
theorem endP_kraft (l : List Int) : ∀ k, k ≤ 15 → endP l k * 2 ^ (15 - k) = kraftTo l k
  | 0, _ => by simp [endP, fstP, cntP, kraftTo_zero]
  | k + 1, h => by
    have ih := endP_kraft l k (by omega)
    rw [kraftTo_succ _ _ h, ← ih]
    have e : (15 - k) = (14 - k) + 1 := by omega
    rw [show 15 - (k + 1) = 14 - k from by omega, e, Nat.pow_succ]
    simp only [endP, fstP]
    rw [Nat.add_mul, Nat.mul_comm (2 ^ (14 - k)) 2, ← Nat.mul_assoc]
theorem kraftTo_all (l : List Int) : kraftTo l 15 = kraftP l := rfl
theorem endP_le (l : List Int) (hk : kraftP l ≤ 32768) (k : Nat) (h : k ≤ 15) : endP l k ≤ 2 ^ k := by
  have h1 := endP_kraft l k h
  have h2 := kraftTo_mono l k (15 - k) (by omega)
  rw [show k + (15 - k) = 15 from by omega, kraftTo_all] at h2
  have h3 : 2 ^ k * 2 ^ (15 - k) = 32768 := by rw [← Nat.pow_add, show k + (15 - k) = 15 from by omega]
  exact Nat.le_of_mul_le_mul_right (by omega) (Nat.two_pow_pos (15 - k))
theorem fstP_succ (l : List Int) (k : Nat) : fstP l (k + 1) = 2 * endP l k := by rw [fstP, endP]; omega
theorem fstP_le_endP (l : List Int) (k : Nat) : fstP l k ≤ endP l k := by unfold endP; omega
/-- The codes of a greater length lie behind. -/
theorem fstP_far (l : List Int) (k : Nat) : ∀ m, endP l k * 2 ^ (m + 1) ≤ fstP l (k + m + 1)
  | 0 => by rw [fstP_succ]; simp; omega
  | m + 1 => by
    have h1 := fstP_far l k m
    have h2 := fstP_le_endP l (k + m + 1)
    rw [show k + (m + 1) + 1 = (k + m + 1) + 1 from by omega, fstP_succ, Nat.pow_succ, ← Nat.mul_assoc]
    omega
theorem count_take_lt (l : List Int) (s : Nat) (k : Int) (h : l[s]? = some k) : (l.take s).count k < l.count k := by
  have h1 : (l.take (s + 1)).count k ≤ l.count k := (List.take_sublist _ _).count_le k
  rw [List.take_add_one, h, List.count_append] at h1
  simp at h1
  omega
theorem count_take_mono (l : List Int) (k : Int) {a b : Nat} (h : a ≤ b) : (l.take a).count k ≤ (l.take b).count k := by
  have : l.take a = (l.take b).take a := by rw [List.take_take, Nat.min_eq_left h]
  rw [this]
  exact (List.take_sublist _ _).count_le k
theorem count_take_step (l : List Int) (s t : Nat) (k : Int) (h : l[s]? = some k) (hst : s < t) : (l.take s).count k < (l.take t).count k := by
  have h2 := count_take_mono l k (show s + 1 ≤ t by omega)
  rw [List.take_add_one, h, List.count_append] at h2
  simp at h2
  omega
theorem codeP_eq (l : List Int) (s K : Nat) (h : l[s]? = some (K : Int)) : codeP l s = fstP l K + (l.take s).count (K : Int) := by
  unfold codeP
  rw [List.getD_eq_getElem?_getD, h]
  simp
theorem codeP_range (l : List Int) (s K : Nat) (h : l[s]? = some (K : Int)) (hK : 1 ≤ K) : fstP l K ≤ codeP l s ∧ codeP l s < endP l K := by
  rw [codeP_eq l s K h]
  have := count_take_lt l s _ h
  unfold endP cntP
  rw [if_neg (by omega)]
  omega
theorem codeP_step (l : List Int) (s t K : Nat) (h : l[s]? = some (K : Int)) (h' : l[t]? = some (K : Int)) (hst : s < t) : codeP l s < codeP l t := by
  rw [codeP_eq l s K h, codeP_eq l t K h']
  have := count_take_step l s t _ h hst
  omega
/-- A code of a longer length, cut, is behind all codes of the shorter one. -/
theorem codeP_far (l : List Int) (s t K M : Nat) (h : l[s]? = some (K : Int)) (h' : l[t]? = some (M : Int)) (hK : 1 ≤ K) (hM : K < M) : codeP l s < codeP l t / 2 ^ (M - K) ∧ (codeP l s + 1) * 2 ^ (M - K) ≤ codeP l t := by
  have h1 := (codeP_range l s K h hK).2
  have h2 := (codeP_range l t M h' (by omega)).1
  have h3 := fstP_far l K (M - K - 1)
  rw [show K + (M - K - 1) + 1 = M from by omega, show M - K - 1 + 1 = M - K from by omega] at h3
  have h4 : (codeP l s + 1) * 2 ^ (M - K) ≤ endP l K * 2 ^ (M - K) := Nat.mul_le_mul_right _ h1
  have h5 : (codeP l s + 1) * 2 ^ (M - K) ≤ codeP l t := by omega
  refine ⟨?_, h5⟩
  have := (Nat.le_div_iff_mul_le (Nat.two_pow_pos (M - K))).2 h5
  omega

/-! Symbols read -/
/-- The symbols of one length. -/
def symsP (l : List Int) (k : Nat) : List Int := ((List.range l.length).filter fun (s : Nat) => l[s]? == some (k : Int)).map fun (s : Nat) => (s : Int)
theorem symsP_take_succ (l : List Int) (i k : Nat) (x : Int) (h : l[i]? = some x) : symsP (l.take (i + 1)) k = symsP (l.take i) k ++ (if x = (k : Int) then [(i : Int)] else []) := by
  have hi : i < l.length := (List.getElem?_eq_some_iff.1 h).1
  unfold symsP
  rw [List.length_take, List.length_take, Nat.min_eq_left (by omega), Nat.min_eq_left (by omega), List.range_succ, List.filter_append, List.map_append]
  congr 1
  · congr 1
    apply List.filter_congr
    intro s hs
    have hs' : s < i := by simpa using hs
    rw [List.getElem?_take, List.getElem?_take, if_pos (by omega), if_pos hs']
  · have h2 : (l.take (i + 1))[i]? = some x := by rw [List.getElem?_take, if_pos (by omega), h]
    simp only [List.filter_cons, List.filter_nil, h2]
    by_cases hx : x = (k : Int) <;> simp [hx]
theorem symsP_length (l : List Int) (k : Nat) : ∀ i, i ≤ l.length → (symsP (l.take i) k).length = (l.take i).count (k : Int)
  | 0, _ => by simp [symsP]
  | i + 1, h => by
    have hx : l[i]? = some l[i] := List.getElem?_eq_getElem (by omega)
    rw [symsP_take_succ l i k _ hx, List.length_append, symsP_length l k i (by omega), List.take_add_one, hx, List.count_append]
    by_cases hk : l[i] = (k : Int) <;> simp [hk]
theorem symsP_at (l : List Int) (k : Nat) : ∀ i, i ≤ l.length → ∀ j, (symsP (l.take i) k)[j]? = none ∨ ∃ s : Nat, (symsP (l.take i) k)[j]? = some (s : Int) ∧ s < i ∧ l[s]? = some (k : Int) ∧ (l.take s).count (k : Int) = j
  | 0, _, j => by left; simp [symsP]
  | i + 1, h, j => by
    have hx : l[i]? = some l[i] := List.getElem?_eq_getElem (by omega)
    have hlen := symsP_length l k i (by omega)
    rw [symsP_take_succ l i k _ hx, List.getElem?_append]
    by_cases hj : j < (symsP (l.take i) k).length
    · rw [if_pos hj]
      rcases symsP_at l k i (by omega) j with h0 | ⟨s, h1, h2, h3⟩
      · exact .inl h0
      · exact .inr ⟨s, h1, by omega, h3⟩
    · rw [if_neg hj]
      by_cases hk : l[i] = (k : Int)
      · rw [if_pos hk]
        by_cases hj2 : j = (symsP (l.take i) k).length
        · right
          refine ⟨i, by rw [hj2]; simp, by omega, by rw [hx, hk], by rw [hj2, hlen]⟩
        · left
          rw [List.getElem?_eq_none]
          simp; omega
      · left
        rw [if_neg hk]
        simp
/-- The symbol whose code of so many bits this is. -/
def lookP (l : List Int) (k v : Nat) : Option Nat := (List.range l.length).find? fun s => l[s]? == some (k : Int) && codeP l s == v
theorem lookP_some (l : List Int) (k v s : Nat) (h : lookP l k v = some s) : l[s]? = some (k : Int) ∧ codeP l s = v := by
  have := List.find?_some h
  simpa using this
theorem codeP_inj (l : List Int) (s t K : Nat) (h : l[s]? = some (K : Int)) (h' : l[t]? = some (K : Int)) (e : codeP l s = codeP l t) : s = t := by
  rcases Nat.lt_trichotomy s t with hh | hh | hh
  · have := codeP_step l s t K h h' hh; omega
  · exact hh
  · have := codeP_step l t s K h' h hh; omega
theorem lookP_of (l : List Int) (k v s : Nat) (h : l[s]? = some (k : Int)) (e : codeP l s = v) : lookP l k v = some s := by
  have hs : s < l.length := (List.getElem?_eq_some_iff.1 h).1
  have h1 : (lookP l k v).isSome = true := by
    unfold lookP
    rw [List.find?_isSome]
    exact ⟨s, by simpa using hs, by simp [h, e]⟩
  obtain ⟨t, ht⟩ := Option.isSome_iff_exists.1 h1
  have h2 := lookP_some l k v t ht
  rw [ht, codeP_inj l t s k h2.1 h (h2.2.trans e.symm)]
theorem lookP_none (l : List Int) (k v : Nat) (h : lookP l k v = none) (s : Nat) : ¬ (l[s]? = some (k : Int) ∧ codeP l s = v) := by
  intro ⟨h1, h2⟩
  rw [lookP_of l k v s h1 h2] at h
  cases h
/-- By place among the symbols of the length. -/
theorem lookP_syms (l : List Int) (k v : Nat) (hk : 1 ≤ k) : lookP l k v = none ∧ ¬ (fstP l k ≤ v ∧ v < endP l k) ∨ ∃ s : Nat, lookP l k v = some s ∧ fstP l k ≤ v ∧ v < endP l k ∧ (symsP l k)[v - fstP l k]? = some (s : Int) := by
  have hl := symsP_length l k l.length (Nat.le_refl _)
  have ha := symsP_at l k l.length (Nat.le_refl _) (v - fstP l k)
  rw [List.take_length] at hl ha
  by_cases hr : fstP l k ≤ v ∧ v < endP l k
  · right
    rcases ha with h0 | ⟨s, h1, h2, h3, h4⟩
    · rw [List.getElem?_eq_none_iff, hl] at h0
      unfold endP cntP at hr
      rw [if_neg (by omega)] at hr
      omega
    · refine ⟨s, lookP_of l k v s h3 ?_, hr.1, hr.2, h1⟩
      rw [codeP_eq l s k h3, h4]
      omega
  · left
    refine ⟨?_, hr⟩
    cases h : lookP l k v with
    | none => rfl
    | some s =>
      have h1 := lookP_some l k v s h
      have h2 := codeP_range l s k h1.1 hk
      rw [h1.2] at h2
      exact absurd h2 hr
/-- One symbol: m bits may still come, k have come and make v. -/
def symP (l : List Int) : Nat → Nat → Nat → List Bool → Option (Nat × Nat)
  | 0, _, _, _ => none
  | _ + 1, _, _, [] => none
  | m + 1, k, v, b :: bs => match lookP l (k + 1) (2 * v + b.toNat) with
    | some s => some (s, k + 1)
    | none => symP l m (k + 1) (2 * v + b.toNat) bs
/-- Symbols up to an end: error, symbols, bits that were read. -/
def readP (l : List Int) (e most : Int) : Nat → List Int → Nat → List Bool → Int × List Int × Nat
  | 0, _, _, _ => (6, [], 0)
  | m + 1, out, at_, bits => if most ≤ (out.length : Int) then (2, [], 0) else match symP l 15 0 0 bits with
    | none => (6, [], 0)
    | some (s, n) => if (s : Int) = e then (0, out ++ [(s : Int)], at_ + n) else readP l e most m (out ++ [(s : Int)]) (at_ + n) (bits.drop n)
theorem symP_len (l : List Int) : ∀ m k v bits s n, symP l m k v bits = some (s, n) → k + 1 ≤ n ∧ n ≤ k + bits.length ∧ n ≤ k + m ∧ s < l.length
  | 0, _, _, _, _, _, h => by simp [symP] at h
  | _ + 1, _, _, [], _, _, h => by simp [symP] at h
  | m + 1, k, v, b :: bs, s, n, h => by
    rw [symP] at h
    split at h
    · rename_i s' hs
      simp at h
      obtain ⟨rfl, rfl⟩ := h
      have := lookP_some _ _ _ _ hs
      have := (List.getElem?_eq_some_iff.1 this.1).1
      simp; omega
    · have := symP_len l m _ _ _ _ _ h
      simp; omega
/-- Where Kraft is just whole a symbol is always found. -/
theorem symP_whole (l : List Int) (h : kraftP l = 32768) (hall : ∀ k ∈ l, 0 ≤ k ∧ k ≤ 15) : ∀ m k v bits, k + m = 15 → endP l k ≤ v → v < 2 ^ k → m ≤ bits.length → ∃ s n, symP l m k v bits = some (s, n)
  | 0, k, v, bits, hk, he, hv, _ => by
    exfalso
    obtain rfl : k = 15 := by omega
    have := endP_kraft l 15 (by omega)
    rw [kraftTo_all, h] at this
    simp at this
    omega
  | m + 1, k, v, [], _, _, _, hb => by simp at hb
  | m + 1, k, v, b :: bs, hk, he, hv, hb => by
    rw [symP]
    have hv2 : 2 * v + b.toNat < 2 ^ (k + 1) := by rw [Nat.pow_succ]; cases b <;> simp <;> omega
    rcases lookP_syms l (k + 1) (2 * v + b.toNat) (by omega) with ⟨h0, h1⟩ | ⟨s, h0, _⟩
    · rw [h0]
      refine symP_whole l h hall m (k + 1) _ bs (by omega) ?_ hv2 (by simpa using hb)
      rw [fstP_succ] at h1
      omega
    · rw [h0]
      exact ⟨_, _, rfl⟩
end Go.Proofs.Ytdhnmcdgiddhdaa
/-
  Runs of zeros, plain: the symbols of a run, of a text, and what symbols come to.
-/
set_option linter.unusedVariables false
set_option linter.unusedSimpArgs false
namespace Go.Proofs.Ytdhnmcdgiddhdaa

/-- The symbols of n zeros. -/
def runL (n : Nat) : List Int := if h : n = 0 then [] else (1 - ((n % 2 : Nat) : Int)) :: runL ((n - 1) / 2)
termination_by n
decreasing_by omega
theorem runL_zero : runL 0 = [] := by rw [runL]; simp
theorem runL_pos {n : Nat} (h : 0 < n) : runL n = (1 - ((n % 2 : Nat) : Int)) :: runL ((n - 1) / 2) := by rw [runL, dif_neg (by omega)]
theorem runL_le (n : Nat) : (runL n).length ≤ n := by
  induction n using Nat.strongRecOn with
  | _ n ih =>
    rcases Nat.eq_zero_or_pos n with rfl | h
    · simp [runL_zero]
    · rw [runL_pos h]
      have := ih ((n - 1) / 2) (by omega)
      simp only [List.length_cons]
      omega
/-- The symbols of n zeros and the text behind them. -/
def enc : List UInt8 → Nat → List Int
  | [], n => runL n ++ [257]
  | b :: bs, n => if b = 0 then enc bs (n + 1) else runL n ++ ((b.toNat : Int) + 1) :: enc bs 0
/-- What symbols come to: the bytes, and the fault. -/
def dec (most : Nat) : List Int → List UInt8 → Nat → List UInt8 × Int
  | [], _, _ => ([], 6)
  | x :: l, b, wth =>
    if x < 0 ∨ 257 < x ∨ (x = 257 ∧ l ≠ []) then ([], 6)
    else if x = 257 then (b, 0)
    else if 1 < x then (if most ≤ b.length then ([], 2) else dec most l (b ++ [UInt8.ofNat (x - 1).toNat]) 1)
    else if most - b.length < wth * (x.toNat + 1) then ([], 2) else dec most l (b ++ List.replicate (wth * (x.toNat + 1)) 0) (wth * 2)
section
variable {most : Nat} {x : Int} {l : List Int} {b : List UInt8} {wth : Nat}
theorem dec_bad (h : x < 0 ∨ 257 < x ∨ (x = 257 ∧ l ≠ [])) : dec most (x :: l) b wth = ([], 6) := by rw [dec, if_pos h]
theorem dec_end : dec most [257] b wth = (b, 0) := by rw [dec]; simp
theorem dec_full (h1 : 1 < x) (h2 : x < 257) (h : most ≤ b.length) : dec most (x :: l) b wth = ([], 2) := by rw [dec, if_neg (by omega), if_neg (by omega), if_pos h1, if_pos h]
theorem dec_byte (h1 : 1 < x) (h2 : x < 257) (h : ¬ most ≤ b.length) : dec most (x :: l) b wth = dec most l (b ++ [UInt8.ofNat (x - 1).toNat]) 1 := by rw [dec, if_neg (by omega), if_neg (by omega), if_pos h1, if_neg h]
theorem dec_great (h1 : 0 ≤ x) (h2 : x ≤ 1) (h : most - b.length < wth * (x.toNat + 1)) : dec most (x :: l) b wth = ([], 2) := by rw [dec, if_neg (by omega), if_neg (by omega), if_neg (by omega), if_pos h]
theorem dec_run (h1 : 0 ≤ x) (h2 : x ≤ 1) (h : ¬ most - b.length < wth * (x.toNat + 1)) : dec most (x :: l) b wth = dec most l (b ++ List.replicate (wth * (x.toNat + 1)) 0) (wth * 2) := by rw [dec, if_neg (by omega), if_neg (by omega), if_neg (by omega), if_neg h]
end
/-- The symbols of n zeros, behind symbols that told of some. -/
theorem dec_runL (most : Nat) (l : List Int) : ∀ (n : Nat) (b : List UInt8) (wth : Nat), 0 < wth → b.length + wth * n ≤ most →
    ∃ w', 0 < w' ∧ dec most (runL n ++ l) b wth = dec most l (b ++ List.replicate (wth * n) 0) w' := by
  intro n
  induction n using Nat.strongRecOn with
  | _ n ih =>
    intro b wth hw h
    rcases Nat.eq_zero_or_pos n with rfl | hn
    · exact ⟨wth, hw, by simp [runL_zero]⟩
    · rw [runL_pos hn, List.cons_append]
      obtain ⟨d, hd, hd2, hnd⟩ : ∃ d, (1 - ((n % 2 : Nat) : Int)) = ((d : Nat) : Int) ∧ d ≤ 1 ∧ n = d + 1 + 2 * ((n - 1) / 2) := ⟨1 - n % 2, by omega, by omega, by omega⟩
      rw [hd]
      have hmul : wth * n = wth * (d + 1) + wth * 2 * ((n - 1) / 2) := by rw [Nat.mul_assoc, ← Nat.mul_add, ← hnd]
      rw [dec_run (by omega) (by omega) (by rw [Int.toNat_natCast]; omega)]
      rw [Int.toNat_natCast]
      obtain ⟨w', h1, h2⟩ := ih ((n - 1) / 2) (by omega) (b ++ List.replicate (wth * (d + 1)) 0) (wth * 2) (by omega) (by rw [List.length_append, List.length_replicate]; omega)
      refine ⟨w', h1, ?_⟩
      rw [h2, List.append_assoc, List.replicate_append_replicate, hmul]
theorem enc_zeros (n k : Nat) : enc (List.replicate n 0) k = runL (k + n) ++ [257] := by
  induction n generalizing k with
  | zero => rfl
  | succ n ih => rw [List.replicate_succ, enc, if_pos rfl, ih]; congr 2; omega
/-- A run takes as many symbols as n + 1 has bits, less one. -/
theorem runL_length (n : Nat) : 2 ^ (runL n).length ≤ n + 1 ∧ n + 1 < 2 ^ ((runL n).length + 1) := by
  induction n using Nat.strongRecOn with
  | _ n ih =>
    rcases Nat.eq_zero_or_pos n with rfl | h
    · simp [runL_zero]
    · rw [runL_pos h]
      have := ih ((n - 1) / 2) (by omega)
      simp only [List.length_cons]
      rw [Nat.pow_succ, Nat.pow_succ 2 (_ + 1)]
      omega
/-- A byte that is no nought parts a text. -/
theorem enc_join (a b : List UInt8) (x : UInt8) (hx : x ≠ 0) : ∀ n, enc (a ++ x :: b) n = (enc a n).dropLast ++ ((x.toNat : Int) + 1) :: enc b 0 := by
  induction a with
  | nil => intro n; simp [enc, hx]
  | cons y a ih =>
    intro n
    rw [List.cons_append, enc, enc]
    by_cases hy : y = 0
    · rw [if_pos hy, if_pos hy, ih]
    · rw [if_neg hy, if_neg hy, ih]
      have hne : enc a 0 ≠ [] := by
        intro h
        have : ∀ (bs : List UInt8) k, enc bs k ≠ [] := by
          intro bs
          induction bs with
          | nil => intro k; simp [enc]
          | cons z bs ih2 => intro k; rw [enc]; split; exact ih2 _; simp
        exact this _ _ h
      rw [List.dropLast_append_of_ne_nil (by simp), List.dropLast_cons_of_ne_nil hne]
      simp
theorem enc_ne (bs : List UInt8) : ∀ k, enc bs k ≠ [] := by
  induction bs with
  | nil => intro k; simp [enc]
  | cons z bs ih2 => intro k; rw [enc]; split; exact ih2 _; simp
theorem enc_le (bs : List UInt8) : ∀ k, (enc bs k).length ≤ bs.length + k + 1 := by
  induction bs with
  | nil => intro k; have := runL_le k; simp [enc]; omega
  | cons z bs ih2 =>
    intro k
    rw [enc]
    split
    · have := ih2 (k + 1); simp; omega
    · have := ih2 0; have := runL_le k; simp; omega
/-- m ones, which tell of two zeros, then of four .. -/
theorem dec_ones (most : Nat) (l : List Int) : ∀ (m : Nat) (b : List UInt8) (wth : Nat), b.length + wth * (2 ^ (m + 1) - 2) ≤ most →
    ∃ w', dec most (List.replicate m 1 ++ l) b wth = dec most l (b ++ List.replicate (wth * (2 ^ (m + 1) - 2)) 0) w' := by
  intro m
  induction m with
  | zero => intro b wth _; exact ⟨wth, by simp⟩
  | succ m ih =>
    intro b wth h
    have e : wth * (2 ^ (m + 1 + 1) - 2) = wth * 2 + wth * 2 * (2 ^ (m + 1) - 2) := by
      rw [Nat.mul_assoc, ← Nat.mul_add]
      congr 1
      have := Nat.two_pow_pos (m + 1)
      have : 2 ^ (m + 1) = 2 * 2 ^ m := by rw [Nat.pow_succ, Nat.mul_comm]
      have := Nat.two_pow_pos m
      rw [Nat.pow_succ 2 (m + 1)]
      omega
    rw [List.replicate_succ, List.cons_append, dec_run (by omega) (by omega) (by simp; omega)]
    obtain ⟨w', h1⟩ := ih (b ++ List.replicate (wth * 2) 0) (wth * 2) (by rw [List.length_append, List.length_replicate]; omega)
    refine ⟨w', ?_⟩
    simp only [show (1 : Int).toNat + 1 = 2 from rfl]
    rw [h1, List.append_assoc, List.replicate_append_replicate, e]
theorem dec_ones_great (most : Nat) (l : List Int) : ∀ (m : Nat) (b : List UInt8) (wth : Nat), b.length ≤ most → most < b.length + wth * (2 ^ (m + 1) - 2) →
    dec most (List.replicate m 1 ++ l) b wth = ([], 2) := by
  intro m
  induction m with
  | zero => intro b wth _ h; simp at h; omega
  | succ m ih =>
    intro b wth hb h
    have e : wth * (2 ^ (m + 1 + 1) - 2) = wth * 2 + wth * 2 * (2 ^ (m + 1) - 2) := by
      rw [Nat.mul_assoc, ← Nat.mul_add]
      congr 1
      have : 2 ^ (m + 1) = 2 * 2 ^ m := by rw [Nat.pow_succ, Nat.mul_comm]
      have := Nat.two_pow_pos m
      rw [Nat.pow_succ 2 (m + 1)]
      omega
    rw [List.replicate_succ, List.cons_append]
    by_cases hc : most - b.length < wth * ((1 : Int).toNat + 1)
    · exact dec_great (by omega) (by omega) hc
    · rw [dec_run (by omega) (by omega) hc]
      simp only [show (1 : Int).toNat + 1 = 2 from rfl] at hc ⊢
      exact ih _ _ (by rw [List.length_append, List.length_replicate]; omega) (by rw [List.length_append, List.length_replicate]; omega)
end Go.Proofs.Ytdhnmcdgiddhdaa
/-
  Moving to the front, in plain Lean.
-/
set_option linter.unusedVariables false
set_option linter.unusedSimpArgs false
namespace Go.Proofs.Ytdhnmcdgiddhdaa
/-- The byte at a place moved to the front. -/
def frontL (l : List UInt8) (k : Nat) : List UInt8 := l.getD k 0 :: (l.take k ++ l.drop (k + 1))
def Full (l : List UInt8) : Prop := l.length = 256 ∧ ∀ x : UInt8, x ∈ l
theorem frontL_length {l : List UInt8} {k : Nat} (h : k < l.length) : (frontL l k).length = l.length := by simp [frontL]; omega
theorem frontL_perm {l : List UInt8} {k : Nat} (h : k < l.length) : (frontL l k).Perm l := by
  unfold frontL
  have e : l.getD k 0 = l[k] := by rw [List.getD_eq_getElem?_getD, List.getElem?_eq_getElem h]; rfl
  rw [e]
  refine List.Perm.trans List.perm_middle.symm ?_
  rw [← List.drop_eq_getElem_cons h, List.take_append_drop]
theorem Full.front {l : List UInt8} (h : Full l) {k : Nat} (hk : k < 256) : Full (frontL l k) :=
  ⟨by rw [frontL_length (by rw [h.1]; exact hk)]; exact h.1, fun x => (frontL_perm (by rw [h.1]; exact hk)).mem_iff.2 (h.2 x)⟩
theorem Full.idx {l : List UInt8} (h : Full l) (c : UInt8) : l.idxOf c < 256 ∧ l[l.idxOf c]? = some c ∧ ∀ j, j < l.idxOf c → ∃ y, l[j]? = some y ∧ y ≠ c := by
  have h1 : l.idxOf c < l.length := List.idxOf_lt_length_iff.2 (h.2 c)
  refine ⟨by rw [← h.1]; exact h1, ?_, ?_⟩
  · rw [List.getElem?_eq_getElem h1, List.getElem_idxOf h1]
  · intro j hj
    refine ⟨l[j]'(by omega), List.getElem?_eq_getElem (by omega), ?_⟩
    intro e
    have := List.not_of_lt_findIdx (p := (· == c)) (xs := l) (i := j) hj
    simp [e] at this
def mtf0 : List UInt8 := (List.range 256).map UInt8.ofNat
theorem mtf0_full : Full mtf0 := by
  refine ⟨by simp [mtf0], fun x => ?_⟩
  unfold mtf0
  rw [List.mem_map]
  exact ⟨x.toNat, List.mem_range.2 x.toNat_lt, by simp⟩
def lstE (l : List UInt8) (b : List UInt8) : List UInt8 := b.foldl (fun l c => frontL l (l.idxOf c)) l
def lstD (l : List UInt8) (b : List UInt8) : List UInt8 := b.foldl (fun l a => frontL l a.toNat) l
def mtfE : List UInt8 → List UInt8 → List UInt8
  | _, [] => []
  | l, c :: r => UInt8.ofNat (l.idxOf c) :: mtfE (frontL l (l.idxOf c)) r
def mtfD : List UInt8 → List UInt8 → List UInt8
  | _, [] => []
  | l, a :: r => l.getD a.toNat 0 :: mtfD (frontL l a.toNat) r
theorem mtfE_snoc (c : UInt8) : ∀ (b l : List UInt8), mtfE l (b ++ [c]) = mtfE l b ++ [UInt8.ofNat ((lstE l b).idxOf c)]
  | [], l => rfl
  | x :: r, l => by
    show UInt8.ofNat (l.idxOf x) :: mtfE _ (r ++ [c]) = _
    rw [mtfE_snoc c r]
    rfl
theorem mtfD_snoc (c : UInt8) : ∀ (b l : List UInt8), mtfD l (b ++ [c]) = mtfD l b ++ [(lstD l b).getD c.toNat 0]
  | [], l => rfl
  | x :: r, l => by
    show l.getD x.toNat 0 :: mtfD _ (r ++ [c]) = _
    rw [mtfD_snoc c r]
    rfl
theorem lstE_snoc (c : UInt8) (b l : List UInt8) : lstE l (b ++ [c]) = frontL (lstE l b) ((lstE l b).idxOf c) := by simp [lstE]
theorem lstD_snoc (c : UInt8) (b l : List UInt8) : lstD l (b ++ [c]) = frontL (lstD l b) c.toNat := by simp [lstD]
theorem lstE_full {l : List UInt8} (h : Full l) : ∀ b, Full (lstE l b) := by
  intro b
  induction b generalizing l with
  | nil => exact h
  | cons c r ih => exact ih (h.front (h.idx c).1)
theorem lstD_full {l : List UInt8} (h : Full l) : ∀ b, Full (lstD l b) := by
  intro b
  induction b generalizing l with
  | nil => exact h
  | cons c r ih => exact ih (h.front c.toNat_lt)
theorem mtfE_length : ∀ (b l : List UInt8), (mtfE l b).length = b.length
  | [], _ => rfl
  | c :: r, l => by simp [mtfE, mtfE_length r]
theorem mtfD_length : ∀ (b l : List UInt8), (mtfD l b).length = b.length
  | [], _ => rfl
  | c :: r, l => by simp [mtfD, mtfD_length r]
/-- It comes back. -/
theorem mtf_back : ∀ (b l : List UInt8), Full l → mtfD l (mtfE l b) = b
  | [], _, _ => rfl
  | c :: r, l, h => by
    obtain ⟨h1, h2, _⟩ := h.idx c
    have e : (UInt8.ofNat (l.idxOf c)).toNat = l.idxOf c := by simp; omega
    show l.getD (UInt8.ofNat (l.idxOf c)).toNat 0 :: mtfD (frontL l (UInt8.ofNat (l.idxOf c)).toNat) (mtfE (frontL l (l.idxOf c)) r) = c :: r
    rw [e, mtf_back r _ (h.front h1), List.getD_eq_getElem?_getD, h2]
    rfl
/-- Of equal bytes: the first one's place, then noughts. -/
theorem mtf_equal (c : UInt8) : ∀ (n : Nat) (l : List UInt8), mtfE (c :: l) (List.replicate n c) = List.replicate n 0
  | 0, _ => rfl
  | n + 1, l => by
    have e : (c :: l).idxOf c = 0 := by simp
    show UInt8.ofNat ((c :: l).idxOf c) :: mtfE (frontL (c :: l) ((c :: l).idxOf c)) (List.replicate n c) = _
    rw [e]
    have e2 : frontL (c :: l) 0 = c :: l := by simp [frontL]
    rw [e2, mtf_equal c n l]
    rfl
end Go.Proofs.Ytdhnmcdgiddhdaa
/-
  entropy, plain: symbols, how many of each, codes' lengths.
-/
set_option linter.unusedVariables false
set_option linter.unusedSimpArgs false
namespace Go.Proofs.Ytdhnmcdgiddhdaa
open Go.RowKit
theorem runL_range : ∀ n : Nat, ∀ x ∈ runL n, 0 ≤ x ∧ x ≤ 1 := by
  intro n
  induction n using Nat.strongRecOn with
  | _ n ih =>
    intro x hx
    rcases Nat.eq_zero_or_pos n with h | h
    · subst h; rw [runL_zero] at hx; cases hx
    · rw [runL_pos h] at hx
      rcases List.mem_cons.1 hx with rfl | hx
      · omega
      · exact ih _ (by omega) x hx
theorem enc_range : ∀ (bs : List UInt8) (k : Nat), ∀ x ∈ enc bs k, 0 ≤ x ∧ x ≤ 257
  | [], k, x, hx => by
    rw [enc, List.mem_append] at hx
    rcases hx with hx | hx
    · have := runL_range _ x hx; omega
    · simp at hx; omega
  | b :: bs, k, x, hx => by
    rw [enc] at hx
    split at hx
    · exact enc_range bs _ x hx
    · rcases List.mem_append.1 hx with hx | hx
      · have := runL_range _ x hx; omega
      · rcases List.mem_cons.1 hx with rfl | hx
        · have := b.toNat_lt; omega
        · exact enc_range bs _ x hx
/-- How many of each symbol. -/
def frE (xs : List Int) : List Int := mkI (fun s => ((xs.count (s : Int) : Nat) : Int)) 258
theorem frE_length (xs : List Int) : (frE xs).length = 258 := mkI_length _ _
theorem frE_zero : frE [] = List.replicate 258 0 := by
  unfold frE
  simp only [List.count_nil]
  exact mkI_const 0 258
theorem frE_step (xs : List Int) (x : Nat) : frE (xs ++ [(x : Int)]) = (frE xs).set x (((xs.count (x : Int) : Nat) : Int) + 1) := by
  unfold frE
  rw [mkI_set]
  refine mkI_congr _ _ _ (fun i hi => ?_)
  rw [List.count_append]
  by_cases e : i = x
  · subst e; rw [if_pos rfl]; simp
  · rw [if_neg e]
    have : ([(x : Int)] : List Int).count (i : Int) = 0 := by rw [List.count_eq_zero]; simp; omega
    rw [this]
    simp
theorem frE_good (xs : List Int) (h : xs.length ≤ 1000000) : badL (frE xs) = false := by
  unfold badL
  rw [frE_length, Bool.or_eq_false_iff]
  refine ⟨by decide, ?_⟩
  rw [List.any_eq_false]
  intro x hx
  unfold frE mkI at hx
  obtain ⟨s, _, rfl⟩ := List.mem_map.1 hx
  have := List.count_le_length (a := (s : Int)) (l := xs)
  unfold badF
  simp
  omega
/-- The codes' lengths. -/
def lensE (xs : List Int) : List Int := mkI (fun s => (lenP (fN (frE xs)) s : Int)) 258
theorem lensE_length (xs : List Int) : (lensE xs).length = 258 := mkI_length _ _
theorem lensE_range (xs : List Int) : ∀ x ∈ lensE xs, 0 ≤ x ∧ x ≤ 15 := by
  intro x hx
  unfold lensE mkI at hx
  obtain ⟨s, _, rfl⟩ := List.mem_map.1 hx
  have hF : (fN (frE xs)).length ≤ 300 := by rw [fN_length, frE_length]; omega
  rcases Nat.eq_zero_or_pos ((fN (frE xs)).getD s 0) with h | h
  · rw [lenP_zero hF h]; omega
  · have := lenP_bounds hF h; omega
theorem kraft_mk (g : Nat → Nat) (n : Nat) : kraftP (mkI (fun s => (g s : Int)) n) = ((List.range n).map fun s => krP (g s)).sum := by
  unfold kraftP mkI
  rw [List.map_map]
  refine congrArg List.sum (List.map_congr_left (fun s _ => ?_))
  show (if 1 ≤ ((g s : Nat) : Int) ∧ ((g s : Nat) : Int) ≤ 15 then 2 ^ (15 - (((g s : Nat) : Int)).toNat) else 0) = krP (g s)
  unfold krP
  rw [Int.toNat_natCast]
  by_cases q : 1 ≤ g s ∧ g s ≤ 15
  · rw [if_pos q, if_pos (by omega)]
  · rw [if_neg q, if_neg (by omega)]
theorem lensE_kraft (xs : List Int) : kraftP (lensE xs) ≤ 32768 := by
  have hF : (fN (frE xs)).length ≤ 300 := by rw [fN_length, frE_length]; omega
  have hk := kraft_lenP hF
  rw [fN_length, frE_length] at hk
  have e := kraft_mk (fun s => lenP (fN (frE xs)) s) 258
  unfold lensE
  rw [e, hk]
  split
  · omega
  · split <;> omega
theorem lensE_ok (xs : List Int) : okLens (lensE xs) = true := by
  rw [okLens_iff]
  exact ⟨by rw [lensE_length]; omega, lensE_kraft xs, lensE_range xs⟩
end Go.Proofs.Ytdhnmcdgiddhdaa
/-
  copy of cells into a row of the call's own; append of zeros onto a row that has no room.
-/
set_option linter.unusedVariables false
set_option linter.unusedSimpArgs false
namespace Go.Proofs.Ytdhnmcdgiddhdaa
open Go.RowKit
set_option maxRecDepth 100000
section
variable {P : Program} {B : Nat} {w0 w w' : World} {L : List HL} {c : HL} {T : TypeId} {v : Value} {n by_ g cap : Nat} {xs : List Value}
theorem RowC.storeAll : ∀ (ys : List Value) (d : Nat) (xs : List Value) (c : HL) (w : World) (L : List HL) (i : Nat), RowC T 1 (.slice (some ⟨g, 0, none⟩) n cap) n xs c → St B w0 w L → L[i]? = some c → d + ys.length ≤ n →
    ∃ c', RowC T 1 (.slice (some ⟨g, 0, none⟩) n cap) n (xs.take d ++ ys ++ xs.drop (d + ys.length)) c' ∧ St B w0 (w.setCells g d ys) (L.set i c')
  | [], d, xs, c, w, L, i, h, hS, hi, hd => ⟨c, by simpa using h, by rw [set_same hi]; exact hS⟩
  | y :: r, d, xs, c, w, L, i, h, hS, hi, hd => by
    obtain ⟨c1, h1, hS1⟩ := h.store hS i hi rfl d y
    have hil : i < L.length := (List.getElem?_eq_some_iff.1 hi).1
    obtain ⟨c2, h2, hS2⟩ := RowC.storeAll r (d + 1) (xs.set d y) c1 (w.setCell ⟨g, d, none⟩ y) (L.set i c1) i h1 hS1 (by simp [hil]) (by simp at hd; omega)
    refine ⟨c2, ?_, ?_⟩
    · have hl := h.len
      have e : (xs.set d y).take (d + 1) ++ r ++ (xs.set d y).drop (d + 1 + r.length) = xs.take d ++ (y :: r) ++ xs.drop (d + (y :: r).length) := by
        simp only [List.length_cons] at hd ⊢
        rw [List.drop_set_of_lt (by omega), List.take_add_one, List.getElem?_set_self (by omega), List.take_set_of_le (Nat.le_refl _), show d + 1 + r.length = d + (r.length + 1) from by omega]
        simp
      rw [← e]
      exact h2
    · rw [List.set_set] at hS2
      exact hS2
/-- More of a row's room, less of it. -/
theorem RowC.wide (h : RowC T 1 (.slice (some ⟨g, 0, none⟩) n cap) n xs c) (m : Nat) (hm : n + m ≤ cap) : ∃ ys, ys.length = m ∧ RowC T 1 (.slice (some ⟨g, 0, none⟩) (n + m) cap) (n + m) (xs ++ ys) c := by
  rcases h.2 with ⟨hv, _, _⟩ | ⟨g', cap', cur, hv, rfl, h1, h2, h3, h4⟩
  · simp at hv
  · simp only [Value.slice.injEq, Option.some.injEq, Addr.mk.injEq, and_true, true_and] at hv
    obtain ⟨rfl, rfl⟩ := hv
    have hl := h.1
    refine ⟨(cur.toList.drop n).take m, ?_, ?_, .inr ⟨g, cap, cur, rfl, rfl, hm, h2, h3, ?_⟩⟩
    · simp [h3]; omega
    · simp [h3, hl]; omega
    · rw [← h4, Nat.mul_one, Nat.mul_one, ← List.take_add]
theorem RowC.short (h : RowC T 1 (.slice (some ⟨g, 0, none⟩) n cap) n xs c) (m : Nat) (hm : m ≤ n) : RowC T 1 (.slice (some ⟨g, 0, none⟩) m cap) m (xs.take m) c := by
  rcases h.2 with ⟨hv, _, _⟩ | ⟨g', cap', cur, hv, rfl, h1, h2, h3, h4⟩
  · simp at hv
  · simp only [Value.slice.injEq, Option.some.injEq, Addr.mk.injEq, and_true, true_and] at hv
    obtain ⟨rfl, rfl⟩ := hv
    have hl := h.1
    refine ⟨by simp; omega, .inr ⟨g, cap, cur, rfl, rfl, by omega, h2, h3, ?_⟩⟩
    rw [← h4, List.take_take]
    congr 1
    omega
theorem run_copyC (t t' ty : TypeId) (ht : P.underlying t = some (.slice T)) (hsz : (P.info? T).map (·.size) = some 1) (hS : St B w0 w L) (j : Nat) (hj : L[j]? = some c) (hr : RowC T 1 (.slice (some ⟨g, 0, none⟩) n cap) n xs c) {dd dl dc sl sc : Nat} {ad : Addr} {ys : List Value}
    (hsrc : Rd w 1 (.slice (some ad) sl sc) sl ys) (k : Nat) (h1 : ∀ u ∈ ys.take k, u.oneCell' = true) (hk : k = min sl dl) (hfit : dd + k ≤ n) :
    ∃ w' c', (Builtin.copy_ #[t, t'] ty #[.slice (some ⟨g, dd, none⟩) dl dc, .slice (some ad) sl sc]).run P w = .ok (goInt k) w' ∧ RowC T 1 (.slice (some ⟨g, 0, none⟩) n cap) n (xs.take dd ++ ys.take k ++ xs.drop (dd + k)) c' ∧ St B w0 w' (L.set j c') := by
  have hyl : ys.length = sl := by have := hsrc.len; omega
  have hlk : (ys.take k).length = k := by rw [List.length_take]; omega
  have hxl := hr.len
  obtain ⟨c', hc1, hc2⟩ := RowC.storeAll (ys.take k) dd xs c w L j hr hS hj (by omega)
  have hrun := run_copy_cells (P := P) w t t' ty T g dd dl dc ad sl sc (ys.take k) ht hsz (by rw [hlk, hk])
    (by
      intro q u hu
      rw [List.getElem?_take] at hu
      split at hu
      · obtain ⟨ad', e, hc⟩ := hsrc.at hu
        cases e
        exact hc
      · cases hu)
    (by
      intro q hq
      obtain ⟨u, hu⟩ : ∃ u, xs[dd + q]? = some u := ⟨_, List.getElem?_eq_getElem (by omega)⟩
      rw [hr.cellAt hS j hj hu]
      rfl)
    (by
      intro q hq
      exact hr.freeAt hS j hj _)
    (by
      intro u hu
      exact h1 u hu)
  rw [hlk] at hrun hc1
  exact ⟨_, c', hrun, hc1, hc2⟩
variable {ops : Array Oper} {rest : List Oper} {o : Oper} {a : Act} {Q : Exit → Act → World → Prop}
theorem wpList_copyC (j : Nat) (t t' : TypeId) (d x : Operand) (hgd : o.guard = none) (ho : o.op = .call { callee := .builtin .copy, args := #[d, x], argTypes := #[t, t'] }) {dd dl dc sl sc : Nat} {ad : Addr} {ys : List Value}
    (hd : a.eval d = .slice (some ⟨g, dd, none⟩) dl dc) (hx : a.eval x = .slice (some ad) sl sc) (ht : P.underlying t = some (.slice T)) (hsz : (P.info? T).map (·.size) = some 1) (hS : St B w0 w L) (hj : L[j]? = some c) (hr : RowC T 1 (.slice (some ⟨g, 0, none⟩) n cap) n xs c)
    (hsrc : Rd w 1 (.slice (some ad) sl sc) sl ys) (k : Nat) (h1 : ∀ u ∈ ys.take k, u.oneCell' = true) (hk : k = min sl dl) (hfit : dd + k ≤ n)
    (h : ∀ c' w', RowC T 1 (.slice (some ⟨g, 0, none⟩) n cap) n (xs.take dd ++ ys.take k ++ xs.drop (dd + k)) c' → St B w0 w' (L.set j c') → wpList P ops Q rest (a.put o.dst (goInt k)) w') : wpList P ops Q (o :: rest) a w := by
  refine wpList_plain hgd fun K hK => ?_
  obtain ⟨w', c', hrun, h2, h3⟩ := run_copyC (P := P) t t' o.type ht hsz hS j hj hr (dc := dc) hsrc k h1 hk hfit
  unfold Oper.wp execOp
  simp only [ho, resolve, invoke, builtin, Sem.run_bind, Sem.run_pure, Result.andThen_ok, List.map_toArray, List.map_cons, List.map_nil, hd, hx, hrun]
  exact hK _ _ (h c' w' h2 h3)
/-- The same, as a step of a region that draws. -/
theorem step_copyC {E : Prop} {K : Act → World → Prop} (j : Nat) (t t' : TypeId) (d x : Operand) (hgd : o.guard = none) (ho : o.op = .call { callee := .builtin .copy, args := #[d, x], argTypes := #[t, t'] }) {dd dl dc sl sc : Nat} {ad : Addr} {ys : List Value}
    (hd : a.eval d = .slice (some ⟨g, dd, none⟩) dl dc) (hx : a.eval x = .slice (some ad) sl sc) (ht : P.underlying t = some (.slice T)) (hsz : (P.info? T).map (·.size) = some 1) (hS : St B w0 w L) (hj : L[j]? = some c) (hr : RowC T 1 (.slice (some ⟨g, 0, none⟩) n cap) n xs c)
    (hsrc : Rd w 1 (.slice (some ad) sl sc) sl ys) (k : Nat) (h1 : ∀ u ∈ ys.take k, u.oneCell' = true) (hk : k = min sl dl) (hfit : dd + k ≤ n)
    (h : ∀ c' w', RowC T 1 (.slice (some ⟨g, 0, none⟩) n cap) n (xs.take dd ++ ys.take k ++ xs.drop (dd + k)) c' → St B w0 w' (L.set j c') → K (a.put o.dst (goInt k)) w') : if Region.wanted o (yielded ops a.tmps) = true then Oper.wp P o a w K Q else E := by
  rw [if_pos (by simp [Region.wanted, hgd])]
  obtain ⟨w', c', hrun, h2, h3⟩ := run_copyC (P := P) t t' o.type ht hsz hS j hj hr (dc := dc) hsrc k h1 hk hfit
  unfold Oper.wp execOp
  simp only [ho, resolve, invoke, builtin, Sem.run_bind, Sem.run_pure, Result.andThen_ok, List.map_toArray, List.map_cons, List.map_nil, hd, hx, hrun]
  exact h c' w' h2 h3
/-- 'append(s, make([]T, k)...)' where s has no room: a new row. -/
theorem run_app0G (t tn ty : TypeId) (i : TypeInfo) (z : Value) (kq kn : IntKind) (ht : P.underlying t = some (.slice T)) (htn : P.underlying tn = some (.int kn)) (hi : P.info? T = some i) (hz : i.zero = some z) (hsize : i.size = 1) (hby : i.bytes = by_) (hzs : z.cells = #[z])
    (hS : St B w0 w L) {ad : Addr} {cp : Nat} (hr : Rd w 1 (.slice (some ad) n cp) n xs) (k : Nat) (hk : 0 < k) (hcp : cp < n + k) (h63 : n + k ≤ maxLen) (hbytes : (n + k) * by_ ≤ 140737488355328) :
    ∃ v' w' c', (Builtin.append_ #[t, tn] ty #[.slice (some ad) n cp, .int kq k]).run P w = .ok v' w' ∧ (∃ g' cap', v' = .slice (some ⟨g', 0, none⟩) (n + k) cap') ∧ RowC T 1 v' (n + k) (xs ++ List.replicate k z) c' ∧ St B w0 w' (c' :: L) := by
  have hsmall : n + k ≤ 9223372036854775807 := by simp only [maxLen] at h63; omega
  have hl := hr.len
  have hlen : (xs ++ List.replicate k z).length = (n + k) * 1 := by rw [List.length_append, hl, List.length_replicate]; omega
  subst hby
  have hkb : k * i.bytes ≤ 140737488355328 := Nat.le_trans (Nat.mul_le_mul_right _ (Nat.le_add_left k n)) hbytes
  have holds : ∀ j u, xs[j]? = some u → w.cell? (ad.add j) = some u := by
    intro j u hu
    obtain ⟨ad', e, hc⟩ := hr.at hu
    cases e
    exact hc
  have hfc := run_firstCells_some (P := P) (w := w.drew) i.size n ad n cp xs (by rw [hsize]; exact hl) (fun j u hu => by rw [World.cell?_drew]; exact holds j u hu)
  have hrun := Lib.run_append_grow_zeros (P := P) w t tn ty T i z kq kn ht htn hi hz (some ad) n cp xs hfc k hk (by omega) (by omega) (by omega) (by omega) (growslice_fits (by omega) hbytes)
  have hge := grownCap_ge w (n + k) cp T
  refine ⟨_, _, _, hrun, ⟨_, _, rfl⟩, RowC.fresh _ _ hlen hge (grownCap_le_maxLen w (n + k) cp T h63) ?_ ?_, hS.drew.alloc _⟩
  · simp only [Array.size_append, List.size_toArray, size_zeroCells, hzs, hl]
    simp
    omega
  · simp only [Array.toList_append, hzs, zeroCells_one]
    rw [← hlen]
    exact List.take_left
theorem wpList_app0G (t tn : TypeId) (i : TypeInfo) (z : Value) (kq kn : IntKind) (k : Nat) (s x : Operand) (hgd : o.guard = none) (ho : o.op = .call { callee := .builtin .append, args := #[s, x], argTypes := #[t, tn] })
    (X : Int) {ad : Addr} {cp : Nat} (hs : a.eval s = .slice (some ad) n cp) (hx : a.eval x = .int kq X) (ht : P.underlying t = some (.slice T)) (htn : P.underlying tn = some (.int kn)) (hi : P.info? T = some i) (hz : i.zero = some z) (hsize : i.size = 1) (hby : i.bytes = by_) (hzs : z.cells = #[z])
    (hX : X = (k : Int)) (hS : St B w0 w L) (hr : Rd w 1 (.slice (some ad) n cp) n xs) (hk : 0 < k) (hcp : cp < n + k) (h63 : n + k ≤ maxLen) (hbytes : (n + k) * by_ ≤ 140737488355328) (N : Nat) (hN : n + k = N)
    (h : ∀ g' cap' c' w', RowC T 1 (.slice (some ⟨g', 0, none⟩) N cap') N (xs ++ List.replicate k z) c' → St B w0 w' (c' :: L) → wpList P ops Q rest (a.put o.dst (.slice (some ⟨g', 0, none⟩) N cap')) w') : wpList P ops Q (o :: rest) a w := by
  subst hX hN
  refine wpList_plain hgd fun K hK => ?_
  obtain ⟨v', w', c', hrun, ⟨g', cap', rfl⟩, h2, h3⟩ := run_app0G (P := P) t tn o.type i z kq kn ht htn hi hz hsize hby hzs hS hr k hk hcp h63 hbytes
  unfold Oper.wp execOp
  simp only [ho, resolve, invoke, builtin, Sem.run_bind, Sem.run_pure, Result.andThen_ok, List.map_toArray, List.map_cons, List.map_nil, hs, hx, hrun]
  exact hK _ _ (h g' cap' c' w' h2 h3)
end
end Go.Proofs.Ytdhnmcdgiddhdaa
/-
  Bytes as cells.
-/
set_option linter.unusedVariables false
set_option linter.unusedSimpArgs false
namespace Go.Proofs.Ytdhnmcdgiddhdaa
open Go.RowKit
set_option maxRecDepth 100000
theorem infoU8 : (Try.prog.info? 5).map (fun i => (i.zero, i.size, i.bytes)) = some (some (.int .u8 0), 1, 1) := by kernel_rfl
/-- Bytes as cells. -/
def bv (bs : List UInt8) : List Value := bs.map fun b => .int .u8 (b.toNat : Int)
theorem bv_length (bs : List UInt8) : (bv bs).length = bs.length := by simp [bv]
theorem bv_append (a b : List UInt8) : bv (a ++ b) = bv a ++ bv b := by simp [bv]
theorem bv_get (bs : List UInt8) (i : Nat) (b : UInt8) (h : bs[i]? = some b) : (bv bs)[i]? = some (.int .u8 (b.toNat : Int)) := by simp [bv, h]
theorem bv_set (bs : List UInt8) (i : Nat) (b : UInt8) : bv (bs.set i b) = (bv bs).set i (.int .u8 (b.toNat : Int)) := by simp [bv, List.map_set]
theorem bv_one (bs : List UInt8) : ∀ u ∈ bv bs, u.oneCell' = true := by
  intro u hu
  obtain ⟨b, _, rfl⟩ := List.mem_map.1 hu
  rfl

@[go_sem] theorem eql_nil_bytes (w : World) (ao : Option Addr) (n c : Nat) : (binOp .eql 22 (.slice ao n c) (.slice none 0 0)).run Try.prog w = .ok (.bool ao.isNone) w := Lib.run_eql_slice_nil w _ _ _ _ _ _ _ Try.underlying22

end Go.Proofs.Ytdhnmcdgiddhdaa
/-
  append of a row of zeros, the greater of two, numbers as cells (XIv), with bytes.
-/
set_option linter.unusedVariables false
set_option linter.unusedSimpArgs false
namespace Go.Proofs.Ytdhnmcdgiddhdaa
open Go.RowKit
theorem bv_zeros (k : Nat) : bv (List.replicate k 0) = List.replicate k (.int .u8 0) := by simp [bv]
end Go.Proofs.Ytdhnmcdgiddhdaa
/-
  Contracts of mtf.list, mtf.front, mtf.Encode, mtf.Decode.
-/
set_option linter.unusedVariables false
set_option linter.unusedSimpArgs false
namespace Go.Proofs.Ytdhnmcdgiddhdaa
open Go.RowKit
set_option maxRecDepth 100000
theorem bv_snoc (l : List UInt8) (x : UInt8) : bv l ++ [.int .u8 (x.toNat : Int)] = bv (l ++ [x]) := by simp [bv]
def BytesOut (b : List UInt8) (w : World) (e : Ending) (w' : World) : Prop := ∃ v c, e = .returned v ∧ RowC 5 1 v b.length (bv b) c ∧ St w.heap.size w w' [c]
set_option maxHeartbeats 2000000 in
theorem mtflist_any (w : World) : Calls Try.prog 41 #[] w (BytesOut mtf0 w) := by
  obtain ⟨i0, i0a, i0b, i0c, i0d⟩ := info_parts infoU8
  have hS0 := (St.init w).one_nil
  have h0 : mtf0.length = 256 := mtf0_full.1
  go_enter Try.func41, Try.ntmps41
  go_wp2_with fail
  go_loopg [1, 3] 256 (fun m s1 s3 wr => ∃ i : Nat, i + m = 256 ∧ s3 = .int .i64 (i : Int) ∧ ∃ c, RowC 5 1 s1 i (bv (mtf0.take i)) c ∧ St w.heap.size w wr [c])
  case atStart => exact ⟨0, by omega, rfl, [], RowC.nil _ _, hS0⟩
  case round =>
    clear hS0
    obtain ⟨i, hi, rfl, c, hr, hS⟩ := hrel
    obtain ⟨ao1, cap1, rfl⟩ := hr.shape
    cases gk with
    | succ m =>
      have hif : (i : Int) < 256 := by omega
      have hx : mtf0[i]? = some (UInt8.ofNat i) := by unfold mtf0; rw [List.getElem?_map, List.getElem?_range (by omega)]; rfl
      have hu : (UInt8.ofNat i).toNat = i := by simp; omega
      have HT : Hid (bv (mtf0.take i) ++ [.int .u8 (i : Int)] = bv (mtf0.take (i + 1))) := Lib.hid (by
        rw [List.take_add_one, hx, show (i : Int) = ((UInt8.ofNat i).toNat : Int) from by rw [hu], bv_snoc]
        rfl)
      have hw : IntKind.u8.wrap (i : Int) = (i : Int) := by rw [IntKind.wrap_u8]; omega
      clear hx hu
      go_wp2_with (at_builtin; (refine wpList_app1 0 22 i0 (.int .u8 0) _ _ _ rfl rfl rfl rfl Try.underlying22 i0a i0b i0c i0d rfl hS rfl hr rfl ?_ ?_ ?_); (unfold maxLen; omega); omega; intro v1 c1 w3 hr1 hS1)
      rw [HT.out] at hr1
      go_roundg m
      case measure => omega
      case rel => exact ⟨i + 1, by omega, by go_num, c1, hr1, hS1⟩
    | zero =>
      obtain rfl : i = 256 := by omega
      have hz : ¬ (256 : Int) < 256 := by omega
      have HF := Lib.hid (And.intro hr hS)
      clear hr hS
      go_wp2_with fail
      go_ret
      refine ⟨_, c, rfl, ?_, HF.out.2⟩
      rw [h0]
      have := HF.out.1
      rwa [List.take_of_length_le (by omega)] at this
theorem front_list (l : List UInt8) (k : Nat) (x : UInt8) (hk : k < l.length) (hx : l[k]? = some x) : ((bv l).take 1 ++ ((bv l).take k).take k ++ (bv l).drop (1 + k)).set 0 (.int .u8 (x.toNat : Int)) = bv (frontL l k) := by
  have e : l.getD k 0 = x := by rw [List.getD_eq_getElem?_getD, hx]; rfl
  unfold frontL
  rw [e]
  cases l with
  | nil => simp at hk
  | cons a r => simp [bv, List.take_take, Nat.add_comm 1 k]
theorem St.swap0 {B : Nat} {w0 w : World} {c : List (Nat × Obj)} (h : St B w0 w [c]) : St B w0 w [c, []] := h.one_nil.pick [1, 0] (by decide) [c, []] rfl
def FrontOut (l : List UInt8) (k g cap B : Nat) (w0 : World) (F : List (List (Nat × Obj))) (e : Ending) (w' : World) : Prop :=
  e = .returned (.tuple #[]) ∧ ∃ c, RowC 5 1 (.slice (some ⟨g, 0, none⟩) 256 cap) 256 (bv (frontL l k)) c ∧ St B w0 w' (c :: F)
set_option maxHeartbeats 4000000 in
theorem front_any {B : Nat} {w0 : World} {F : List (List (Nat × Obj))} {c : List (Nat × Obj)} (l : List UInt8) (k g cap : Nat) (w : World) (hl : l.length = 256) (hk : k < 256) (hr : RowC 5 1 (.slice (some ⟨g, 0, none⟩) 256 cap) 256 (bv l) c) (hS : St B w0 w (c :: F)) :
    Calls Try.prog 42 #[.slice (some ⟨g, 0, none⟩) 256 cap, .int .i64 (k : Int)] w (FrontOut l k g cap B w0 F) := by
  obtain ⟨i1, hi1, hz1, hs1, hb1⟩ := info_parts infoU8
  have hsz : (Try.prog.info? 5).map (·.size) = some 1 := by rw [hi1]; simp [hs1]
  obtain ⟨hc1, hc2⟩ := hr.cap
  obtain ⟨x, hx⟩ : ∃ x, l[k]? = some x := ⟨_, List.getElem?_eq_getElem (by omega)⟩
  have hcx := hr.cellAt hS 0 rfl (bv_get l k x hx)
  have hki : (k : Int) < 256 := by omega
  have hw1 : IntKind.i64.wrap ((k : Int) + 1) = (k : Int) + 1 := IntWalk.i64_in _ (by omega)
  have hw2 : (1 : Int) ≤ (k : Int) + 1 := by omega
  have hw3 : ((k : Int) + 1).toNat = k + 1 := by omega
  have hw4 : (k : Int) + 1 ≤ (cap : Int) := by omega
  have hw5 : ¬ cap = 1 := by omega
  have hw6 : (k : Int) ≤ (cap : Int) := by omega
  have hw7 : k + 1 ≤ cap := by omega
  have hw8 : k ≤ cap := by omega
  have HS := Lib.hid (And.intro hr hS)
  have HX := Lib.hid hx
  clear hx
  go_enter Try.func42, Try.ntmps42
  go_wp2_with fail
  have hSd := HS.out.2.drew
  have HSRC : Hid (Rd w.drew 1 (.slice (some ⟨g, 0, none⟩) k cap) k ((bv l).take k)) := Lib.hid (by
    have := (HS.out.1.rd hSd 0 rfl).take k (by omega)
    rwa [Nat.mul_one] at this)
  have hbl : (bv l).length = 256 := by rw [bv_length, hl]
  go_region_law (refine step_copyC (g := g) (n := 256) (cap := cap) (xs := bv l) (ys := (bv l).take k) (dl := k) (dd := 1) (dc := cap - 1) (sl := k) (sc := cap) (ad := ⟨g, 0, none⟩) 0 22 22 (.tmp 12) (.tmp 15) rfl rfl (by kernel_rfl) (by kernel_rfl) Try.underlying22 hsz hSd rfl HS.out.1 HSRC.out k (fun z hz => bv_one l z (List.mem_of_mem_take (List.mem_of_mem_take hz))) (by omega) (by omega) (fun c1 w1 hr1 hS1 => ?_))
  all_goals (
    have hf := hr1.freeAt hS1 0 rfl 0
    have hlen := hr1.len
    obtain ⟨y, hy⟩ : ∃ y, ((bv l).take 1 ++ ((bv l).take k).take k ++ (bv l).drop (1 + k))[0]? = some y := ⟨_, List.getElem?_eq_getElem (by omega)⟩
    have hcy := hr1.cellAt hS1 0 rfl hy
    have HF : Hid (∃ c, RowC 5 1 (.slice (some ⟨g, 0, none⟩) 256 cap) 256 (bv (frontL l k)) c ∧ St B w0 (w1.setCell ⟨g, 0, none⟩ (.int .u8 (x.toNat : Int))) (c :: F)) := Lib.hid (by
      obtain ⟨c2, h1, h2⟩ := hr1.store hS1 0 rfl rfl 0 (.int .u8 (x.toNat : Int))
      refine ⟨c2, ?_, h2⟩
      rw [← front_list l k x (by omega) HX.out]
      exact h1)
    clear hr1 hS1 hy hlen
    go_wp2_with fail
    go_end0
    exact ⟨rfl, HF.out⟩)
set_option maxHeartbeats 4000000 in
theorem mtfenc_any (v : Value) (b : List UInt8) (w : World) (h : Rd w 1 v b.length (bv b)) (hn : b.length ≤ 1000000) :
    Calls Try.prog 25 #[v] w (BytesOut (mtfE mtf0 b) w) := by
  obtain ⟨i0, i0a, i0b, i0c, i0d⟩ := info_parts infoU8
  obtain ⟨ao, cap, rfl⟩ := h.shape
  have H0 := Lib.hid h
  have hni : (b.length : Int) ≤ 1000000 := by omega
  clear h
  go_enter Try.func25, Try.ntmps25
  go_wp2_with fail
  refine (mtflist_any w).mono ?_
  rintro e w1 ⟨vl, cl, rfl, hl, hS1⟩
  have hl' : RowC 5 1 vl 256 (bv mtf0) cl := by have := hl; rwa [mtf0_full.1] at this
  obtain ⟨aol, capl, rfl⟩ := hl'.shape
  obtain ⟨gl, rfl⟩ := hl'.head (by omega)
  have hS0 := hS1.swap0
  clear hl hS1
  go_wp2_with fail
  go_loopg [4, 11] b.length (fun m s4 s11 wr => ∃ i : Nat, i + m = b.length ∧ s11 = .int .i64 (i : Int) ∧ ∃ cl co, RowC 5 1 (.slice (some ⟨gl, 0, none⟩) 256 capl) 256 (bv (lstE mtf0 (b.take i))) cl ∧ RowC 5 1 s4 i (bv (mtfE mtf0 (b.take i))) co ∧ St w.heap.size w wr [cl, co])
  case atStart => exact ⟨0, by omega, rfl, cl, [], hl', RowC.nil _ _, hS0⟩
  case round =>
    clear hS0 hl'
    obtain ⟨i, hi, rfl, cl, co, hl, ho, hS⟩ := hrel
    obtain ⟨ao4, cap4, rfl⟩ := ho.shape
    cases gk with
    | succ m =>
      have hif : (i : Int) < (b.length : Int) := by omega
      obtain ⟨x, hx⟩ : ∃ x, b[i]? = some x := ⟨_, List.getElem?_eq_getElem (by omega)⟩
      obtain ⟨ad, rfl, hc⟩ := (H0.out.st hS).at (bv_get b i x hx)
      have hfull := lstE_full mtf0_full (b.take i)
      obtain ⟨x1, x2, x3⟩ := hfull.idx x
      have HT : Hid (b.take (i + 1) = b.take i ++ [x]) := Lib.hid (by rw [List.take_add_one, hx]; rfl)
      have HE : Hid (mtfE mtf0 (b.take (i + 1)) = mtfE mtf0 (b.take i) ++ [UInt8.ofNat ((lstE mtf0 (b.take i)).idxOf x)] ∧ lstE mtf0 (b.take (i + 1)) = frontL (lstE mtf0 (b.take i)) ((lstE mtf0 (b.take i)).idxOf x)) := Lib.hid ⟨by rw [HT.out, mtfE_snoc], by rw [HT.out, lstE_snoc]⟩
      clear hx
      obtain ⟨E2, L2, HQ⟩ : ∃ E2 L2, Hid (mtfE mtf0 (b.take (i + 1)) = E2 ∧ lstE mtf0 (b.take (i + 1)) = L2) := ⟨_, _, Lib.hid ⟨rfl, rfl⟩⟩
      rw [HQ.out.1, HQ.out.2] at HE
      generalize mtfE mtf0 (b.take i) = E at *
      generalize lstE mtf0 (b.take i) = L at *
      generalize L.idxOf x = K at *
      have HX := Lib.hid (And.intro x2 x3)
      have HR := Lib.hid (And.intro hl (And.intro ho hS))
      have HFU := Lib.hid hfull.1
      clear hl ho hS x2 x3 hfull
      go_wp2_with fail
      go_loopg [7] K (fun m s7 wk => ∃ j : Nat, j + m = K ∧ s7 = .int .i64 (j : Int) ∧ wr = wk)
      case atStart => exact ⟨0, by omega, rfl, rfl⟩
      case round =>
        obtain ⟨j, hj, rfl, rfl⟩ := hrel
        have hj256 : (j : Int) < 256 := by omega
        cases gk with
        | succ m2 =>
          obtain ⟨y, hy, hne⟩ := HX.out.2 j (by omega)
          have hcy := HR.out.1.cellAt HR.out.2.2 0 rfl (bv_get L j y hy)
          have hne2 : ((y.toNat : Int) != (x.toNat : Int)) = true := by
            rw [bne_iff_ne]
            intro e
            exact hne (UInt8.toNat_inj.1 (by omega))
          clear hy hne
          go_wp2_with fail
          go_roundg m2
          case measure => omega
          case rel => exact ⟨j + 1, by omega, by go_num, rfl⟩
        | zero =>
          obtain rfl : j = K := by omega
          have hcy := HR.out.1.cellAt HR.out.2.2 0 rfl (bv_get L j x HX.out.1)
          have hne2 : ((x.toNat : Int) != (x.toNat : Int)) = false := by simp
          have hw : IntKind.u8.wrap (j : Int) = (j : Int) := by rw [IntKind.wrap_u8]; omega
          have hu : (UInt8.ofNat j).toNat = j := by simp; omega
          have HU : Hid (bv E ++ [.int .u8 (j : Int)] = bv E2) := Lib.hid (by rw [HE.out.1, ← bv_snoc, hu])
          have ho := HR.out.2.1
          have hS := HR.out.2.2
          clear hu
          go_wp2_with (at_builtin; (refine wpList_app1 1 22 i0 (.int .u8 0) _ _ _ rfl rfl rfl rfl Try.underlying22 i0a i0b i0c i0d rfl hS rfl ho rfl ?_ ?_ ?_); (unfold maxLen; omega); omega; intro v1 c1 w3 hr1 hS1)
          rw [HU.out] at hr1
          refine (front_any L j gl capl w3 HFU.out (by omega) HR.out.1 hS1).mono ?_
          rintro e w5 ⟨rfl, cl2, hl2, hS2⟩
          rw [← HE.out.2] at hl2
          have HF := Lib.hid (And.intro hl2 (And.intro hr1 hS2))
          clear hl2 hr1 hS2 hS1 ho hS
          go_wp2_with fail
          go_roundg m
          case measure => omega
          case rel => exact ⟨i + 1, by omega, by go_num, cl2, c1, by rw [HQ.out.2]; exact HF.out.1, by rw [HQ.out.1]; exact HF.out.2.1, HF.out.2.2⟩
    | zero =>
      obtain rfl : i = b.length := by omega
      have hz : ¬ (b.length : Int) < (b.length : Int) := by omega
      have HF := Lib.hid (And.intro ho (hS.pick [1] (by decide) [co] rfl))
      clear hl ho hS
      go_wp2_with fail
      go_ret
      refine ⟨_, co, rfl, ?_, HF.out.2⟩
      rw [mtfE_length]
      have := HF.out.1
      rwa [List.take_length] at this
set_option maxHeartbeats 4000000 in
theorem mtfdec_any (v : Value) (b : List UInt8) (w : World) (h : Rd w 1 v b.length (bv b)) (hn : b.length ≤ 1000000) :
    Calls Try.prog 58 #[v] w (BytesOut (mtfD mtf0 b) w) := by
  obtain ⟨i0, i0a, i0b, i0c, i0d⟩ := info_parts infoU8
  obtain ⟨ao, cap, rfl⟩ := h.shape
  have H0 := Lib.hid h
  have hni : (b.length : Int) ≤ 1000000 := by omega
  clear h
  go_enter Try.func58, Try.ntmps58
  go_wp2_with fail
  refine (mtflist_any w).mono ?_
  rintro e w1 ⟨vl, cl, rfl, hl, hS1⟩
  have hl' : RowC 5 1 vl 256 (bv mtf0) cl := by have := hl; rwa [mtf0_full.1] at this
  obtain ⟨aol, capl, rfl⟩ := hl'.shape
  obtain ⟨gl, rfl⟩ := hl'.head (by omega)
  have hS0 := hS1.swap0
  clear hl hS1
  go_wp2_with fail
  go_loopg [4, 10] b.length (fun m s4 s10 wr => ∃ i : Nat, i + m = b.length ∧ s10 = .int .i64 (i : Int) ∧ ∃ cl co, RowC 5 1 (.slice (some ⟨gl, 0, none⟩) 256 capl) 256 (bv (lstD mtf0 (b.take i))) cl ∧ RowC 5 1 s4 i (bv (mtfD mtf0 (b.take i))) co ∧ St w.heap.size w wr [cl, co])
  case atStart => exact ⟨0, by omega, rfl, cl, [], hl', RowC.nil _ _, hS0⟩
  case round =>
    clear hS0 hl'
    obtain ⟨i, hi, rfl, cl, co, hl, ho, hS⟩ := hrel
    obtain ⟨ao4, cap4, rfl⟩ := ho.shape
    cases gk with
    | succ m =>
      have hif : (i : Int) < (b.length : Int) := by omega
      obtain ⟨x, hx⟩ : ∃ x, b[i]? = some x := ⟨_, List.getElem?_eq_getElem (by omega)⟩
      obtain ⟨ad, rfl, hc⟩ := (H0.out.st hS).at (bv_get b i x hx)
      have hfull := lstD_full mtf0_full (b.take i)
      have hx256 : x.toNat < 256 := x.toNat_lt
      have HT : Hid (b.take (i + 1) = b.take i ++ [x]) := Lib.hid (by rw [List.take_add_one, hx]; rfl)
      have HE : Hid (mtfD mtf0 (b.take (i + 1)) = mtfD mtf0 (b.take i) ++ [(lstD mtf0 (b.take i)).getD x.toNat 0] ∧ lstD mtf0 (b.take (i + 1)) = frontL (lstD mtf0 (b.take i)) x.toNat) := Lib.hid ⟨by rw [HT.out, mtfD_snoc], by rw [HT.out, lstD_snoc]⟩
      clear hx
      obtain ⟨E2, L2, HQ⟩ : ∃ E2 L2, Hid (mtfD mtf0 (b.take (i + 1)) = E2 ∧ lstD mtf0 (b.take (i + 1)) = L2) := ⟨_, _, Lib.hid ⟨rfl, rfl⟩⟩
      rw [HQ.out.1, HQ.out.2] at HE
      generalize mtfD mtf0 (b.take i) = E at *
      generalize lstD mtf0 (b.take i) = L at *
      have HFU := Lib.hid hfull.1
      have hgx : L[x.toNat]? = some (L.getD x.toNat 0) := by rw [List.getD_eq_getElem?_getD, List.getElem?_eq_getElem (by rw [HFU.out]; exact hx256)]; rfl
      have hcy := hl.cellAt hS 0 rfl (bv_get L x.toNat _ hgx)
      clear hgx hfull
      generalize L.getD x.toNat 0 = y at *
      generalize x.toNat = K at *
      have hKi : (K : Int) < 256 := by omega
      have HU : Hid (bv E ++ [.int .u8 (y.toNat : Int)] = bv E2) := Lib.hid (by rw [HE.out.1, ← bv_snoc])
      go_wp2_with (at_builtin; (refine wpList_app1 1 22 i0 (.int .u8 0) _ _ _ rfl rfl rfl rfl Try.underlying22 i0a i0b i0c i0d rfl hS rfl ho rfl ?_ ?_ ?_); (unfold maxLen; omega); omega; intro v1 c1 w3 hr1 hS1)
      rw [HU.out] at hr1
      refine (front_any L K gl capl w3 HFU.out hx256 hl hS1).mono ?_
      rintro e w5 ⟨rfl, cl2, hl2, hS2⟩
      rw [← HE.out.2] at hl2
      have HF := Lib.hid (And.intro hl2 (And.intro hr1 hS2))
      clear hl2 hr1 hS2 hS1 ho hS hl
      go_wp2_with fail
      go_roundg m
      case measure => omega
      case rel => exact ⟨i + 1, by omega, by go_num, cl2, c1, by rw [HQ.out.2]; exact HF.out.1, by rw [HQ.out.1]; exact HF.out.2.1, HF.out.2.2⟩
    | zero =>
      obtain rfl : i = b.length := by omega
      have hz : ¬ (b.length : Int) < (b.length : Int) := by omega
      have HF := Lib.hid (And.intro ho (hS.pick [1] (by decide) [co] rfl))
      clear hl ho hS
      go_wp2_with fail
      go_ret
      refine ⟨_, co, rfl, ?_, HF.out.2⟩
      rw [mtfD_length]
      have := HF.out.1
      rwa [List.take_length] at this
end Go.Proofs.Ytdhnmcdgiddhdaa
/-
  Contracts of the package number: Put, Get, step, Num.
-/
set_option linter.unusedVariables false
set_option linter.unusedSimpArgs false
namespace Go.Proofs.Ytdhnmcdgiddhdaa
open Go.RowKit
set_option maxRecDepth 100000
def putF : Nat → Nat → List UInt8
  | 0, n => [UInt8.ofNat n]
  | f + 1, n => if 127 < n then UInt8.ofNat (n % 128 + 128) :: putF f (n / 128) else [UInt8.ofNat n]
def putN (n : Nat) : List UInt8 := putF 9 n
theorem or128 : ∀ x : Nat, x < 256 → bits .or .u8 (x : Int) 128 = ((x % 128 + 128 : Nat) : Int) := by decide +kernel
set_option maxHeartbeats 2000000 in
theorem numput_any (n : Nat) (w : World) (hn : n < 18446744073709551616) : Calls Try.prog 22 #[.int .u64 (n : Int)] w (BytesOut (putN n) w) := by
  obtain ⟨i0, i0a, i0b, i0c, i0d⟩ := info_parts infoU8
  have hS0 := (St.init w).one_nil
  go_enter Try.func22, Try.ntmps22
  go_wp2_with fail
  go_loopg [0, 3] 9 (fun gf s0 s3 wr => ∃ (q : Nat) (out : List UInt8) (c : List (Nat × Obj)), s0 = .int .u64 (q : Int) ∧ RowC 5 1 s3 out.length (bv out) c ∧ St w.heap.size w wr [c] ∧ ∃ f, f = gf ∧ out.length + f = 9 ∧ q < 2 * 128 ^ f ∧ Hid (putN n = out ++ putF f q))
  case atStart => exact ⟨n, [], [], rfl, RowC.nil _ _, hS0, 9, rfl, rfl, by omega, Lib.hid rfl⟩
  case round =>
    clear hS0
    obtain ⟨q, out, c, rfl, hr, hS, f, hgf, hf, hq, HP⟩ := hrel
    obtain ⟨ao3, cap3, rfl⟩ := hr.shape
    by_cases h : 127 < q
    · have hi : (127 : Int) < (q : Int) := by omega
      have ho : bits .or .u8 ((q : Int) % 256) 128 = ((q % 128 + 128 : Nat) : Int) := by
        have := or128 (q % 256) (by omega)
        rw [show (((q % 256 : Nat)) : Int) = (q : Int) % 256 from by omega] at this
        rw [this]
        congr 1
        omega
      go_wp2_with (at_builtin; (refine wpList_app1 0 22 i0 (.int .u8 0) _ _ _ rfl rfl rfl rfl Try.underlying22 i0a i0b i0c i0d rfl hS rfl hr rfl ?_ ?_ ?_); (unfold maxLen; omega); omega; intro v1 c1 w3 hr1 hS1)
      subst hgf
      obtain ⟨m, rfl⟩ : ∃ m, f = m + 1 := by
        cases f with
        | zero => simp at hq; omega
        | succ m => exact ⟨m, rfl⟩
      have hu : (UInt8.ofNat (q % 128 + 128)).toNat = q % 128 + 128 := by simp; omega
      have HN : Hid (bv out ++ [.int .u8 ((q : Int) % 128 + 128)] = bv (out ++ [UInt8.ofNat (q % 128 + 128)])) := Lib.hid (by rw [← bv_snoc, hu, show (q : Int) % 128 + 128 = ((q % 128 + 128 : Nat) : Int) from by omega])
      rw [HN.out] at hr1
      go_roundg m
      case measure => omega
      case rel =>
        refine ⟨q / 128, out ++ [UInt8.ofNat (q % 128 + 128)], c1, by first | rfl | (congr 1; omega), by simpa using hr1, hS1, m, rfl, by simp; omega, ?_, Lib.hid ?_⟩
        · rw [Nat.pow_succ] at hq
          omega
        · rw [HP.out, List.append_assoc]
          show out ++ (if 127 < q then _ else _) = _
          rw [if_pos h]
          rfl
    · have hi : ¬ (127 : Int) < (q : Int) := by omega
      have hm : (q : Int) % 256 = (q : Int) := by omega
      have hu : (UInt8.ofNat q).toNat = q := by simp; omega
      have HP2 : Hid (bv out ++ [.int .u8 (q : Int)] = bv (putN n) ∧ (putN n).length = out.length + 1) := Lib.hid (by
        have e : putF f q = [UInt8.ofNat q] := by cases f with
          | zero => rfl
          | succ f => show (if 127 < q then _ else _) = _; rw [if_neg h]
        rw [HP.out, e]
        refine ⟨?_, by simp⟩
        rw [← bv_snoc, hu])
      clear hu
      go_wp2_with (at_builtin; (refine wpList_app1 0 22 i0 (.int .u8 0) _ _ _ rfl rfl rfl rfl Try.underlying22 i0a i0b i0c i0d rfl hS rfl hr rfl ?_ ?_ ?_); (unfold maxLen; omega); omega; intro v1 c1 w3 hr1 hS1)
      go_ret
      exact ⟨v1, c1, rfl, by rw [HP2.out.2, ← HP2.out.1]; exact hr1, hS1⟩
def updN (n x i : Nat) : Nat := n ||| (x % 128 * 2 ^ (7 * i)) % 18446744073709551616
/-- What is read: the number and how many bytes; 0: none. -/
def getL : List UInt8 → Nat → Nat → Nat × Nat
  | [], _, _ => (0, 0)
  | c :: r, i, n => if 127 < c.toNat then getL r (i + 1) (updN n c.toNat i) else if (0 < i ∧ c.toNat = 0) ∨ (i = 9 ∧ 1 < c.toNat) then (0, 0) else (updN n c.toNat i, i + 1)
def getN (b : List UInt8) : Nat × Nat := getL (b.take 10) 0 0
theorem and127 : ∀ x : Nat, x < 256 → bits .and .u8 (x : Int) 127 = ((x % 128 : Nat) : Int) := by decide +kernel
theorem wrap_u64' (n : Int) : IntKind.u64.wrap n = n % 18446744073709551616 := by simp [IntKind.wrap, IntKind.bits, IntKind.signed]
theorem updN_lt {n x i : Nat} (h : n < 18446744073709551616) : updN n x i < 18446744073709551616 := by
  have e : (18446744073709551616 : Nat) = 2 ^ 64 := by decide
  unfold updN
  rw [e] at *
  exact Nat.or_lt_two_pow h (Nat.mod_lt _ (Nat.two_pow_pos _))
theorem upd_val (n x i : Nat) (hn : n < 18446744073709551616) (hx : x < 256) : bits .or .u64 (n : Int) (IntKind.u64.wrap (IntKind.u64.wrap (bits .and .u8 (x : Int) 127) * 2 ^ (7 * i))) = ((updN n x i : Nat) : Int) := by
  have e1 : IntKind.u64.wrap (bits .and .u8 (x : Int) 127) = ((x % 128 : Nat) : Int) := by rw [and127 x hx, wrap_u64']; omega
  have e2 : IntKind.u64.wrap (((x % 128 : Nat) : Int) * 2 ^ (7 * i)) = (((x % 128 * 2 ^ (7 * i)) % 18446744073709551616 : Nat) : Int) := by
    rw [wrap_u64', show ((x % 128 : Nat) : Int) * 2 ^ (7 * i) = ((x % 128 * 2 ^ (7 * i) : Nat) : Int) from by simp]
    generalize x % 128 * 2 ^ (7 * i) = z
    omega
  rw [e1, e2, u64_or_nat n _ hn (Nat.mod_lt _ (by omega))]
  rfl
set_option maxHeartbeats 4000000 in
theorem numget_any (v : Value) (b : List UInt8) (w : World) (h : Rd w 1 v b.length (bv b)) (hn : b.length ≤ 1000000) :
    Calls Try.prog 51 #[v] w fun e w' => e = .returned (.tuple #[.int .u64 ((getN b).1 : Int), .int .i64 ((getN b).2 : Int)]) ∧ w = w' := by
  obtain ⟨ao, cap, rfl⟩ := h.shape
  obtain ⟨hc1, hc2⟩ := h.cap
  have H0 := Lib.hid h
  have hni : (b.length : Int) ≤ 1000000 := by omega
  clear h
  by_cases q : 10 < b.length
  · have q1 : (10 : Int) < (b.length : Int) := by omega
    have q2 : (10 : Int) ≤ (cap : Int) := by omega
    obtain ⟨t, HT⟩ : ∃ t, Hid (Rd w 1 (.slice ao 10 cap) 10 (bv t) ∧ t.length = 10 ∧ getN b = getL (t.drop 0) 0 0) := ⟨b.take 10, Lib.hid ⟨by
      have := H0.out.take 10 (by omega)
      rwa [Nat.mul_one, show (bv b).take 10 = bv (b.take 10) from by simp [bv, List.map_take]] at this, by rw [List.length_take]; omega, rfl⟩⟩
    have htl := HT.out.2.1
    go_enter Try.func51, Try.ntmps51
    go_wp2_with fail
    go_loopg [4, 13] t.length (fun m s4 s13 wr => ∃ i n : Nat, i + m = t.length ∧ s13 = .int .i64 (i : Int) ∧ s4 = .int .u64 (n : Int) ∧ n < 18446744073709551616 ∧ Hid (getN b = getL (t.drop i) i n) ∧ w = wr)
    case atStart => exact ⟨0, 0, by omega, rfl, rfl, by omega, Lib.hid HT.out.2.2, rfl⟩
    case round =>
      obtain ⟨i, n, hi, rfl, rfl, hn1, HG, rfl⟩ := hrel
      have htl := HT.out.2.1
      cases gk with
      | succ m =>
        have hif : (i : Int) < (10 : Int) := by omega
        have hi9 : i ≤ 9 := by omega
        obtain ⟨x, hx⟩ : ∃ x, t[i]? = some x := ⟨_, List.getElem?_eq_getElem (by omega)⟩
        obtain ⟨ad, rfl, hc⟩ := HT.out.1.at (bv_get t i x hx)
        have hdrop : t.drop i = x :: t.drop (i + 1) := by
          obtain ⟨h1, h2⟩ := List.getElem?_eq_some_iff.1 hx
          rw [List.drop_eq_getElem_cons h1, h2]
        have hx256 : x.toNat < 256 := x.toNat_lt
        have hval := upd_val n x.toNat i hn1 hx256
        have hlt := updN_lt (x := x.toNat) (i := i) hn1
        have HG2 : Hid (getN b = if 127 < x.toNat then getL (t.drop (i + 1)) (i + 1) (updN n x.toNat i) else if (0 < i ∧ x.toNat = 0) ∨ (i = 9 ∧ 1 < x.toNat) then (0, 0) else (updN n x.toNat i, i + 1)) := Lib.hid (by rw [HG.out, hdrop]; rfl)
        clear hx hdrop HG
        generalize updN n x.toNat i = n2 at *
        generalize x.toNat = X at *
        by_cases h : 127 < X
        · have h1 : (127 : Int) < (X : Int) := by omega
          have HN : Hid (getN b = getL (t.drop (i + 1)) (i + 1) n2) := Lib.hid (by rw [HG2.out, if_pos h])
          clear h HG2
          go_wp2_with fail
          go_roundg m
          case measure => omega
          case rel => exact ⟨i + 1, n2, by omega, by go_num, rfl, hlt, HN, rfl⟩
        · have h1 : ¬ (127 : Int) < (X : Int) := by omega
          by_cases hb : (0 < i ∧ X = 0) ∨ (i = 9 ∧ 1 < X)
          · have HN : Hid (getN b = (0, 0)) := Lib.hid (by rw [HG2.out, if_neg h, if_pos hb])
            rcases hb with ⟨b1, b2⟩ | ⟨b1, b2⟩
            · have c1 : (0 : Int) < (i : Int) := by omega
              have c2 : ((X : Int) == 0) = true := by rw [b2]; rfl
              clear h b2 HG2
              go_wp2_with fail
              go_ret2
              exact ⟨by rw [HN.out]; rfl, rfl⟩
            · have c1 : (0 : Int) < (i : Int) := by omega
              have c2 : ((X : Int) == 0) = false := by rw [beq_eq_false_iff_ne]; omega
              have c3 : ((i : Int) == 9) = true := by rw [b1]; rfl
              have c4 : (1 : Int) < (X : Int) := by omega
              clear h b1 b2 HG2
              go_wp2_with fail
              go_ret2
              exact ⟨by rw [HN.out]; rfl, rfl⟩
          · have HN : Hid (getN b = (n2, i + 1)) := Lib.hid (by rw [HG2.out, if_neg h, if_neg hb])
            have hfin : ∀ e, e = Ending.returned (Value.tuple #[.int .u64 (n2 : Int), .int .i64 ((i : Int) + 1)]) → e = Ending.returned (Value.tuple #[.int .u64 ((getN b).1 : Int), .int .i64 ((getN b).2 : Int)]) := fun e he => by rw [he, HN.out]; rfl
            have HFI := Lib.hid hfin
            clear hfin
            by_cases c0 : i = 0
            · have c1 : ¬ (0 : Int) < (i : Int) := by omega
              have c3 : ((i : Int) == 9) = false := by rw [beq_eq_false_iff_ne]; omega
              clear h hb HG2 c0
              go_wp2_with fail
              go_ret2
              exact ⟨HFI.out _ rfl, rfl⟩
            · have c1 : (0 : Int) < (i : Int) := by omega
              have c2 : ((X : Int) == 0) = false := by rw [beq_eq_false_iff_ne]; omega
              by_cases c9 : i = 9
              · have c3 : ((i : Int) == 9) = true := by rw [c9]; rfl
                have c4 : ¬ (1 : Int) < (X : Int) := by omega
                clear h hb HG2 c0 c9
                go_wp2_with fail
                go_ret2
                exact ⟨HFI.out _ rfl, rfl⟩
              · have c3 : ((i : Int) == 9) = false := by rw [beq_eq_false_iff_ne]; omega
                clear h hb HG2 c0 c9
                go_wp2_with fail
                go_ret2
                exact ⟨HFI.out _ rfl, rfl⟩
      | zero =>
        have hz : ¬ (i : Int) < (10 : Int) := by omega
        have HF : Hid (getN b = (0, 0)) := Lib.hid (by rw [HG.out, List.drop_of_length_le (by omega)]; rfl)
        clear hi htl hn1
        go_wp2_with fail
        go_ret2
        exact ⟨by rw [HF.out]; rfl, rfl⟩
  · have q1 : ¬ (10 : Int) < (b.length : Int) := by omega
    obtain ⟨t, HT⟩ : ∃ t, Hid (Rd w 1 (.slice ao b.length cap) b.length (bv t) ∧ t.length = b.length ∧ getN b = getL (t.drop 0) 0 0) := ⟨b, Lib.hid ⟨H0.out, rfl, by unfold getN; rw [List.take_of_length_le (by omega)]; rfl⟩⟩
    have htl := HT.out.2.1
    go_enter Try.func51, Try.ntmps51
    go_wp2_with fail
    go_loopg [4, 13] t.length (fun m s4 s13 wr => ∃ i n : Nat, i + m = t.length ∧ s13 = .int .i64 (i : Int) ∧ s4 = .int .u64 (n : Int) ∧ n < 18446744073709551616 ∧ Hid (getN b = getL (t.drop i) i n) ∧ w = wr)
    case atStart => exact ⟨0, 0, by omega, rfl, rfl, by omega, Lib.hid HT.out.2.2, rfl⟩
    case round =>
      obtain ⟨i, n, hi, rfl, rfl, hn1, HG, rfl⟩ := hrel
      have htl := HT.out.2.1
      cases gk with
      | succ m =>
        have hif : (i : Int) < (b.length : Int) := by omega
        have hi9 : i ≤ 9 := by omega
        obtain ⟨x, hx⟩ : ∃ x, t[i]? = some x := ⟨_, List.getElem?_eq_getElem (by omega)⟩
        obtain ⟨ad, rfl, hc⟩ := HT.out.1.at (bv_get t i x hx)
        have hdrop : t.drop i = x :: t.drop (i + 1) := by
          obtain ⟨h1, h2⟩ := List.getElem?_eq_some_iff.1 hx
          rw [List.drop_eq_getElem_cons h1, h2]
        have hx256 : x.toNat < 256 := x.toNat_lt
        have hval := upd_val n x.toNat i hn1 hx256
        have hlt := updN_lt (x := x.toNat) (i := i) hn1
        have HG2 : Hid (getN b = if 127 < x.toNat then getL (t.drop (i + 1)) (i + 1) (updN n x.toNat i) else if (0 < i ∧ x.toNat = 0) ∨ (i = 9 ∧ 1 < x.toNat) then (0, 0) else (updN n x.toNat i, i + 1)) := Lib.hid (by rw [HG.out, hdrop]; rfl)
        clear hx hdrop HG
        generalize updN n x.toNat i = n2 at *
        generalize x.toNat = X at *
        by_cases h : 127 < X
        · have h1 : (127 : Int) < (X : Int) := by omega
          have HN : Hid (getN b = getL (t.drop (i + 1)) (i + 1) n2) := Lib.hid (by rw [HG2.out, if_pos h])
          clear h HG2
          go_wp2_with fail
          go_roundg m
          case measure => omega
          case rel => exact ⟨i + 1, n2, by omega, by go_num, rfl, hlt, HN, rfl⟩
        · have h1 : ¬ (127 : Int) < (X : Int) := by omega
          by_cases hb : (0 < i ∧ X = 0) ∨ (i = 9 ∧ 1 < X)
          · have HN : Hid (getN b = (0, 0)) := Lib.hid (by rw [HG2.out, if_neg h, if_pos hb])
            rcases hb with ⟨b1, b2⟩ | ⟨b1, b2⟩
            · have c1 : (0 : Int) < (i : Int) := by omega
              have c2 : ((X : Int) == 0) = true := by rw [b2]; rfl
              clear h b2 HG2
              go_wp2_with fail
              go_ret2
              exact ⟨by rw [HN.out]; rfl, rfl⟩
            · have c1 : (0 : Int) < (i : Int) := by omega
              have c2 : ((X : Int) == 0) = false := by rw [beq_eq_false_iff_ne]; omega
              have c3 : ((i : Int) == 9) = true := by rw [b1]; rfl
              have c4 : (1 : Int) < (X : Int) := by omega
              clear h b1 b2 HG2
              go_wp2_with fail
              go_ret2
              exact ⟨by rw [HN.out]; rfl, rfl⟩
          · have HN : Hid (getN b = (n2, i + 1)) := Lib.hid (by rw [HG2.out, if_neg h, if_neg hb])
            have hfin : ∀ e, e = Ending.returned (Value.tuple #[.int .u64 (n2 : Int), .int .i64 ((i : Int) + 1)]) → e = Ending.returned (Value.tuple #[.int .u64 ((getN b).1 : Int), .int .i64 ((getN b).2 : Int)]) := fun e he => by rw [he, HN.out]; rfl
            have HFI := Lib.hid hfin
            clear hfin
            by_cases c0 : i = 0
            · have c1 : ¬ (0 : Int) < (i : Int) := by omega
              have c3 : ((i : Int) == 9) = false := by rw [beq_eq_false_iff_ne]; omega
              clear h hb HG2 c0
              go_wp2_with fail
              go_ret2
              exact ⟨HFI.out _ rfl, rfl⟩
            · have c1 : (0 : Int) < (i : Int) := by omega
              have c2 : ((X : Int) == 0) = false := by rw [beq_eq_false_iff_ne]; omega
              by_cases c9 : i = 9
              · have c3 : ((i : Int) == 9) = true := by rw [c9]; rfl
                have c4 : ¬ (1 : Int) < (X : Int) := by omega
                clear h hb HG2 c0 c9
                go_wp2_with fail
                go_ret2
                exact ⟨HFI.out _ rfl, rfl⟩
              · have c3 : ((i : Int) == 9) = false := by rw [beq_eq_false_iff_ne]; omega
                clear h hb HG2 c0 c9
                go_wp2_with fail
                go_ret2
                exact ⟨HFI.out _ rfl, rfl⟩
      | zero =>
        have hz : ¬ (i : Int) < (b.length : Int) := by omega
        have HF : Hid (getN b = (0, 0)) := Lib.hid (by rw [HG.out, List.drop_of_length_le (by omega)]; rfl)
        clear hi htl hn1
        go_wp2_with fail
        go_ret2
        exact ⟨by rw [HF.out]; rfl, rfl⟩
end Go.Proofs.Ytdhnmcdgiddhdaa
/-
  Contracts of number.Reader: step, Num.
-/
set_option linter.unusedVariables false
set_option linter.unusedSimpArgs false
namespace Go.Proofs.Ytdhnmcdgiddhdaa
open Go.RowKit
set_option maxRecDepth 100000
/-- A reader as it lies: what is left, and whether something did not go. -/
def rdrC (p : Nat) (sv : Value) (bad : Bool) : List (Nat × Obj) := [(p, .cells #[sv, .bool bad] 57 (0, 0))]
section
variable {B : Nat} {w0 w : World} {F : List (List (Nat × Obj))}
theorem rdr_cells {p : Nat} {sv : Value} {bad : Bool} (hS : St B w0 w (rdrC p sv bad :: F)) : w.cell? ⟨p, 0, none⟩ = some sv ∧ w.cell? ⟨p, 1, none⟩ = some (.bool bad) ∧ w.frozen? ⟨p, 0, none⟩ = false ∧ w.frozen? ⟨p, 1, none⟩ = false :=
  ⟨hS.cell 0 rfl (List.mem_singleton.2 rfl) 0, hS.cell 0 rfl (List.mem_singleton.2 rfl) 1, hS.free 0 rfl (List.mem_singleton.2 rfl) 0, hS.free 0 rfl (List.mem_singleton.2 rfl) 1⟩
theorem rdr_bad {p : Nat} {sv : Value} {bad bad2 : Bool} (hS : St B w0 w (rdrC p sv bad :: F)) : St B w0 (w.setCell ⟨p, 1, none⟩ (.bool bad2)) (rdrC p sv bad2 :: F) := hS.store 0 rfl 1 (.bool bad2)
theorem rdr_row {p : Nat} {sv sv2 : Value} {bad : Bool} (hS : St B w0 w (rdrC p sv bad :: F)) : St B w0 (w.setCell ⟨p, 0, none⟩ sv2) (rdrC p sv2 bad :: F) := hS.store 0 rfl 0 sv2
set_option maxHeartbeats 2000000 in
theorem rstep_bad (p k : Nat) (sv : Value) (bad : Bool) (hS : St B w0 w (rdrC p sv bad :: F)) (hb : bad = true ∨ k = 0) (hk : k ≤ 100) :
    Calls Try.prog 52 #[.pointer (some ⟨p, 0, none⟩), .int .i64 (k : Int)] w fun e w' => e = .returned (.tuple #[]) ∧ St B w0 w' (rdrC p (.slice none 0 0) true :: F) := by
  obtain ⟨c0, c1, f0, f1⟩ := rdr_cells hS
  have HF := Lib.hid (rdr_row (sv2 := .slice none 0 0) (rdr_bad (bad2 := true) hS))
  cases bad with
  | true =>
    clear hS hb
    go_enter Try.func52, Try.ntmps52
    go_wp2_with fail
    ((try simp only [Exit.inBlock, Exit.then]); refine bodyPost_ret (results_none rfl _ _ _) rfl ?_)
    exact ⟨rfl, HF.out⟩
  | false =>
    have hk0 : k = 0 := by rcases hb with h | h; · cases h
                           · exact h
    have hki : ((k : Int) == 0) = true := by rw [hk0]; rfl
    clear hS hb hk0
    go_enter Try.func52, Try.ntmps52
    go_wp2_with fail
    ((try simp only [Exit.inBlock, Exit.then]); refine bodyPost_ret (results_none rfl _ _ _) rfl ?_)
    exact ⟨rfl, HF.out⟩
def StepOut (p k n cap : Nat) (ao : Option Addr) (B : Nat) (w0 : World) (F : List (List (Nat × Obj))) (e : Ending) (w' : World) : Prop :=
  e = .returned (.tuple #[]) ∧ ∃ ao', (¬ cap = k → ao' = ao.map fun a => a.add k) ∧ (cap = k → ao' = ao) ∧ St B w0 w' (rdrC p (.slice ao' (n - k) (cap - k)) false :: F)
set_option maxHeartbeats 2000000 in
theorem rstep_ok (p k n cap : Nat) (ao : Option Addr) (hS : St B w0 w (rdrC p (.slice ao n cap) false :: F)) (hk : 0 < k) (hk2 : k ≤ n) (hn : n ≤ cap) (hc : cap ≤ 9223372036854775807) :
    Calls Try.prog 52 #[.pointer (some ⟨p, 0, none⟩), .int .i64 (k : Int)] w (StepOut p k n cap ao B w0 F) := by
  obtain ⟨c0, c1, f0, f1⟩ := rdr_cells hS
  have hki : ((k : Int) == 0) = false := by rw [beq_eq_false_iff_ne]; omega
  have hkn : (k : Int) ≤ (n : Int) := by omega
  have HS := Lib.hid (fun sv2 => rdr_row (sv2 := sv2) (rdr_bad (bad2 := false) hS))
  clear hS
  by_cases hck : cap = k
  · have HC := Lib.hid hck
    go_enter Try.func52, Try.ntmps52
    go_wp2_with fail
    go_end0
    exact ⟨rfl, ao, fun h => absurd HC.out h, fun _ => rfl, by simpa [HC.out] using HS.out _⟩
  · have HC := Lib.hid hck
    go_enter Try.func52, Try.ntmps52
    go_wp2_with fail
    go_end0
    exact ⟨rfl, ao.map fun a => a.add k, fun _ => rfl, fun h => absurd h HC.out, HS.out _⟩
theorem getL_le : ∀ (l : List UInt8) (i n : Nat), n < 18446744073709551616 → ((getL l i n).2 ≤ i + l.length ∧ (getL l i n).1 < 18446744073709551616)
  | [], i, n, h => by simp [getL]
  | c :: r, i, n, h => by
    have ih := getL_le r (i + 1) (updN n c.toNat i) (updN_lt h)
    have hu := updN_lt (x := c.toNat) (i := i) h
    unfold getL
    simp only [List.length_cons]
    split
    · omega
    · split
      · simp
      · simp only
        omega
theorem getN_le (b : List UInt8) : (getN b).2 ≤ b.length ∧ (getN b).1 < 18446744073709551616 := by
  have h := getL_le (b.take 10) 0 0 (by omega)
  have : (b.take 10).length ≤ b.length := by simp; omega
  unfold getN
  omega
/-- A number that is read, and how many bytes. -/
def rdN (b : List UInt8) (most : Nat) : Option (Nat × Nat) := if (getN b).2 = 0 ∨ most < (getN b).1 then none else some (getN b)
def NumOut (p : Nat) (b : List UInt8) (most : Nat) (w0 : World) (F : List (List (Nat × Obj))) (e : Ending) (w' : World) : Prop :=
  (rdN b most = none ∧ e = .returned (.int .i64 0) ∧ St w0.heap.size w0 w' (rdrC p (.slice none 0 0) true :: F)) ∨
  (∃ n k sv', rdN b most = some (n, k) ∧ e = .returned (.int .i64 (n : Int)) ∧ Rd w0 1 sv' (b.drop k).length (bv (b.drop k)) ∧ St w0.heap.size w0 w' (rdrC p sv' false :: F))
set_option maxHeartbeats 4000000 in
theorem rnum_any (p : Nat) (sv : Value) (bad : Bool) (b : List UInt8) (most : Nat) (hm : most ≤ 4611686018427387904) (hbad : bad = true → b = []) (hrd : Rd w0 1 sv b.length (bv b)) (hS : St w0.heap.size w0 w (rdrC p sv bad :: F)) (hn : b.length ≤ 1000000) :
    Calls Try.prog 30 #[.pointer (some ⟨p, 0, none⟩), .int .i64 (most : Int)] w (NumOut p b most w0 F) := by
  obtain ⟨c0, c1, f0, f1⟩ := rdr_cells hS
  obtain ⟨ao, cap, rfl⟩ := hrd.shape
  obtain ⟨hc1, hc2⟩ := hrd.cap
  have H0 := Lib.hid (And.intro hrd (And.intro hS hbad))
  obtain ⟨hg1, hg2⟩ := getN_le b
  have hw : IntKind.u64.wrap (most : Int) = (most : Int) := by rw [wrap_u64']; omega
  have HP : Hid (rdN b most = if (getN b).2 = 0 ∨ most < (getN b).1 then none else some (getN b)) := Lib.hid rfl
  have hb0 : bad = true → (getN b).2 = 0 := fun h => by rw [hbad h]; rfl
  obtain ⟨n, k, hnk⟩ : ∃ n k, getN b = (n, k) := ⟨_, _, rfl⟩
  rw [hnk] at hg1 hg2 hb0
  simp only at hg1 hg2 hb0
  have HG := Lib.hid (And.intro (numget_any (.slice ao b.length cap) b w (hrd.st hS) hn) hnk)
  have HB0 := Lib.hid hb0
  clear hrd hS hbad hb0 hnk
  go_enter Try.func30, Try.ntmps30
  go_wp2_with fail
  refine HG.out.1.mono ?_
  rintro e w1 ⟨rfl, rfl⟩
  rw [HG.out.2]
  by_cases q1 : most < n
  · have q1i : (most : Int) < (n : Int) := by omega
    have HN : Hid (rdN b most = none) := Lib.hid (by rw [HP.out, HG.out.2, if_pos (.inr q1)])
    go_wp2_with fail
    refine (rstep_bad p 0 _ bad H0.out.2.1 (.inr rfl) (by omega)).mono ?_
    rintro e w2 ⟨rfl, hS2⟩
    obtain ⟨d0, d1, _, _⟩ := rdr_cells hS2
    have HS2 := Lib.hid hS2
    clear c0 c1 f0 f1 hS2
    go_wp2_with fail
    go_ret
    exact .inl ⟨HN.out, rfl, HS2.out⟩
  · have q1i : ¬ (most : Int) < (n : Int) := by omega
    by_cases q2 : k = 0
    · have HN : Hid (rdN b most = none) := Lib.hid (by rw [HP.out, HG.out.2, if_pos (.inl q2)])
      subst q2
      go_wp2_with fail
      refine (rstep_bad p 0 _ bad H0.out.2.1 (.inr rfl) (by omega)).mono ?_
      rintro e w2 ⟨rfl, hS2⟩
      obtain ⟨d0, d1, _, _⟩ := rdr_cells hS2
      have HS2 := Lib.hid hS2
      clear c0 c1 f0 f1 hS2
      go_wp2_with fail
      go_ret
      exact .inl ⟨HN.out, rfl, HS2.out⟩
    · have HN : Hid (rdN b most = some (n, k)) := Lib.hid (by
        rw [HP.out, HG.out.2, if_neg (by simp only; omega)])
      obtain rfl : bad = false := by
        cases bad with
        | true => exact absurd (HB0.out rfl) q2
        | false => rfl
      have hwn : IntKind.i64.wrap (n : Int) = (n : Int) := IntWalk.i64_in _ (by omega)
      go_wp2_with fail
      refine (rstep_ok p k b.length cap ao H0.out.2.1 (by omega) hg1 hc1 hc2).mono ?_
      rintro e w2 ⟨rfl, ao', a1, a2, hS2⟩
      obtain ⟨d0, d1, _, _⟩ := rdr_cells hS2
      have HF : Hid (Rd w0 1 (.slice ao' (b.length - k) (cap - k)) (b.drop k).length (bv (b.drop k)) ∧ St w0.heap.size w0 w2 (rdrC p (.slice ao' (b.length - k) (cap - k)) false :: F)) := Lib.hid ⟨by
        have := H0.out.1.drop (ao' := ao') k hg1 (by rw [Nat.mul_one]; exact a1) a2
        rw [Nat.mul_one, show (bv b).drop k = bv (b.drop k) from by simp [bv, List.map_drop]] at this
        rw [List.length_drop]
        exact this, hS2⟩
      clear c0 c1 f0 f1 hS2 a1 a2
      go_wp2_with fail
      go_ret
      exact .inr ⟨n, k, _, HN.out, rfl, HF.out.1, HF.out.2⟩
end
end Go.Proofs.Ytdhnmcdgiddhdaa
/-
  Arrays that lie in a block of their own, taken and laid whole; a result that is such an array.
-/
set_option linter.unusedVariables false
set_option linter.unusedSimpArgs false
namespace Go.Proofs.Ytdhnmcdgiddhdaa
open Go.RowKit
section
variable {P : Program} {B : Nat} {w0 w : World} {L : List HL}
theorem St.heap (hS : St B w0 w L) (i : Nat) {g : Nat} {o : Obj} (hi : L[i]? = some [(g, o)]) : w.heap[g]? = some o := (hS.own _ (List.mem_of_getElem? hi) (g, o) (by simp)).1
/-- A whole new row into the block of a heaplet. -/
theorem St.setRow (hS : St B w0 w L) (i : Nat) {g : Nat} {X X' : Array Value} {T : TypeId} (hi : L[i]? = some [(g, .cells X T (0, 0))]) : St B w0 (w.setRow g X') (L.set i [(g, .cells X' T (0, 0))]) := by
  have hg := hS.heap i hi
  refine hS.change i hi _ rfl rfl rfl (by simp [World.setRow]) ?_ ?_ ?_ (by simp)
  · intro k hk hne
    have : g ≠ k := hne (g, .cells X T (0, 0)) (by simp)
    exact setRow_other w g k _ (fun e => this e.symm)
  · intro x hx
    simp only [List.mem_singleton] at hx
    subst hx
    exact setRow_heap w g X _ T _ hg
  · intro x hx
    simp only [List.mem_singleton] at hx
    subst hx
    exact .inl ⟨_, List.mem_singleton.2 rfl, rfl⟩
theorem results_cell_two {fn : Func} {p u : Tmp} {ty : TypeId} (h : fn.results = #[.cell p ty, .tmp u]) (tmps : Array Value) (g : Nat) (t : TypeId) (cs : Array Value) (d : TypeDesc) (i : Nat)
    (hp : tmps.getD p undef = .pointer (some ⟨g, 0, none⟩)) (hS : St B w0 w L) (hi : L[i]? = some [(g, .cells cs t (0, 0))])
    (hu : P.underlying ty = some d) (hd : (match d with | .struct _ | .array _ _ => true | _ => false) = true) (hz : (P.info? ty).map (·.size) = some cs.size) :
    (results fn tmps).run P w = .ok (.tuple #[.agg cs, tmps.getD u undef]) w := by
  have hp' : tmps[p]?.getD undef = .pointer (some ⟨g, 0, none⟩) := by simpa using hp
  simp [results, h, hp', asAddr, run_loadVar_row w g t ty cs (0, 0) d (hS.heap i hi) hu hd hz]
variable {ops : Array Oper} {rest : List Oper} {o : Oper} {a : Act} {Q : Exit → Act → World → Prop}
theorem wpList_loadRow (j : Nat) (ty : TypeId) (x : Operand) (hgd : o.guard = none) (ho : o.op = .load ty x) {g : Nat} {X : Array Value} {T : TypeId} {d : TypeDesc} (hx : a.eval x = .pointer (some ⟨g, 0, none⟩))
    (hu : P.underlying ty = some d) (hd : (match d with | .struct _ | .array _ _ => true | _ => false) = true) (hz : (P.info? ty).map (·.size) = some X.size)
    (hS : St B w0 w L) (hj : L[j]? = some [(g, .cells X T (0, 0))]) (h : wpList P ops Q rest (a.put o.dst (.agg X)) w) : wpList P ops Q (o :: rest) a w :=
  wpList_load_row hgd ty x ho g hx T X (0, 0) d (hS.heap j hj) hu hd hz h
theorem wpList_storeRow (j : Nat) (ty : TypeId) (x y : Operand) (hgd : o.guard = none) (ho : o.op = .store ty x y) {g : Nat} {X X' : Array Value} {T : TypeId} (hx : a.eval x = .pointer (some ⟨g, 0, none⟩)) (hy : a.eval y = .agg X')
    (hz : (P.info? ty).map (·.size) = some X'.size) (hold : X.size = X'.size) (h1 : X'.all (·.oneCell') = true)
    (hS : St B w0 w L) (hj : L[j]? = some [(g, .cells X T (0, 0))]) (h : ∀ w', St B w0 w' (L.set j [(g, .cells X' T (0, 0))]) → wpList P ops Q rest (a.put o.dst undef) w') : wpList P ops Q (o :: rest) a w :=
  wpList_store_row hgd ty x y ho g X' hx hy T X (hS.heap j hj) hz hold h1 (h _ (hS.setRow j hj))
end
/-- An array of n numbers, by places. -/
def arrN (n : Nat) (f : Nat → Int) : Array Value := ((List.range n).map fun k => Value.int .i64 (f k)).toArray
theorem arrN_size (n : Nat) (f : Nat → Int) : (arrN n f).size = n := by simp [arrN]
theorem arrN_get (n : Nat) (f : Nat → Int) (k : Nat) (h : k < n) : (arrN n f)[k]? = some (.int .i64 (f k)) := by simp [arrN, h]
theorem arrN_set (n : Nat) (f : Nat → Int) (k : Nat) (v : Int) : (arrN n f).setIfInBounds k (.int .i64 v) = arrN n (fun j => if j = k then v else f j) := by
  apply Array.ext_getElem?
  intro j
  rw [Array.getElem?_setIfInBounds]
  by_cases h : k = j
  · subst h
    by_cases hk : k < n
    · rw [if_pos rfl, if_pos (by rw [arrN_size]; exact hk), arrN_get _ _ _ hk]; simp
    · rw [if_pos rfl, if_neg (by rw [arrN_size]; exact hk)]
      simp [arrN, hk]
  · rw [if_neg h]
    by_cases hj : j < n
    · rw [arrN_get _ _ _ hj, arrN_get _ _ _ hj, if_neg (fun e => h e.symm)]
    · simp [arrN, hj]
theorem arrN_congr {n : Nat} {f g : Nat → Int} (h : ∀ k, k < n → f k = g k) : arrN n f = arrN n g := by
  apply Array.ext_getElem?
  intro j
  by_cases hj : j < n
  · rw [arrN_get _ _ _ hj, arrN_get _ _ _ hj, h j hj]
  · simp [arrN, hj]
end Go.Proofs.Ytdhnmcdgiddhdaa
