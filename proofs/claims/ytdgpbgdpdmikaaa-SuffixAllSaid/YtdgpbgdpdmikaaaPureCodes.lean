/-
  Canonical codes, plain.
-/
import Derived.Test.YtdgpbgdpdmikaaaPureBits
set_option linter.unusedVariables false
set_option linter.unusedSimpArgs false
namespace Go.Proofs.Ytdgpbgdpdmikaaa

/-- How much room lengths take, of 2^15. -/
def kraftP (l : List Int) : Nat := (l.map fun k => if 1 ≤ k ∧ k ≤ 15 then 2 ^ (15 - k.toNat) else 0).sum
def okLens (l : List Int) : Bool := decide (l.length ≤ 300) && decide (kraftP l ≤ 32768) && l.all fun k => decide (0 ≤ k ∧ k ≤ 15)
/-- How many codes of each length there are; none of length nought. -/
def cntP (l : List Int) (k : Nat) : Nat := if k = 0 then 0 else l.count (k : Int)
/-- The first code of each length. -/
def fstP (l : List Int) : Nat → Nat
  | 0 => 0
  | k + 1 => (fstP l k + cntP l k) * 2
/-- Behind the last code of each length. -/
def endP (l : List Int) (k : Nat) : Nat := fstP l k + cntP l k
/-- The code of symbol s. -/
def codeP (l : List Int) (s : Nat) : Nat := fstP l (l.getD s 0).toNat + (l.take s).count (l.getD s 0)
theorem kraftP_append (a b : List Int) : kraftP (a ++ b) = kraftP a + kraftP b := by simp [kraftP]
theorem kraftP_take_succ (l : List Int) (i : Nat) (k : Int) (h : l[i]? = some k) : kraftP (l.take (i + 1)) = kraftP (l.take i) + (if 1 ≤ k ∧ k ≤ 15 then 2 ^ (15 - k.toNat) else 0) := by
  rw [List.take_add_one, h, Option.toList_some, kraftP_append]
  simp [kraftP]
theorem kraftP_le (l : List Int) : kraftP l ≤ 16384 * l.length := by
  induction l with
  | nil => simp [kraftP]
  | cons k l ih =>
    have h : (if 1 ≤ k ∧ k ≤ 15 then 2 ^ (15 - k.toNat) else 0) ≤ 16384 := by
      split
      · rename_i hk
        have : 2 ^ (15 - k.toNat) ≤ 2 ^ 14 := Nat.pow_le_pow_right (by omega) (by omega)
        omega
      · omega
    simp only [kraftP, List.map_cons, List.sum_cons, List.length_cons] at ih ⊢
    omega
theorem okLens_iff (l : List Int) : okLens l = true ↔ l.length ≤ 300 ∧ kraftP l ≤ 32768 ∧ ∀ k ∈ l, 0 ≤ k ∧ k ≤ 15 := by
  simp [okLens, and_assoc]

/-- The room that lengths up to k take. -/
def kraftTo (l : List Int) (k : Nat) : Nat := (l.map fun x => if 1 ≤ x ∧ x ≤ (k : Int) then 2 ^ (15 - x.toNat) else 0).sum
theorem kraftTo_succ (l : List Int) (k : Nat) (hk : k + 1 ≤ 15) : kraftTo l (k + 1) = kraftTo l k + cntP l (k + 1) * 2 ^ (14 - k) := by
  unfold cntP
  rw [if_neg (by omega)]
  induction l with
  | nil => simp [kraftTo]
  | cons x l ih =>
    simp only [kraftTo, List.map_cons, List.sum_cons] at ih ⊢
    rw [ih, List.count_cons]
    by_cases hx : x = ((k + 1 : Nat) : Int)
    · subst hx
      have e1 : (1 ≤ (((k + 1 : Nat)) : Int) ∧ (((k + 1 : Nat)) : Int) ≤ (((k + 1 : Nat)) : Int)) := by omega
      have e2 : ¬ (1 ≤ (((k + 1 : Nat)) : Int) ∧ (((k + 1 : Nat)) : Int) ≤ (k : Int)) := by omega
      rw [if_pos e1, if_neg e2, Int.toNat_natCast, show 15 - (k + 1) = 14 - k from by omega]
      simp only [beq_self_eq_true, if_true, Nat.add_mul, Nat.one_mul]
      omega
    · have e3 : (x == ((k + 1 : Nat) : Int)) = false := by simpa using hx
      rw [e3]
      have e4 : (1 ≤ x ∧ x ≤ ((k + 1 : Nat) : Int)) ↔ (1 ≤ x ∧ x ≤ (k : Int)) := by omega
      simp only [e4]
      simp
      omega
theorem kraftTo_zero (l : List Int) : kraftTo l 0 = 0 := by
  unfold kraftTo
  induction l with
  | nil => rfl
  | cons x l ih => simp only [List.map_cons, List.sum_cons, ih]; rw [if_neg (by omega)]
theorem kraftTo_mono (l : List Int) (k : Nat) : ∀ m, k + m ≤ 15 → kraftTo l k ≤ kraftTo l (k + m)
  | 0, _ => Nat.le_refl _
  | m + 1, h => by
    have := kraftTo_mono l k m (by omega)
    rw [← Nat.add_assoc, kraftTo_succ _ _ (by omega)]
    omega
theorem endP_kraft (l : List Int) : ∀ k, k ≤ 15 → endP l k * 2 ^ (15 - k) = kraftTo l k
  | 0, _ => by simp [endP, fstP, cntP, kraftTo_zero]
  | k + 1, h => by
    have ih := endP_kraft l k (by omega)
    rw [kraftTo_succ _ _ h, ← ih]
    have e : (15 - k) = (14 - k) + 1 := by omega
    rw [show 15 - (k + 1) = 14 - k from by omega, e, Nat.pow_succ]
    simp only [endP, fstP]
    rw [Nat.add_mul, Nat.mul_comm (2 ^ (14 - k)) 2, ← Nat.mul_assoc]
theorem kraftTo_all (l : List Int) : kraftTo l 15 = kraftP l := rfl
theorem endP_le (l : List Int) (hk : kraftP l ≤ 32768) (k : Nat) (h : k ≤ 15) : endP l k ≤ 2 ^ k := by
  have h1 := endP_kraft l k h
  have h2 := kraftTo_mono l k (15 - k) (by omega)
  rw [show k + (15 - k) = 15 from by omega, kraftTo_all] at h2
  have h3 : 2 ^ k * 2 ^ (15 - k) = 32768 := by rw [← Nat.pow_add, show k + (15 - k) = 15 from by omega]
  exact Nat.le_of_mul_le_mul_right (by omega) (Nat.two_pow_pos (15 - k))
theorem fstP_succ (l : List Int) (k : Nat) : fstP l (k + 1) = 2 * endP l k := by rw [fstP, endP]; omega
theorem fstP_le_endP (l : List Int) (k : Nat) : fstP l k ≤ endP l k := by unfold endP; omega
/-- The codes of a greater length lie behind. -/
theorem fstP_far (l : List Int) (k : Nat) : ∀ m, endP l k * 2 ^ (m + 1) ≤ fstP l (k + m + 1)
  | 0 => by rw [fstP_succ]; simp; omega
  | m + 1 => by
    have h1 := fstP_far l k m
    have h2 := fstP_le_endP l (k + m + 1)
    rw [show k + (m + 1) + 1 = (k + m + 1) + 1 from by omega, fstP_succ, Nat.pow_succ, ← Nat.mul_assoc]
    omega
theorem count_take_lt (l : List Int) (s : Nat) (k : Int) (h : l[s]? = some k) : (l.take s).count k < l.count k := by
  have h1 : (l.take (s + 1)).count k ≤ l.count k := (List.take_sublist _ _).count_le k
  rw [List.take_add_one, h, List.count_append] at h1
  simp at h1
  omega
theorem count_take_mono (l : List Int) (k : Int) {a b : Nat} (h : a ≤ b) : (l.take a).count k ≤ (l.take b).count k := by
  have : l.take a = (l.take b).take a := by rw [List.take_take, Nat.min_eq_left h]
  rw [this]
  exact (List.take_sublist _ _).count_le k
theorem count_take_step (l : List Int) (s t : Nat) (k : Int) (h : l[s]? = some k) (hst : s < t) : (l.take s).count k < (l.take t).count k := by
  have h2 := count_take_mono l k (show s + 1 ≤ t by omega)
  rw [List.take_add_one, h, List.count_append] at h2
  simp at h2
  omega
theorem codeP_eq (l : List Int) (s K : Nat) (h : l[s]? = some (K : Int)) : codeP l s = fstP l K + (l.take s).count (K : Int) := by
  unfold codeP
  rw [List.getD_eq_getElem?_getD, h]
  simp
theorem codeP_range (l : List Int) (s K : Nat) (h : l[s]? = some (K : Int)) (hK : 1 ≤ K) : fstP l K ≤ codeP l s ∧ codeP l s < endP l K := by
  rw [codeP_eq l s K h]
  have := count_take_lt l s _ h
  unfold endP cntP
  rw [if_neg (by omega)]
  omega
theorem codeP_step (l : List Int) (s t K : Nat) (h : l[s]? = some (K : Int)) (h' : l[t]? = some (K : Int)) (hst : s < t) : codeP l s < codeP l t := by
  rw [codeP_eq l s K h, codeP_eq l t K h']
  have := count_take_step l s t _ h hst
  omega
/-- A code of a longer length, cut, is behind all codes of the shorter one. -/
theorem codeP_far (l : List Int) (s t K M : Nat) (h : l[s]? = some (K : Int)) (h' : l[t]? = some (M : Int)) (hK : 1 ≤ K) (hM : K < M) : codeP l s < codeP l t / 2 ^ (M - K) ∧ (codeP l s + 1) * 2 ^ (M - K) ≤ codeP l t := by
  have h1 := (codeP_range l s K h hK).2
  have h2 := (codeP_range l t M h' (by omega)).1
  have h3 := fstP_far l K (M - K - 1)
  rw [show K + (M - K - 1) + 1 = M from by omega, show M - K - 1 + 1 = M - K from by omega] at h3
  have h4 : (codeP l s + 1) * 2 ^ (M - K) ≤ endP l K * 2 ^ (M - K) := Nat.mul_le_mul_right _ h1
  have h5 : (codeP l s + 1) * 2 ^ (M - K) ≤ codeP l t := by omega
  refine ⟨?_, h5⟩
  have := (Nat.le_div_iff_mul_le (Nat.two_pow_pos (M - K))).2 h5
  omega

/-! Symbols read -/
/-- The symbols of one length. -/
def symsP (l : List Int) (k : Nat) : List Int := ((List.range l.length).filter fun (s : Nat) => l[s]? == some (k : Int)).map fun (s : Nat) => (s : Int)
theorem symsP_take_succ (l : List Int) (i k : Nat) (x : Int) (h : l[i]? = some x) : symsP (l.take (i + 1)) k = symsP (l.take i) k ++ (if x = (k : Int) then [(i : Int)] else []) := by
  have hi : i < l.length := (List.getElem?_eq_some_iff.1 h).1
  unfold symsP
  rw [List.length_take, List.length_take, Nat.min_eq_left (by omega), Nat.min_eq_left (by omega), List.range_succ, List.filter_append, List.map_append]
  congr 1
  · congr 1
    apply List.filter_congr
    intro s hs
    have hs' : s < i := by simpa using hs
    rw [List.getElem?_take, List.getElem?_take, if_pos (by omega), if_pos hs']
  · have h2 : (l.take (i + 1))[i]? = some x := by rw [List.getElem?_take, if_pos (by omega), h]
    simp only [List.filter_cons, List.filter_nil, h2]
    by_cases hx : x = (k : Int) <;> simp [hx]
theorem symsP_length (l : List Int) (k : Nat) : ∀ i, i ≤ l.length → (symsP (l.take i) k).length = (l.take i).count (k : Int)
  | 0, _ => by simp [symsP]
  | i + 1, h => by
    have hx : l[i]? = some l[i] := List.getElem?_eq_getElem (by omega)
    rw [symsP_take_succ l i k _ hx, List.length_append, symsP_length l k i (by omega), List.take_add_one, hx, List.count_append]
    by_cases hk : l[i] = (k : Int) <;> simp [hk]
theorem symsP_at (l : List Int) (k : Nat) : ∀ i, i ≤ l.length → ∀ j, (symsP (l.take i) k)[j]? = none ∨ ∃ s : Nat, (symsP (l.take i) k)[j]? = some (s : Int) ∧ s < i ∧ l[s]? = some (k : Int) ∧ (l.take s).count (k : Int) = j
  | 0, _, j => by left; simp [symsP]
  | i + 1, h, j => by
    have hx : l[i]? = some l[i] := List.getElem?_eq_getElem (by omega)
    have hlen := symsP_length l k i (by omega)
    rw [symsP_take_succ l i k _ hx, List.getElem?_append]
    by_cases hj : j < (symsP (l.take i) k).length
    · rw [if_pos hj]
      rcases symsP_at l k i (by omega) j with h0 | ⟨s, h1, h2, h3⟩
      · exact .inl h0
      · exact .inr ⟨s, h1, by omega, h3⟩
    · rw [if_neg hj]
      by_cases hk : l[i] = (k : Int)
      · rw [if_pos hk]
        by_cases hj2 : j = (symsP (l.take i) k).length
        · right
          refine ⟨i, by rw [hj2]; simp, by omega, by rw [hx, hk], by rw [hj2, hlen]⟩
        · left
          rw [List.getElem?_eq_none]
          simp; omega
      · left
        rw [if_neg hk]
        simp
/-- The symbol whose code of so many bits this is. -/
def lookP (l : List Int) (k v : Nat) : Option Nat := (List.range l.length).find? fun s => l[s]? == some (k : Int) && codeP l s == v
theorem lookP_some (l : List Int) (k v s : Nat) (h : lookP l k v = some s) : l[s]? = some (k : Int) ∧ codeP l s = v := by
  have := List.find?_some h
  simpa using this
theorem codeP_inj (l : List Int) (s t K : Nat) (h : l[s]? = some (K : Int)) (h' : l[t]? = some (K : Int)) (e : codeP l s = codeP l t) : s = t := by
  rcases Nat.lt_trichotomy s t with hh | hh | hh
  · have := codeP_step l s t K h h' hh; omega
  · exact hh
  · have := codeP_step l t s K h' h hh; omega
theorem lookP_of (l : List Int) (k v s : Nat) (h : l[s]? = some (k : Int)) (e : codeP l s = v) : lookP l k v = some s := by
  have hs : s < l.length := (List.getElem?_eq_some_iff.1 h).1
  have h1 : (lookP l k v).isSome = true := by
    unfold lookP
    rw [List.find?_isSome]
    exact ⟨s, by simpa using hs, by simp [h, e]⟩
  obtain ⟨t, ht⟩ := Option.isSome_iff_exists.1 h1
  have h2 := lookP_some l k v t ht
  rw [ht, codeP_inj l t s k h2.1 h (h2.2.trans e.symm)]
theorem lookP_none (l : List Int) (k v : Nat) (h : lookP l k v = none) (s : Nat) : ¬ (l[s]? = some (k : Int) ∧ codeP l s = v) := by
  intro ⟨h1, h2⟩
  rw [lookP_of l k v s h1 h2] at h
  cases h
/-- By place among the symbols of the length. -/
theorem lookP_syms (l : List Int) (k v : Nat) (hk : 1 ≤ k) : lookP l k v = none ∧ ¬ (fstP l k ≤ v ∧ v < endP l k) ∨ ∃ s : Nat, lookP l k v = some s ∧ fstP l k ≤ v ∧ v < endP l k ∧ (symsP l k)[v - fstP l k]? = some (s : Int) := by
  have hl := symsP_length l k l.length (Nat.le_refl _)
  have ha := symsP_at l k l.length (Nat.le_refl _) (v - fstP l k)
  rw [List.take_length] at hl ha
  by_cases hr : fstP l k ≤ v ∧ v < endP l k
  · right
    rcases ha with h0 | ⟨s, h1, h2, h3, h4⟩
    · rw [List.getElem?_eq_none_iff, hl] at h0
      unfold endP cntP at hr
      rw [if_neg (by omega)] at hr
      omega
    · refine ⟨s, lookP_of l k v s h3 ?_, hr.1, hr.2, h1⟩
      rw [codeP_eq l s k h3, h4]
      omega
  · left
    refine ⟨?_, hr⟩
    cases h : lookP l k v with
    | none => rfl
    | some s =>
      have h1 := lookP_some l k v s h
      have h2 := codeP_range l s k h1.1 hk
      rw [h1.2] at h2
      exact absurd h2 hr
/-- One symbol: m bits may still come, k have come and make v. -/
def symP (l : List Int) : Nat → Nat → Nat → List Bool → Option (Nat × Nat)
  | 0, _, _, _ => none
  | _ + 1, _, _, [] => none
  | m + 1, k, v, b :: bs => match lookP l (k + 1) (2 * v + b.toNat) with
    | some s => some (s, k + 1)
    | none => symP l m (k + 1) (2 * v + b.toNat) bs
/-- Symbols up to an end: error, symbols, bits that were read. -/
def readP (l : List Int) (e most : Int) : Nat → List Int → Nat → List Bool → Int × List Int × Nat
  | 0, _, _, _ => (6, [], 0)
  | m + 1, out, at_, bits => if most ≤ (out.length : Int) then (2, [], 0) else match symP l 15 0 0 bits with
    | none => (6, [], 0)
    | some (s, n) => if (s : Int) = e then (0, out ++ [(s : Int)], at_ + n) else readP l e most m (out ++ [(s : Int)]) (at_ + n) (bits.drop n)
theorem symP_len (l : List Int) : ∀ m k v bits s n, symP l m k v bits = some (s, n) → k + 1 ≤ n ∧ n ≤ k + bits.length ∧ n ≤ k + m ∧ s < l.length
  | 0, _, _, _, _, _, h => by simp [symP] at h
  | _ + 1, _, _, [], _, _, h => by simp [symP] at h
  | m + 1, k, v, b :: bs, s, n, h => by
    rw [symP] at h
    split at h
    · rename_i s' hs
      simp at h
      obtain ⟨rfl, rfl⟩ := h
      have := lookP_some _ _ _ _ hs
      have := (List.getElem?_eq_some_iff.1 this.1).1
      simp; omega
    · have := symP_len l m _ _ _ _ _ h
      simp; omega
/-- Where Kraft is just whole a symbol is always found. -/
theorem symP_whole (l : List Int) (h : kraftP l = 32768) (hall : ∀ k ∈ l, 0 ≤ k ∧ k ≤ 15) : ∀ m k v bits, k + m = 15 → endP l k ≤ v → v < 2 ^ k → m ≤ bits.length → ∃ s n, symP l m k v bits = some (s, n)
  | 0, k, v, bits, hk, he, hv, _ => by
    exfalso
    obtain rfl : k = 15 := by omega
    have := endP_kraft l 15 (by omega)
    rw [kraftTo_all, h] at this
    simp at this
    omega
  | m + 1, k, v, [], _, _, _, hb => by simp at hb
  | m + 1, k, v, b :: bs, hk, he, hv, hb => by
    rw [symP]
    have hv2 : 2 * v + b.toNat < 2 ^ (k + 1) := by rw [Nat.pow_succ]; cases b <;> simp <;> omega
    rcases lookP_syms l (k + 1) (2 * v + b.toNat) (by omega) with ⟨h0, h1⟩ | ⟨s, h0, _⟩
    · rw [h0]
      refine symP_whole l h hall m (k + 1) _ bs (by omega) ?_ hv2 (by simpa using hb)
      rw [fstP_succ] at h1
      omega
    · rw [h0]
      exact ⟨_, _, rfl⟩
end Go.Proofs.Ytdgpbgdpdmikaaa
