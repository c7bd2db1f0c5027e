/-
  Floats of 64 bits, plain: what is a float's worth is written as that float; 1 * x, x - 0, x / x, 0 / x.
-/
import Derived.Test.YtdhnmcdgiddhdabPureFloat
import Derived.Laws.FloatArith
set_option linter.unusedVariables false
set_option linter.unusedSimpArgs false
namespace Go.Proofs.Ytdhnmcdgiddhdab
open Ieee
/-- A rung's significand and how far it is shifted. -/
def sgf (r : Nat) : Nat := if r < 4503599627370496 then r else 4503599627370496 + r % 4503599627370496
def shf (r : Nat) : Nat := r / 4503599627370496 - 1
theorem vmag_eq (r : Nat) : vmag r = sgf r * 2 ^ shf r := by
  unfold vmag sgf shf
  split
  · rename_i h; rw [Nat.div_eq_of_lt h]; simp
  · rfl
theorem rung_eq (r : Nat) : shf r * 4503599627370496 + sgf r = r := by
  unfold sgf shf
  split
  · rename_i h; rw [Nat.div_eq_of_lt h]; simp
  · omega
theorem sgf_log (r : Nat) (h : 4503599627370496 ≤ r) : (sgf r).log2 = 52 := by
  unfold sgf
  rw [if_neg (by omega)]
  rw [Nat.log2_eq_iff (by omega)]
  omega
theorem cut_exact (s : Bool) (m drop : Nat) (hm : 0 < m) : Toward.even.cut s (m * 2 ^ drop) drop = m := by
  unfold Toward.cut
  have hl : drop ≤ (m * 2 ^ drop).log2 := by
    rw [Nat.le_log2 (Nat.ne_of_gt (Nat.mul_pos hm (Nat.two_pow_pos _)))]
    exact Nat.le_mul_of_pos_left _ hm
  have hmin : min drop ((m * 2 ^ drop).log2 + 2) = drop := by omega
  simp only [hmin, Nat.shiftLeft_eq, Nat.one_mul]
  rw [Nat.mul_div_cancel _ (Nat.two_pow_pos _), Nat.mul_mod_left]
  have := Nat.two_pow_pos drop
  have h1 : decide (2 ^ drop < 2 * 0) = false := by simp
  have h2 : (2 ^ drop == 2 * 0) = false := by simp
  simp [h1, h2]
theorem log2_mul_pow (m k : Nat) (hm : 0 < m) : (m * 2 ^ k).log2 = m.log2 + k := by
  rw [Nat.log2_eq_iff (Nat.ne_of_gt (Nat.mul_pos hm (Nat.two_pow_pos _)))]
  have h1 := Nat.log2_self_le (Nat.ne_of_gt hm)
  have h2 := @Nat.lt_log2_self m
  refine ⟨?_, ?_⟩
  · rw [Nat.pow_add]; exact Nat.mul_le_mul_right _ h1
  · rw [show m.log2 + k + 1 = (m.log2 + 1) + k from by omega, Nat.pow_add]; exact Nat.mul_lt_mul_of_pos_right h2 (Nat.two_pow_pos _)
theorem nearest_exact (s : Bool) (r mag e k : Nat) (hr : r < 9218868437227405312) (h0 : 0 < r) (h : mag * 2 ^ e = vmag r * 2 ^ k) : double.nearest s mag (double.leastPlace + (e : Int) - (k : Int)) = double.word s r := by
  have e2 : double.binade = 4503599627370496 := by decide
  have e3 : double.infRung = 9218868437227405312 := by decide
  have e4 : double.fractionBits = 52 := rfl
  have hs0 : 0 < sgf r := by unfold sgf; split <;> omega
  have hmag : 0 < mag := by
    rcases Nat.eq_zero_or_pos mag with h1 | h1
    · rw [h1, Nat.zero_mul] at h
      have := Nat.mul_pos (vmag_pos h0) (Nat.two_pow_pos k)
      omega
    · exact h1
  rw [vmag_eq, Nat.mul_assoc, ← Nat.pow_add] at h
  have hlog := congrArg Nat.log2 h
  rw [log2_mul_pow _ _ hmag, log2_mul_pow _ _ hs0] at hlog
  unfold Format.nearest
  rw [if_neg (by omega)]
  simp only [e2, e3, e4]
  generalize double.leastPlace = L at *
  have hlast : max (L + (e : Int) - (k : Int) + (mag.log2 : Int) - ((52 : Nat) : Int)) L = L + (shf r : Int) := by
    by_cases hb : r < 4503599627370496
    · have h1 : shf r = 0 := by unfold shf; rw [Nat.div_eq_of_lt hb]
      have h2 : (sgf r).log2 < 52 := by
        rw [Nat.log2_lt (by omega)]
        unfold sgf; rw [if_pos hb]; exact hb
      rw [h1] at hlog ⊢
      omega
    · have h2 := sgf_log r (by omega)
      rw [h2] at hlog
      omega
  rw [hlast]
  have hkept : Toward.even.cut s (mag <<< (L + (e : Int) - (k : Int) - (L + (shf r : Int))).toNat) (L + (shf r : Int) - (L + (e : Int) - (k : Int))).toNat = sgf r := by
    rw [Nat.shiftLeft_eq]
    by_cases hc : k + shf r ≤ e
    · have h1 : (L + (e : Int) - (k : Int) - (L + (shf r : Int))).toNat = e - (k + shf r) := by omega
      have h2 : (L + (shf r : Int) - (L + (e : Int) - (k : Int))).toNat = 0 := by omega
      rw [h1, h2]
      have h3 : mag * 2 ^ (e - (k + shf r)) = sgf r := by
        have h4 : 2 ^ e = 2 ^ (e - (k + shf r)) * 2 ^ (shf r + k) := by rw [← Nat.pow_add]; congr 1; omega
        rw [h4, ← Nat.mul_assoc] at h
        exact Nat.eq_of_mul_eq_mul_right (Nat.two_pow_pos _) h
      rw [h3]
      have := cut_exact s (sgf r) 0 hs0
      simpa using this
    · have h1 : (L + (e : Int) - (k : Int) - (L + (shf r : Int))).toNat = 0 := by omega
      have h2 : (L + (shf r : Int) - (L + (e : Int) - (k : Int))).toNat = k + shf r - e := by omega
      rw [h1, h2]
      have h3 : mag = sgf r * 2 ^ (k + shf r - e) := by
        have h4 : 2 ^ (shf r + k) = 2 ^ (k + shf r - e) * 2 ^ e := by rw [← Nat.pow_add]; congr 1; omega
        rw [h4, ← Nat.mul_assoc] at h
        exact Nat.eq_of_mul_eq_mul_right (Nat.two_pow_pos _) h
      rw [h3, Nat.pow_zero, Nat.mul_one]
      exact cut_exact s (sgf r) _ hs0
  rw [hkept]
  have h5 : (L + (shf r : Int) - L).toNat = shf r := by omega
  rw [h5, rung_eq]
  congr 1
  omega
theorem word_of (x : Nat) (h : x < 18446744073709551616) : double.word (negB x) (x % 9223372036854775808) = x := by
  have e1 : double.signWeight = 9223372036854775808 := by decide
  unfold Format.word negB
  rw [e1]
  by_cases c : x < 9223372036854775808
  · rw [Nat.div_eq_of_lt c]; simp; omega
  · have : x / 9223372036854775808 = 1 := by omega
    rw [this]; simp; omega
theorem word_zero (s : Bool) : double.word s 0 = if s then 9223372036854775808 else 0 := by cases s <;> decide
theorem read_one : double.read 4607182418800017408 = .number false 4503599627370496 (-52) := by decide
theorem read_zero : double.read 0 = .number false 0 double.leastPlace := by decide
theorem least_eq : double.leastPlace = -1074 := by decide
theorem zero_mag {m a r : Nat} (h : m * 2 ^ a = vmag r) : m = 0 ↔ r = 0 := by
  constructor
  · rintro rfl
    rcases Nat.eq_zero_or_pos r with h1 | h1
    · exact h1
    · have := vmag_pos h1; omega
  · rintro rfl
    rw [vmag_zero] at h
    have := Nat.two_pow_pos a
    rcases Nat.mul_eq_zero.1 h with h1 | h1
    · exact h1
    · omega
/-- 1 * x. -/
theorem mul_one_f (x : Nat) (h : x < 18446744073709551616) (hn : nanB x = false) : floatBits .mul .f64 4607182418800017408 x = some x := by
  show (((double.read 4607182418800017408).product (double.read x)).map double.write) = some x
  have hle : x % 9223372036854775808 ≤ 9218868437227405312 := by simpa [nanB] using hn
  rw [read_one]
  by_cases c : x % 9223372036854775808 = 9218868437227405312
  · rw [read_inf x c]
    simp only [Datum.product, Option.map, Format.write]
    have e3 : double.infRung = x % 9223372036854775808 := by rw [c]; decide
    rw [if_neg (by omega)]
    simp only [Format.write, Bool.xor_false]
    rw [e3, word_of x h]
  · obtain ⟨m, a, e, hv⟩ := read_num x (by omega)
    rw [e]
    simp only [Datum.product, Option.map, Format.write, Bool.false_bne]
    by_cases h0 : x % 9223372036854775808 = 0
    · have hm : m = 0 := (zero_mag hv).2 h0
      subst hm
      have hw := word_of x h
      rw [h0] at hw
      simp only [Format.nearest, Nat.mul_zero, if_true, hw]
    · have e5 : (-52 : Int) + (double.leastPlace + (a : Int)) = double.leastPlace + (a : Int) - ((52 : Nat) : Int) := by omega
      rw [e5, nearest_exact (negB x) (x % 9223372036854775808) (4503599627370496 * m) a 52 (by omega) (by omega) (by rw [← hv]; rw [Nat.mul_assoc, Nat.mul_comm]), word_of x h]
/-- x - 0. -/
theorem sub_zero_f (x : Nat) (h : x < 18446744073709551616) (hn : nanB x = false) : floatBits .sub .f64 x 0 = some x := by
  show (((double.read x).sum (double.read 0).opposite).map double.write) = some x
  have hle : x % 9223372036854775808 ≤ 9218868437227405312 := by simpa [nanB] using hn
  rw [read_zero]
  simp only [Datum.opposite]
  by_cases c : x % 9223372036854775808 = 9218868437227405312
  · rw [read_inf x c]
    simp only [Datum.sum, Option.map, Format.write]
    have e3 : double.infRung = x % 9223372036854775808 := by rw [c]; decide
    rw [e3, word_of x h]
  · obtain ⟨m, a, e, hv⟩ := read_num x (by omega)
    rw [e]
    simp only [Datum.sum, Option.map, Format.write, signed_sg]
    have h1 : min (double.leastPlace + (a : Int)) double.leastPlace = double.leastPlace := by omega
    have h2 : (double.leastPlace + (a : Int) - double.leastPlace).toNat = a := by omega
    rw [h1, h2, hv]
    have h3 : sg (!false) (0 * 2 ^ (double.leastPlace - double.leastPlace).toNat) = 0 := by simp [sg]
    rw [h3, Int.add_zero]
    by_cases h0 : x % 9223372036854775808 = 0
    · have hw := word_of x h
      rw [h0] at hw ⊢
      have hsg : sg (negB x) (vmag 0) = 0 := by simp [sg, vmag_zero]
      simp only [hsg, if_true, Format.nearest, Int.natAbs_zero, Bool.not_false, Bool.and_true, hw]
    · have hp := vmag_pos (show 0 < x % 9223372036854775808 by omega)
      have hne : ¬ sg (negB x) (vmag (x % 9223372036854775808)) = 0 := by unfold sg; split <;> omega
      have hab : (sg (negB x) (vmag (x % 9223372036854775808))).natAbs = vmag (x % 9223372036854775808) := by unfold sg; split <;> omega
      have hsn : decide (sg (negB x) (vmag (x % 9223372036854775808)) < 0) = negB x := by unfold sg; cases negB x <;> simp <;> omega
      rw [if_neg hne, hab, hsn]
      have h5 := nearest_exact (negB x) (x % 9223372036854775808) (vmag (x % 9223372036854775808)) 0 0 (by omega) (by omega) rfl
      simp only [Int.natCast_zero, Int.add_zero, Int.sub_zero] at h5
      rw [h5, word_of x h]
/-- x / x, where x is a number and no nought. -/
theorem div_self_f (x : Nat) (h1 : 0 < x % 9223372036854775808) (h2 : x % 9223372036854775808 < 9218868437227405312) : floatBits .quo .f64 x x = some 4607182418800017408 := by
  show (((double.read x).quotient (double.fractionBits + 2) (double.read x)).map double.write) = some _
  obtain ⟨m, a, e, hv⟩ := read_num x h2
  have hm : ¬ m = 0 := by have := zero_mag hv; omega
  rw [e]
  simp only [Datum.quotient, if_neg hm, Option.map]
  have e4 : double.fractionBits = 52 := rfl
  have e5 : double.fractionBits + 2 + m.log2 - m.log2 = 54 := by omega
  rw [e5]
  rw [Nat.shiftLeft_eq, Nat.mul_comm m, Nat.mul_div_cancel _ (Nat.pos_of_ne_zero hm), Nat.mul_mod_left]
  have e6 : double.leastPlace + (a : Int) - (double.leastPlace + (a : Int)) - ((54 : Nat) : Int) - 1 = -55 := by omega
  rw [e6]
  have e7 : (negB x ^^ negB x) = false := by cases negB x <;> rfl
  rw [e7]
  decide
/-- 0 / x, where x is a number and no nought: a nought. -/
theorem div_zero_f (x : Nat) (h1 : 0 < x % 9223372036854775808) (h2 : x % 9223372036854775808 < 9218868437227405312) : ∃ z, floatBits .quo .f64 0 x = some z ∧ (z = 0 ∨ z = 9223372036854775808) := by
  show ∃ z, (((double.read 0).quotient (double.fractionBits + 2) (double.read x)).map double.write) = some z ∧ _
  obtain ⟨m, a, e, hv⟩ := read_num x h2
  have hm : ¬ m = 0 := by have := zero_mag hv; omega
  rw [e, read_zero]
  simp only [Datum.quotient, if_neg hm, Option.map]
  refine ⟨_, rfl, ?_⟩
  have e8 : 2 * ((0 <<< (double.fractionBits + 2 + m.log2 - Nat.log2 0)) / m) + ((0 <<< (double.fractionBits + 2 + m.log2 - Nat.log2 0)) % m != 0).toNat = 0 := by
    simp
  rw [e8]
  simp only [Format.write, Format.nearest, if_true, word_zero]
  cases (false ^^ negB x) <;> simp
/-- A number that is written is no NaN. -/
theorem nearest_nan (s : Bool) (m : Nat) (p : Int) : nanB (double.nearest s m p) = false := by
  have hw : ∀ r, r ≤ 9218868437227405312 → nanB (double.word s r) = false := by
    intro r hr
    have e1 : double.signWeight = 9223372036854775808 := by decide
    unfold Format.word nanB
    rw [e1]
    cases s <;> simp <;> omega
  unfold Format.nearest
  split
  · exact hw 0 (by omega)
  · have e3 : double.infRung = 9218868437227405312 := by decide
    simp only [e3]
    exact hw _ (Nat.min_le_right _ _)
/-- A sum of a number and what is no NaN is no NaN. -/
theorem add_one_f (x : Nat) (hn : nanB x = false) : ∃ r, floatBits .add .f64 4607182418800017408 x = some r ∧ nanB r = false := by
  show ∃ r, (((double.read 4607182418800017408).sum (double.read x)).map double.write) = some r ∧ _
  have hle : x % 9223372036854775808 ≤ 9218868437227405312 := by simpa [nanB] using hn
  rw [read_one]
  by_cases c : x % 9223372036854775808 = 9218868437227405312
  · rw [read_inf x c]
    refine ⟨_, rfl, ?_⟩
    cases negB x <;> decide
  · obtain ⟨m, a, e, hv⟩ := read_num x (by omega)
    rw [e]
    exact ⟨_, rfl, nearest_nan _ _ _⟩
end Go.Proofs.Ytdhnmcdgiddhdab
