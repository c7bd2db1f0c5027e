/-
  Floats of 64 bits, plain: the half of a sum stands between the two.
-/
import Derived.Test.YtdhnmcdgiddhdabPureRound
set_option linter.unusedVariables false
set_option linter.unusedSimpArgs false
namespace Go.Proofs.Ytdhnmcdgiddhdab
open Ieee Go
/-- A float's worth in units of the least place. -/
def vF (x : Nat) : Int := sg (negB x) (vmag (x % 9223372036854775808))
def finB (x : Nat) : Prop := x % 9223372036854775808 < 9218868437227405312
theorem key_le_iff (x y : Nat) : skey x ≤ skey y ↔ vF x ≤ vF y := by
  have := sg_lt_iff (negB y) (negB x) (y % 9223372036854775808) (x % 9223372036854775808)
  unfold skey vF
  omega
theorem word_parts (s : Bool) (R : Nat) (h : R ≤ 9218868437227405312) : negB (double.word s R) = s ∧ double.word s R % 9223372036854775808 = R := by
  have e1 : double.signWeight = 9223372036854775808 := by decide
  unfold Format.word negB
  rw [e1]
  cases s
  · simp only [Bool.false_eq_true, if_false]
    refine ⟨?_, by omega⟩
    rw [beq_eq_false_iff_ne]
    omega
  · simp only [if_true]
    refine ⟨?_, by omega⟩
    rw [beq_iff_eq]
    omega
theorem skey_word (s : Bool) (R : Nat) (h : R ≤ 9218868437227405312) : skey (double.word s R) = sg s R := by
  obtain ⟨h1, h2⟩ := word_parts s R h
  unfold skey
  rw [h1, h2]
theorem vF_word (s : Bool) (R : Nat) (h : R ≤ 9218868437227405312) : vF (double.word s R) = sg s (vmag R) := by
  obtain ⟨h1, h2⟩ := word_parts s R h
  unfold vF
  rw [h1, h2]
theorem signed_mono (s : Bool) (mag e k : Nat) (c : Nat) (hc : finB c) :
    (vF c * ((2 ^ k : Nat) : Int) ≤ sg s (mag * 2 ^ e) → skey c ≤ skey (double.nearest s mag (double.leastPlace + (e : Int) - (k : Int)))) ∧
    (sg s (mag * 2 ^ e) ≤ vF c * ((2 ^ k : Nat) : Int) → skey (double.nearest s mag (double.leastPlace + (e : Int) - (k : Int))) ≤ skey c) := by
  obtain ⟨R, h1, h2, g3, g4⟩ := nearest_mono s mag e k
  rw [h1, skey_word s R h2]
  unfold finB at hc
  have h3 := g3 _ hc
  have h4 := g4 _ hc
  have hp := Nat.two_pow_pos k
  have hA0 : vmag (c % 9223372036854775808) * 2 ^ k = 0 → c % 9223372036854775808 = 0 := by
    intro h
    rcases Nat.eq_zero_or_pos (c % 9223372036854775808) with h5 | h5
    · exact h5
    · have := Nat.mul_pos (vmag_pos h5) hp; omega
  have hR0 : mag * 2 ^ e = 0 → R = 0 := fun h => Nat.le_zero.1 (g4 0 (by omega) (by rw [h]; exact Nat.zero_le _))
  clear g3 g4 h1
  unfold vF skey
  rw [← sg_mul]
  generalize vmag (c % 9223372036854775808) * 2 ^ k = A at *
  generalize mag * 2 ^ e = M at *
  generalize c % 9223372036854775808 = r at *
  generalize negB c = t
  clear hp hc h2
  unfold sg
  cases s <;> cases t <;> simp only [if_true, Bool.false_eq_true, if_false] <;> omega
theorem read_bound (x : Nat) (h : finB x) : ∃ m a : Nat, double.read x = .number (negB x) m (double.leastPlace + (a : Nat)) ∧ m * 2 ^ a = vmag (x % 9223372036854775808) ∧ m < 9007199254740992 := by
  unfold finB at h
  unfold Format.read
  have e1 : double.signWeight = 9223372036854775808 := by decide
  have e2 : double.binade = 4503599627370496 := by decide
  have e3 : double.infRung = 9218868437227405312 := by decide
  simp only [e1, e2, e3]
  by_cases h1 : x % 9223372036854775808 < 4503599627370496
  · rw [if_pos h1]
    exact ⟨x % 9223372036854775808, 0, by simp [negB], by simp [vmag, h1], by omega⟩
  · rw [if_neg h1, if_pos h]
    exact ⟨_, x % 9223372036854775808 / 4503599627370496 - 1, rfl, by unfold vmag; rw [if_neg h1], by omega⟩
theorem sg_abs (T : Int) (b : Bool) : sg (if T = 0 then b else decide (T < 0)) T.natAbs = T := by
  unfold sg
  by_cases h : T = 0
  · subst h; cases b <;> simp
  · rw [if_neg h]
    by_cases h2 : T < 0
    · simp [h2]; omega
    · simp [h2]; omega
theorem add_mono (a b : Nat) (ha : finB a) (hb : finB b) : ∃ z, floatBits .add .f64 a b = some z ∧ nanB z = false ∧ ∀ c, finB c → (vF c ≤ vF a + vF b → skey c ≤ skey z) ∧ (vF a + vF b ≤ vF c → skey z ≤ skey c) := by
  show ∃ z, (((double.read a).sum (double.read b)).map double.write) = some z ∧ _
  obtain ⟨m, i, e1, v1, _⟩ := read_bound a ha
  obtain ⟨n, j, e2, v2, _⟩ := read_bound b hb
  rw [e1, e2]
  refine ⟨_, rfl, nearest_nan _ _ _, ?_⟩
  intro c hc
  have hm : min (double.leastPlace + (i : Int)) (double.leastPlace + (j : Int)) = double.leastPlace + ((min i j : Nat) : Int) - ((0 : Nat) : Int) := by omega
  have hi : (double.leastPlace + (i : Int) - (double.leastPlace + ((min i j : Nat) : Int) - ((0 : Nat) : Int))).toNat = i - min i j := by omega
  have hj : (double.leastPlace + (j : Int) - (double.leastPlace + ((min i j : Nat) : Int) - ((0 : Nat) : Int))).toNat = j - min i j := by omega
  simp only [Format.write, hm, hi, hj, signed_sg]
  have p1 : 2 ^ i = 2 ^ (i - min i j) * 2 ^ (min i j) := by rw [← Nat.pow_add]; congr 1; omega
  have p2 : 2 ^ j = 2 ^ (j - min i j) * 2 ^ (min i j) := by rw [← Nat.pow_add]; congr 1; omega
  have w1 : vF a = sg (negB a) (m * 2 ^ (i - min i j)) * ((2 ^ (min i j) : Nat) : Int) := by
    unfold vF
    rw [← sg_mul, Nat.mul_assoc, ← p1, v1]
  have w2 : vF b = sg (negB b) (n * 2 ^ (j - min i j)) * ((2 ^ (min i j) : Nat) : Int) := by
    unfold vF
    rw [← sg_mul, Nat.mul_assoc, ← p2, v2]
  have hs : vF a + vF b = (sg (negB a) (m * 2 ^ (i - min i j)) + sg (negB b) (n * 2 ^ (j - min i j))) * ((2 ^ (min i j) : Nat) : Int) := by
    rw [w1, w2, Int.add_mul]
  rw [hs]
  generalize sg (negB a) (m * 2 ^ (i - min i j)) + sg (negB b) (n * 2 ^ (j - min i j)) = T
  have hsm := signed_mono (if T = 0 then negB a && negB b else decide (T < 0)) T.natAbs (min i j) 0 c hc
  rw [sg_mul, sg_abs] at hsm
  simpa using hsm
theorem half_mono (z : Nat) (hz : finB z) : ∃ y, floatBits .quo .f64 z 4611686018427387904 = some y ∧ nanB y = false ∧ ∀ c, finB c → (2 * vF c ≤ vF z → skey c ≤ skey y) ∧ (vF z ≤ 2 * vF c → skey y ≤ skey c) := by
  show ∃ y, (((double.read z).quotient (double.fractionBits + 2) (double.read 4611686018427387904)).map double.write) = some y ∧ _
  obtain ⟨m, i, e1, v1, hm⟩ := read_bound z hz
  have e2 : double.read 4611686018427387904 = .number false 4503599627370496 (-51) := by decide
  rw [e1, e2]
  have hlog : m.log2 ≤ 52 := by
    by_cases h0 : m = 0
    · subst h0; decide
    · have hp : (2 : Nat) ^ 53 = 9007199254740992 := by decide
      have := (Nat.log2_lt h0 (k := 53)).2 (by rw [hp]; exact hm)
      omega
  refine ⟨_, rfl, nearest_nan _ _ _, ?_⟩
  intro c hc
  have l2 : Nat.log2 4503599627370496 = 52 := by decide
  have fb : double.fractionBits = 52 := rfl
  obtain ⟨q, hq⟩ : ∃ q, 52 + 2 + 52 - m.log2 = q + 52 := ⟨54 - m.log2, by omega⟩
  have hd : m * 2 ^ (q + 52) / 4503599627370496 = m * 2 ^ q := by
    rw [Nat.pow_add, ← Nat.mul_assoc, show (2 : Nat) ^ 52 = 4503599627370496 from by decide, Nat.mul_div_cancel _ (by omega)]
  have hr : m * 2 ^ (q + 52) % 4503599627370496 = 0 := by
    rw [Nat.pow_add, ← Nat.mul_assoc, show (2 : Nat) ^ 52 = 4503599627370496 from by decide, Nat.mul_mod_left]
  have hpl : double.leastPlace + (i : Int) - (-51) - ((q + 52 : Nat) : Int) - 1 = double.leastPlace + ((i + 50 : Nat) : Int) - ((q + 52 : Nat) : Int) := by omega
  simp only [Format.write, fb, l2, hq, Nat.shiftLeft_eq, hd, hr, hpl, bne_self_eq_false, Bool.toNat_false, Nat.add_zero, Bool.xor_false]
  have hsm := signed_mono (negB z) (2 * (m * 2 ^ q)) (i + 50) (q + 52) c hc
  have key : 2 * (m * 2 ^ q) * 2 ^ (i + 50) = m * 2 ^ i * 2 ^ (q + 51) := by
    have e50 : 2 ^ (i + 50) = 2 ^ i * 1125899906842624 := Nat.pow_add 2 i 50
    have e51 : 2 ^ (q + 51) = 2 ^ q * 2251799813685248 := Nat.pow_add 2 q 51
    rw [e50, e51]
    generalize 2 ^ q = Q
    generalize 2 ^ i = I
    calc 2 * (m * Q) * (I * 1125899906842624) = m * I * (Q * (2 * 1125899906842624)) := by ac_rfl
      _ = m * I * (Q * 2251799813685248) := rfl
  have hv : sg (negB z) (2 * (m * 2 ^ q) * 2 ^ (i + 50)) = vF z * ((2 ^ (q + 51) : Nat) : Int) := by
    unfold vF
    rw [← sg_mul, ← v1, key]
  have hc2 : vF c * ((2 ^ (q + 52) : Nat) : Int) = 2 * vF c * ((2 ^ (q + 51) : Nat) : Int) := by
    have : ((2 ^ (q + 52) : Nat) : Int) = 2 * ((2 ^ (q + 51) : Nat) : Int) := by
      rw [show q + 52 = q + 51 + 1 from rfl, Nat.pow_succ 2 (q + 51)]
      generalize 2 ^ (q + 51) = Z
      omega
    rw [this, ← Int.mul_assoc, Int.mul_comm (vF c) 2]
  rw [hv, hc2] at hsm
  have hp : (0 : Int) < ((2 ^ (q + 51) : Nat) : Int) := by have := Nat.two_pow_pos (q + 51); omega
  refine ⟨fun h => hsm.1 (Int.mul_le_mul_of_nonneg_right h (by omega)), fun h => hsm.2 (Int.mul_le_mul_of_nonneg_right h (by omega))⟩
theorem double_of (a : Nat) (h : a % 9223372036854775808 < 9214364837600034816) : ∃ c, finB c ∧ vF c = 2 * vF a := by
  have key : ∃ r, r < 9218868437227405312 ∧ vmag r = vmag (a % 9223372036854775808) * 2 := by
    generalize a % 9223372036854775808 = r at *
    by_cases h1 : r < 4503599627370496
    · refine ⟨r * 2, by omega, ?_⟩
      have := vm 0 (r * 2) (by omega) (.inl rfl)
      have e : vmag r = r := by unfold vmag; rw [if_pos h1]
      rw [e]
      simpa using this
    · refine ⟨r + 4503599627370496, by omega, ?_⟩
      have e1 : (r + 4503599627370496) / 4503599627370496 - 1 = r / 4503599627370496 - 1 + 1 := by omega
      have e2 : (r + 4503599627370496) % 4503599627370496 = r % 4503599627370496 := by omega
      unfold vmag
      rw [if_neg (by omega), if_neg h1, e1, e2, Nat.pow_succ 2 (r / 4503599627370496 - 1), Nat.mul_assoc]
  obtain ⟨r, h1, h2⟩ := key
  refine ⟨double.word (negB a) r, ?_, ?_⟩
  · unfold finB
    rw [(word_parts (negB a) r (by omega)).2]
    exact h1
  · rw [vF_word _ _ (by omega), h2, sg_mul]
    unfold vF
    omega
/-- The half of the sum of two floats that are not too great stands between them. -/
theorem half_between (a b : Nat) (ha : a % 9223372036854775808 < 9214364837600034816) (hb : b % 9223372036854775808 < 9214364837600034816) (h : skey a ≤ skey b) :
    ∃ z y, floatBits .add .f64 a b = some z ∧ floatBits .quo .f64 z 4611686018427387904 = some y ∧ nanB y = false ∧ skey a ≤ skey y ∧ skey y ≤ skey b := by
  have fa : finB a := by unfold finB; omega
  have fb : finB b := by unfold finB; omega
  obtain ⟨z, hz, hzn, hzm⟩ := add_mono a b fa fb
  obtain ⟨A, fA, vA⟩ := double_of a ha
  obtain ⟨B, fB, vB⟩ := double_of b hb
  have hv := (key_le_iff a b).1 h
  have k1 := (hzm A fA).1 (by omega)
  have k2 := (hzm B fB).2 (by omega)
  have fz : finB z := by
    unfold finB at *
    unfold skey sg at k1 k2
    generalize negB A = x at k1
    generalize negB z = y at k1 k2
    generalize negB B = u at k2
    clear hzm vA vB hv h hz hzn
    cases x <;> cases y <;> cases u <;> simp only [if_true, Bool.false_eq_true, if_false] at k1 k2 <;> omega
  obtain ⟨y, hy, hyn, hym⟩ := half_mono z fz
  refine ⟨z, y, hz, hy, hyn, (hym a fa).1 ?_, (hym b fb).2 ?_⟩
  · have := (key_le_iff A z).1 k1; omega
  · have := (key_le_iff z B).1 k2; omega
end Go.Proofs.Ytdhnmcdgiddhdab
