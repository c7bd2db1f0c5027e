/-
  Floats of 64 bits, plain: rounding keeps the order; the half of a sum stands between.
-/
import Derived.Test.YtdhnmcdgiddhdabFloatExact
set_option linter.unusedVariables false
set_option linter.unusedSimpArgs false
namespace Go.Proofs.Ytdhnmcdgiddhdab
open Ieee
theorem vm (L k : Nat) (hk : k ≤ 9007199254740992) (h : L = 0 ∨ 4503599627370496 ≤ k) : vmag (L * 4503599627370496 + k) = k * 2 ^ L := by
  unfold vmag
  by_cases h1 : k < 4503599627370496
  · obtain rfl : L = 0 := by omega
    rw [if_pos (by omega)]
    simp
  · rw [if_neg (by omega)]
    by_cases h2 : k < 9007199254740992
    · have e1 : (L * 4503599627370496 + k) / 4503599627370496 = L + 1 := by omega
      have e2 : (L * 4503599627370496 + k) % 4503599627370496 = k - 4503599627370496 := by omega
      rw [e1, e2, Nat.add_sub_cancel, show 4503599627370496 + (k - 4503599627370496) = k from by omega]
    · obtain rfl : k = 9007199254740992 := by omega
      have e1 : (L * 4503599627370496 + 9007199254740992) / 4503599627370496 = L + 2 := by omega
      have e2 : (L * 4503599627370496 + 9007199254740992) % 4503599627370496 = 0 := by omega
      have e3 : 2 ^ (L + 1) = 2 ^ L * 2 := Nat.pow_succ 2 L
      have e4 : L + 2 - 1 = L + 1 := by omega
      simp only [e1, e2, e4, e3]
      generalize 2 ^ L = y
      omega
theorem cut_near (s : Bool) (n d : Nat) (hn : 0 < n) : 2 * n ≤ (2 * Toward.even.cut s n d + 1) * 2 ^ d ∧ 2 * Toward.even.cut s n d * 2 ^ d ≤ 2 * n + 2 ^ d := by
  unfold Toward.cut
  have hp := Nat.two_pow_pos d
  by_cases hd : d ≤ n.log2 + 2
  · have hmin : min d (n.log2 + 2) = d := by omega
    simp only [hmin, Nat.shiftLeft_eq, Nat.one_mul]
    have hdm := Nat.div_add_mod n (2 ^ d)
    have hlt := Nat.mod_lt n hp
    generalize n / 2 ^ d = q at *
    generalize n % 2 ^ d = r at *
    generalize 2 ^ d = g at *
    have e1 : g * q = q * g := Nat.mul_comm _ _
    rw [e1] at hdm
    have key : ∀ b : Bool, (b = true → g ≤ 2 * r) → (b = false → 2 * r ≤ g) → 2 * n ≤ (2 * (q + b.toNat) + 1) * g ∧ 2 * (q + b.toNat) * g ≤ 2 * n + g := by
      intro b h1 h2
      cases b with
      | false =>
        have := h2 rfl
        simp only [Bool.toNat_false, Nat.add_zero]
        rw [Nat.add_mul, Nat.mul_assoc, Nat.one_mul]
        omega
      | true =>
        have := h1 rfl
        simp only [Bool.toNat_true]
        rw [Nat.add_mul, Nat.mul_assoc, Nat.one_mul, Nat.add_mul, Nat.one_mul]
        omega
    refine key _ (fun h => ?_) (fun h => ?_)
    · simp only [Bool.or_eq_true, Bool.and_eq_true, decide_eq_true_eq, beq_iff_eq] at h
      omega
    · simp only [Bool.or_eq_false_iff, Bool.and_eq_false_iff, decide_eq_false_iff_not, beq_eq_false_iff_ne] at h
      omega
  · have hmin : min d (n.log2 + 2) = n.log2 + 2 := by omega
    simp only [hmin, Nat.shiftLeft_eq, Nat.one_mul]
    have hl := @Nat.lt_log2_self n
    have hg : 2 * n < 2 ^ (n.log2 + 2) := by
      rw [show n.log2 + 2 = n.log2 + 1 + 1 from rfl, Nat.pow_succ 2 (n.log2 + 1)]
      omega
    have hgd : 2 ^ (n.log2 + 2) ≤ 2 ^ d := Nat.pow_le_pow_right (by omega) (by omega)
    have e1 : n / 2 ^ (n.log2 + 2) = 0 := Nat.div_eq_of_lt (by omega)
    have e2 : n % 2 ^ (n.log2 + 2) = n := Nat.mod_eq_of_lt (by omega)
    rw [e1, e2]
    have h1 : decide (2 ^ (n.log2 + 2) < 2 * n) = false := by simp; omega
    have h2 : (2 ^ (n.log2 + 2) == 2 * n) = false := by rw [beq_eq_false_iff_ne]; omega
    simp only [h1, h2, Bool.false_and, Bool.or_self, Bool.toNat_false, Nat.add_zero, Nat.mul_zero, Nat.zero_add, Nat.one_mul, Nat.zero_mul]
    omega
/-- The rung that is nearest stands to each rung as the number does. -/
theorem nearest_mono (s : Bool) (mag e k : Nat) : ∃ R, double.nearest s mag (double.leastPlace + (e : Int) - (k : Int)) = double.word s R ∧ R ≤ 9218868437227405312 ∧
    (∀ r, r < 9218868437227405312 → vmag r * 2 ^ k ≤ mag * 2 ^ e → r ≤ R) ∧ (∀ r, r < 9218868437227405312 → mag * 2 ^ e ≤ vmag r * 2 ^ k → R ≤ r) := by
  have e2 : double.binade = 4503599627370496 := by decide
  have e3 : double.infRung = 9218868437227405312 := by decide
  have e4 : double.fractionBits = 52 := rfl
  have hpk := Nat.two_pow_pos k
  unfold Format.nearest
  by_cases h0 : mag = 0
  · rw [if_pos h0]
    refine ⟨0, rfl, by omega, fun r hr h => ?_, fun r _ _ => Nat.zero_le _⟩
    rw [h0, Nat.zero_mul] at h
    rcases Nat.eq_zero_or_pos r with h1 | h1
    · omega
    · have := Nat.mul_pos (vmag_pos h1) hpk
      omega
  rw [if_neg h0]
  simp only [e2, e3, e4]
  generalize double.leastPlace = P at *
  obtain ⟨L, hL⟩ : ∃ L : Nat, max (P + (e : Int) - (k : Int) + (mag.log2 : Int) - ((52 : Nat) : Int)) P = P + (L : Int) := ⟨((e : Int) - (k : Int) + (mag.log2 : Int) - 52).toNat, by omega⟩
  rw [hL]
  have hLL : (P + (L : Int) - P).toNat = L := by omega
  rw [hLL]
  have hs1 : (P + (e : Int) - (k : Int) - (P + (L : Int))).toNat = e - (k + L) := by omega
  have hs2 : (P + (L : Int) - (P + (e : Int) - (k : Int))).toNat = k + L - e := by omega
  rw [hs1, hs2, Nat.shiftLeft_eq]
  have hmag : 0 < mag := Nat.pos_of_ne_zero h0
  have hnear := cut_near s (mag * 2 ^ (e - (k + L))) (k + L - e) (Nat.mul_pos hmag (Nat.two_pow_pos _))
  generalize Toward.even.cut s (mag * 2 ^ (e - (k + L))) (k + L - e) = kept at *
  have hX : mag * 2 ^ (e - (k + L)) * 2 ^ (min e (k + L)) = mag * 2 ^ e := by
    rw [Nat.mul_assoc, ← Nat.pow_add]
    congr 2
    omega
  have hU : 2 ^ (k + L - e) * 2 ^ (min e (k + L)) = 2 ^ (k + L) := by
    rw [← Nat.pow_add]
    congr 1
    omega
  have P1 : 2 * (mag * 2 ^ e) ≤ (2 * kept + 1) * 2 ^ (k + L) := by
    have h := Nat.mul_le_mul_right (2 ^ (min e (k + L))) hnear.1
    rw [Nat.mul_assoc 2, hX, Nat.mul_assoc (2 * kept + 1), hU] at h
    exact h
  have P2 : 2 * kept * 2 ^ (k + L) ≤ 2 * (mag * 2 ^ e) + 2 ^ (k + L) := by
    have h := Nat.mul_le_mul_right (2 ^ (min e (k + L))) hnear.2
    rw [Nat.mul_assoc (2 * kept), hU, Nat.add_mul, Nat.mul_assoc 2 (mag * 2 ^ (e - (k + L))), hX, hU] at h
    exact h
  have hlo : 2 ^ (mag.log2 + e) ≤ mag * 2 ^ e := by
    rw [Nat.pow_add]
    exact Nat.mul_le_mul_right _ (Nat.log2_self_le h0)
  have hhi : mag * 2 ^ e < 2 ^ (mag.log2 + 1 + e) := by
    rw [Nat.pow_add 2 (mag.log2 + 1)]
    exact Nat.mul_lt_mul_of_pos_right (@Nat.lt_log2_self mag) (Nat.two_pow_pos _)
  have P3 : 0 < L → 4503599627370496 * 2 ^ (k + L) ≤ mag * 2 ^ e := by
    intro hL0
    have : mag.log2 + e = 52 + (k + L) := by omega
    rw [this, Nat.pow_add] at hlo
    exact hlo
  have P4 : mag * 2 ^ e < 9007199254740992 * 2 ^ (k + L) := by
    refine Nat.lt_of_lt_of_le hhi ?_
    have : 9007199254740992 = 2 ^ 53 := by decide
    rw [this, ← Nat.pow_add]
    exact Nat.pow_le_pow_right (by omega) (by omega)
  have hpU := Nat.two_pow_pos (k + L)
  have hkL : 2 ^ (k + L) = 2 ^ L * 2 ^ k := by rw [Nat.add_comm, Nat.pow_add]
  clear hnear hX hU hlo hhi hL hLL hs1 hs2
  generalize mag * 2 ^ e = X at *
  have K1 : kept ≤ 9007199254740992 := by
    have h : 2 * kept * 2 ^ (k + L) < (2 * 9007199254740992 + 1) * 2 ^ (k + L) := by
      rw [Nat.add_mul (2 * 9007199254740992) 1, Nat.mul_assoc 2 9007199254740992, Nat.one_mul]
      omega
    have := Nat.lt_of_mul_lt_mul_right h
    omega
  have K2 : L = 0 ∨ 4503599627370496 ≤ kept := by
    rcases Nat.eq_zero_or_pos L with h | h
    · exact .inl h
    · right
      have h3 := P3 h
      have h4 : (2 * 4503599627370496) * 2 ^ (k + L) ≤ (2 * kept + 1) * 2 ^ (k + L) := by
        rw [Nat.mul_assoc]
        omega
      have := Nat.le_of_mul_le_mul_right h4 hpU
      omega
  have V0 := vm L kept K1 K2
  have V1 : (kept + 1) * 2 ^ L ≤ vmag (L * 4503599627370496 + kept + 1) := by
    by_cases h : kept + 1 ≤ 9007199254740992
    · have := vm L (kept + 1) h (by omega)
      rw [← Nat.add_assoc] at this
      rw [this]
      exact Nat.le_refl _
    · have hk : kept = 9007199254740992 := by omega
      have := vm (L + 1) 4503599627370497 (by omega) (by omega)
      rw [hk, show L * 4503599627370496 + 9007199254740992 + 1 = (L + 1) * 4503599627370496 + 4503599627370497 from by omega, this, Nat.pow_succ]
      have := Nat.two_pow_pos L
      omega
  refine ⟨min (L * 4503599627370496 + kept) 9218868437227405312, rfl, Nat.min_le_right _ _, fun r hr h => ?_, fun r hr h => ?_⟩
  · refine Nat.le_min.2 ⟨?_, Nat.le_of_lt hr⟩
    rcases Nat.lt_or_ge (L * 4503599627370496 + kept) r with hlt | hge
    · exfalso
      have hv : vmag (L * 4503599627370496 + kept + 1) ≤ vmag r := by
        rcases Nat.lt_or_ge (L * 4503599627370496 + kept + 1) r with h1 | h1
        · exact Nat.le_of_lt (vmag_lt h1)
        · rw [show r = L * 4503599627370496 + kept + 1 from by omega]; exact Nat.le_refl _
      have h1 := Nat.mul_le_mul_right (2 ^ k) (Nat.le_trans V1 hv)
      rw [Nat.mul_assoc, ← hkL] at h1
      rw [Nat.add_mul, Nat.one_mul] at h1
      rw [Nat.add_mul, Nat.mul_assoc, Nat.one_mul] at P1
      omega
    · exact hge
  · refine Nat.le_trans (Nat.min_le_left _ _) ?_
    rcases Nat.lt_or_ge r (L * 4503599627370496 + kept) with hlt | hge
    · exfalso
      by_cases hb : L = 0 ∨ 4503599627370496 ≤ kept - 1
      · have hk1 : 1 ≤ kept := by omega
        have hv : vmag r ≤ (kept - 1) * 2 ^ L := by
          have := vm L (kept - 1) (by omega) hb
          rw [← this]
          rcases Nat.lt_or_ge r (L * 4503599627370496 + (kept - 1)) with h1 | h1
          · exact Nat.le_of_lt (vmag_lt h1)
          · rw [show r = L * 4503599627370496 + (kept - 1) from by omega]; exact Nat.le_refl _
        have h1 := Nat.mul_le_mul_right (2 ^ k) hv
        rw [Nat.mul_assoc, ← hkL] at h1
        obtain ⟨q, rfl⟩ : ∃ q, kept = q + 1 := ⟨kept - 1, by omega⟩
        rw [Nat.add_sub_cancel] at h1
        rw [Nat.mul_assoc, Nat.add_mul, Nat.one_mul] at P2
        omega
      · have hL0 : 0 < L := by omega
        have hk : kept = 4503599627370496 := by omega
        have hv := vmag_lt hlt
        rw [V0] at hv
        have h1 := Nat.mul_lt_mul_of_pos_right hv hpk
        rw [Nat.mul_assoc, ← hkL, hk] at h1
        have := P3 hL0
        omega
    · exact hge
end Go.Proofs.Ytdhnmcdgiddhdab
