/-
  Floats of 64 bits, plain: how two words stand to each other.
-/
import Ieee.Arith
set_option linter.unusedVariables false
set_option linter.unusedSimpArgs false
namespace Go.Proofs.Ytdhnmcdgiddhdab
open Ieee

def nanB (x : Nat) : Bool := decide (9218868437227405312 < x % 9223372036854775808)
def negB (x : Nat) : Bool := x / 9223372036854775808 % 2 == 1
/-- The magnitude of a rung, in units of the least place. -/
def vmag (r : Nat) : Nat := if r < 4503599627370496 then r else (4503599627370496 + r % 4503599627370496) * 2 ^ (r / 4503599627370496 - 1)
def sg (s : Bool) (v : Nat) : Int := if s then -(v : Int) else v
theorem vmag_up (r : Nat) : vmag r < 4503599627370496 * 2 ^ (r / 4503599627370496) := by
  unfold vmag
  split
  · rw [Nat.div_eq_of_lt (by omega)]; omega
  · obtain ⟨q, hq⟩ : ∃ q, r / 4503599627370496 = q + 1 := ⟨r / 4503599627370496 - 1, by omega⟩
    rw [hq, Nat.add_sub_cancel, Nat.pow_succ]
    have := Nat.two_pow_pos q
    have h2 : 4503599627370496 + r % 4503599627370496 < 4503599627370496 * 2 := by omega
    calc _ < 4503599627370496 * 2 * 2 ^ q := Nat.mul_lt_mul_of_pos_right h2 this
      _ = _ := by rw [Nat.mul_assoc, Nat.mul_comm 2]
theorem vmag_lt {r s : Nat} (h : r < s) : vmag r < vmag s := by
  by_cases hs : s < 4503599627370496
  · unfold vmag; rw [if_pos hs, if_pos (by omega)]; exact h
  by_cases hq : r / 4503599627370496 = s / 4503599627370496
  · unfold vmag
    rw [if_neg hs, if_neg (by omega), hq]
    exact Nat.mul_lt_mul_of_pos_right (by omega) (Nat.two_pow_pos _)
  · have h1 := vmag_up r
    have h2 : 4503599627370496 * 2 ^ (s / 4503599627370496 - 1) ≤ vmag s := by
      unfold vmag
      rw [if_neg hs]
      exact Nat.mul_le_mul_right _ (by omega)
    have h3 : 2 ^ (r / 4503599627370496) ≤ 2 ^ (s / 4503599627370496 - 1) := Nat.pow_le_pow_right (by omega) (by omega)
    omega
theorem vmag_lt_iff {r s : Nat} : vmag r < vmag s ↔ r < s := by
  refine ⟨fun h => ?_, vmag_lt⟩
  rcases Nat.lt_trichotomy r s with h1 | h1 | h1
  · exact h1
  · subst h1; omega
  · have := vmag_lt h1; omega
theorem vmag_zero : vmag 0 = 0 := rfl
theorem vmag_pos {r : Nat} (h : 0 < r) : 0 < vmag r := by have := vmag_lt h; rw [vmag_zero] at this; exact this
/-- The place of a word among those that are no NaN: nought twice. -/
def skey (x : Nat) : Int := sg (negB x) (x % 9223372036854775808)
theorem sg_lt_iff (s t : Bool) (a b : Nat) : sg s (vmag a) < sg t (vmag b) ↔ sg s a < sg t b := by
  have h1 := @vmag_lt_iff a b
  have h2 := @vmag_lt_iff b a
  have ha : vmag a = 0 ↔ a = 0 := by
    rcases Nat.eq_zero_or_pos a with rfl | h
    · simp [vmag_zero]
    · have := vmag_pos h; omega
  have hb : vmag b = 0 ↔ b = 0 := by
    rcases Nat.eq_zero_or_pos b with rfl | h
    · simp [vmag_zero]
    · have := vmag_pos h; omega
  unfold sg
  cases s <;> cases t <;> simp <;> omega
theorem compare_sg (s t : Bool) (a b : Nat) : compare (sg s (vmag a)) (sg t (vmag b)) = compare (sg s a) (sg t b) := by
  have h1 := sg_lt_iff s t a b
  have h2 := sg_lt_iff t s b a
  simp only [compare, compareOfLessAndEq]
  by_cases c1 : sg s a < sg t b
  · rw [if_pos c1, if_pos (h1.2 c1)]
  · rw [if_neg c1, if_neg (fun h => c1 (h1.1 h))]
    by_cases c2 : sg t b < sg s a
    · have := h2.2 c2
      rw [if_neg (by omega), if_neg (by omega)]
    · have := fun h => c2 (h2.1 h)
      have c1' := fun h => c1 (h1.1 h)
      rw [if_pos (by omega), if_pos (by omega)]
theorem read_num (x : Nat) (h : x % 9223372036854775808 < 9218868437227405312) :
    ∃ m a : Nat, double.read x = .number (negB x) m (double.leastPlace + (a : Nat)) ∧ m * 2 ^ a = vmag (x % 9223372036854775808) := by
  unfold Format.read
  have e1 : double.signWeight = 9223372036854775808 := by decide
  have e2 : double.binade = 4503599627370496 := by decide
  have e3 : double.infRung = 9218868437227405312 := by decide
  simp only [e1, e2, e3]
  by_cases h1 : x % 9223372036854775808 < 4503599627370496
  · rw [if_pos h1]
    exact ⟨x % 9223372036854775808, 0, by simp [negB], by simp [vmag, h1]⟩
  · rw [if_neg h1, if_pos h]
    exact ⟨_, x % 9223372036854775808 / 4503599627370496 - 1, rfl, by unfold vmag; rw [if_neg h1]⟩
theorem read_inf (x : Nat) (h : x % 9223372036854775808 = 9218868437227405312) : double.read x = .infinity (negB x) := by
  unfold Format.read
  have e1 : double.signWeight = 9223372036854775808 := by decide
  have e2 : double.binade = 4503599627370496 := by decide
  have e3 : double.infRung = 9218868437227405312 := by decide
  simp only [e1, e2, e3]
  rw [if_neg (by omega), if_neg (by omega), if_pos h]
  rfl
theorem read_nan (x : Nat) (h : 9218868437227405312 < x % 9223372036854775808) : ∃ fr, double.read x = .nan (negB x) fr := by
  unfold Format.read
  have e1 : double.signWeight = 9223372036854775808 := by decide
  have e2 : double.binade = 4503599627370496 := by decide
  have e3 : double.infRung = 9218868437227405312 := by decide
  simp only [e1, e2, e3]
  rw [if_neg (by omega), if_neg (by omega), if_neg (by omega)]
  exact ⟨_, rfl⟩
theorem signed_sg (s : Bool) (m k : Nat) : signed s m k = sg s (m * 2 ^ k) := by
  unfold signed sg
  rw [Nat.shiftLeft_eq]
theorem sg_mul (s : Bool) (v k : Nat) : sg s (v * k) = sg s v * (k : Int) := by
  unfold sg
  cases s <;> simp [Int.neg_mul]
theorem compare_mul_pos (a b : Int) (k : Nat) (h : 0 < k) : compare (a * (k : Int)) (b * (k : Int)) = compare a b := by
  have hk : (0 : Int) < k := by omega
  have h1 : a * (k : Int) < b * (k : Int) ↔ a < b := Int.mul_lt_mul_right hk
  have h2 : a * (k : Int) = b * (k : Int) ↔ a = b := Int.mul_eq_mul_right_iff (by omega)
  simp only [compare, compareOfLessAndEq, h1, h2]
theorem order_num (L : Int) (s t : Bool) (m n a b : Nat) : (Datum.number s m (L + a)).order (.number t n (L + b)) = some (compare (sg s (m * 2 ^ a)) (sg t (n * 2 ^ b))) := by
  unfold Datum.order
  simp only [signed_sg]
  have e1 : (L + (a : Int) - min (L + (a : Int)) (L + (b : Int))).toNat = a - min a b := by omega
  have e2 : (L + (b : Int) - min (L + (a : Int)) (L + (b : Int))).toNat = b - min a b := by omega
  rw [e1, e2]
  have p1 : 2 ^ a = 2 ^ (a - min a b) * 2 ^ (min a b) := by rw [← Nat.pow_add]; congr 1; omega
  have p2 : 2 ^ b = 2 ^ (b - min a b) * 2 ^ (min a b) := by rw [← Nat.pow_add]; congr 1; omega
  rw [p1, p2, ← Nat.mul_assoc, ← Nat.mul_assoc, sg_mul s (m * 2 ^ (a - min a b)), sg_mul t (n * 2 ^ (b - min a b)), compare_mul_pos _ _ _ (Nat.two_pow_pos _)]
theorem order_nan_left (x y : Nat) (h : nanB x = true) : double.order x y = none := by
  obtain ⟨fr, hx⟩ := read_nan x (by simpa [nanB] using h)
  simp [Format.order, hx, Datum.order]
theorem order_nan_right (x y : Nat) (h : nanB y = true) : double.order x y = none := by
  obtain ⟨fr, hy⟩ := read_nan y (by simpa [nanB] using h)
  simp only [Format.order, hy]
  cases double.read x <;> simp [Datum.order]
theorem order_eq (x y : Nat) (hx : nanB x = false) (hy : nanB y = false) : double.order x y = some (compare (skey x) (skey y)) := by
  have hx' : x % 9223372036854775808 ≤ 9218868437227405312 := by simpa [nanB] using hx
  have hy' : y % 9223372036854775808 ≤ 9218868437227405312 := by simpa [nanB] using hy
  unfold skey
  rw [← compare_sg]
  by_cases cx : x % 9223372036854775808 = 9218868437227405312 <;> by_cases cy : y % 9223372036854775808 = 9218868437227405312
  · simp only [Format.order, read_inf x cx, read_inf y cy, Datum.order, cx, cy]
    have hp : 0 < vmag 9218868437227405312 := vmag_pos (by omega)
    generalize vmag 9218868437227405312 = V at *
    generalize negB x = s
    generalize negB y = t
    cases s <;> cases t <;> simp only [sg, compare, compareOfLessAndEq] <;> simp <;> (try split) <;> (try split) <;> first | rfl | omega
  · obtain ⟨n, b, e, hv⟩ := read_num y (by omega)
    simp only [Format.order, read_inf x cx, e, Datum.order, cx]
    have hp : vmag (y % 9223372036854775808) < vmag 9218868437227405312 := vmag_lt (by omega)
    generalize vmag 9218868437227405312 = V at *
    generalize vmag (y % 9223372036854775808) = U at *
    cases negB x <;> cases negB y <;> simp only [sg, compare, compareOfLessAndEq] <;> simp <;> (try split) <;> (try split) <;> first | rfl | omega
  · obtain ⟨n, b, e, hv⟩ := read_num x (by omega)
    simp only [Format.order, read_inf y cy, e, Datum.order, cy]
    have hp : vmag (x % 9223372036854775808) < vmag 9218868437227405312 := vmag_lt (by omega)
    generalize vmag 9218868437227405312 = V at *
    generalize vmag (x % 9223372036854775808) = U at *
    cases negB x <;> cases negB y <;> simp only [sg, compare, compareOfLessAndEq] <;> simp <;> (try split) <;> (try split) <;> first | rfl | omega
  · obtain ⟨m, a, ex, hvx⟩ := read_num x (by omega)
    obtain ⟨n, b, ey, hvy⟩ := read_num y (by omega)
    simp only [Format.order, ex, ey]
    rw [order_num, hvx, hvy]
/-- A word's place among all: NaN lowest, then by worth, -0 below +0. -/
def fkey (x : Nat) : Int := if x < 9223372036854775808 then x else -((x % 9223372036854775808 : Nat) : Int) - 1
def lessP (a b : Nat) : Bool := if nanB a || nanB b then nanB a && !nanB b else decide (fkey a < fkey b)
theorem order_self (x : Nat) : (double.order x x == some .eq) = !nanB x := by
  cases h : nanB x
  · rw [order_eq x x h h]; simp [compare, compareOfLessAndEq]
  · rw [order_nan_left x x h]; rfl
theorem order_lt_iff (x y : Nat) (hx : nanB x = false) (hy : nanB y = false) : (double.order x y == some .lt) = decide (skey x < skey y) := by
  rw [order_eq x y hx hy]
  simp only [compare, compareOfLessAndEq]
  by_cases c : skey x < skey y
  · simp [c]
  · rw [if_neg c]; simp only [c, decide_false]; split <;> rfl
theorem order_eq_iff (x y : Nat) (hx : nanB x = false) (hy : nanB y = false) : (double.order x y == some .eq) = decide (skey x = skey y) := by
  rw [order_eq x y hx hy]
  simp only [compare, compareOfLessAndEq]
  by_cases c : skey x < skey y
  · have : ¬ skey x = skey y := by omega
    simp [c, this]
  · rw [if_neg c]; by_cases c2 : skey x = skey y <;> simp [c2]
theorem skey_of (x : Nat) (h : x < 18446744073709551616) : skey x = if x < 9223372036854775808 then (x : Int) else -((x % 9223372036854775808 : Nat) : Int) := by
  unfold skey negB sg
  by_cases c : x < 9223372036854775808
  · rw [if_pos c, Nat.div_eq_of_lt c, Nat.mod_eq_of_lt c]; simp
  · rw [if_neg c]
    have : x / 9223372036854775808 = 1 := by omega
    rw [this]; simp
end Go.Proofs.Ytdhnmcdgiddhdab
