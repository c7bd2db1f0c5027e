/-
  Contracts of the package score and of the reference's order of floats.
-/
import Derived.Test.YtdhnmcdgiddhdabCore
import Derived.Laws.BitsAllLaws
import Derived.Test.YtdhnmcdgiddhdabPureFloat
import Derived.Laws.Externs
import GoSem.Extern.MathFloatBits
set_option linter.unusedVariables false
set_option linter.unusedSimpArgs false
namespace Go.Proofs.Ytdhnmcdgiddhdab
open Go.RowKit
set_option maxRecDepth 100000
@[go_sem] theorem call_bits (x : Nat) (w : World) : (callFunc 26 #[.float .f64 x]).run Try.prog w = .ok (.value (.int .u64 (x : Int))) w := by
  rw [run_callFunc_extern Try.func26 (by kernel_rfl) (by kernel_rfl) (by kernel_rfl) (e := Extern.MathFloatBits.float64bits) (by kernel_rfl)]
  rfl
@[go_sem] theorem call_from (x : Int) (w : World) : (callFunc 10 #[.int .u64 x]).run Try.prog w = .ok (.value (.float .f64 x.toNat)) w := by
  rw [run_callFunc_extern Try.func10 (by kernel_rfl) (by kernel_rfl) (by kernel_rfl) (e := Extern.MathFloatBits.float64frombits) (by kernel_rfl)]
  rfl
theorem isnan_any (x : Nat) (w : World) : Calls Try.prog 29 #[.float .f64 x] w fun e w' => e = .returned (.bool (nanB x)) ∧ w = w' := by
  have h := order_self x
  have h2 : (FloatKind.f64.format.order x x != some .eq) = nanB x := by
    show (!(Ieee.double.order x x == some .eq)) = _
    rw [h]; simp
  go_enter Try.func29, Try.ntmps29
  go_wp2
  go_ret
  exact ⟨rfl, rfl⟩
theorem signbit_any (x : Nat) (w : World) (hx : x < 18446744073709551616) : Calls Try.prog 48 #[.float .f64 x] w fun e w' => e = .returned (.bool (decide (9223372036854775808 ≤ x))) ∧ w = w' := by
  have h : decide (wrap64 (x : Int) < 0) = decide (9223372036854775808 ≤ x) := by
    unfold wrap64
    rw [decide_eq_decide]
    omega
  have H := Lib.hid h
  clear h
  go_enter Try.func48, Try.ntmps48
  go_wp2
  go_ret
  exact ⟨congrArg (fun b => Ending.returned (.bool b)) H.out, rfl⟩
def rankP (x : Nat) : Int := if nanB x then 0 else if skey x = 0 ∧ 9223372036854775808 ≤ x then 1 else 2
theorem nan_zero : nanB 0 = false := by decide
theorem rank_any (x : Nat) (w : World) (hx : x < 18446744073709551616) : Calls Try.prog 42 #[.float .f64 x] w fun e w' => e = .returned (.int .i64 (rankP x)) ∧ w = w' := by
  cases hn : nanB x with
  | true =>
    have e : rankP x = 0 := by simp [rankP, hn]
    rw [e]
    clear e
    go_enter Try.func42, Try.ntmps42
    go_wp2_with fail
    refine (isnan_any x w).mono ?_
    rintro e w1 ⟨rfl, rfl⟩
    rw [hn]
    go_wp2_with fail
    go_ret
    exact ⟨rfl, rfl⟩
  | false =>
    have h1 := order_eq_iff x 0 hn nan_zero
    have h0 : skey 0 = 0 := by decide
    rw [h0] at h1
    by_cases c : skey x = 0
    · have h2 : (FloatKind.f64.format.order x 0 == some .eq) = true := by show (Ieee.double.order x 0 == some .eq) = _; rw [h1]; simp [c]
      clear h1
      have e : rankP x = if 9223372036854775808 ≤ x then 1 else 2 := by simp [rankP, hn, c]
      rw [e]
      clear e
      by_cases c2 : 9223372036854775808 ≤ x
      · rw [if_pos c2]
        go_enter Try.func42, Try.ntmps42
        go_wp2_with fail
        refine (isnan_any x w).mono ?_
        rintro e w1 ⟨rfl, rfl⟩
        rw [hn]
        go_wp2_with fail
        refine (signbit_any x w hx).mono ?_
        rintro e w1 ⟨rfl, rfl⟩
        go_wp2_with fail
        go_ret
        exact ⟨rfl, rfl⟩
      · rw [if_neg c2]
        go_enter Try.func42, Try.ntmps42
        go_wp2_with fail
        refine (isnan_any x w).mono ?_
        rintro e w1 ⟨rfl, rfl⟩
        rw [hn]
        go_wp2_with fail
        refine (signbit_any x w hx).mono ?_
        rintro e w1 ⟨rfl, rfl⟩
        go_wp2_with fail
        go_ret
        exact ⟨rfl, rfl⟩
    · have h2 : (FloatKind.f64.format.order x 0 == some .eq) = false := by show (Ieee.double.order x 0 == some .eq) = _; rw [h1]; simp [c]
      clear h1
      have e : rankP x = 2 := by simp [rankP, hn, c]
      rw [e]
      clear e
      go_enter Try.func42, Try.ntmps42
      go_wp2_with fail
      refine (isnan_any x w).mono ?_
      rintro e w1 ⟨rfl, rfl⟩
      rw [hn]
      go_wp2_with fail
      go_ret
      exact ⟨rfl, rfl⟩
theorem less_rank (a b : Nat) (ha : a < 18446744073709551616) (hb : b < 18446744073709551616) (h : nanB a = true ∨ nanB b = true ∨ skey a = skey b) : decide (rankP a < rankP b) = lessP a b := by
  unfold rankP lessP
  cases hna : nanB a <;> cases hnb : nanB b <;> simp only [hna, hnb] at h ⊢
  · simp at h
    have ka := skey_of a ha
    have kb := skey_of b hb
    unfold fkey
    simp only [Bool.false_or, Bool.or_self, Bool.false_eq_true, if_false]
    rw [decide_eq_decide]
    split at ka <;> split at kb <;> split <;> split <;> omega
  · simp; split <;> omega
  · simp; split <;> omega
  · simp
theorem less_lt (a b : Nat) (ha : a < 18446744073709551616) (hb : b < 18446744073709551616) (hna : nanB a = false) (hnb : nanB b = false) (h : ¬ skey a = skey b) : decide (skey a < skey b) = lessP a b := by
  have ka := skey_of a ha
  have kb := skey_of b hb
  unfold lessP fkey
  simp only [hna, hnb, Bool.or_self, Bool.false_eq_true, if_false]
  rw [decide_eq_decide]
  split at ka <;> split at kb <;> simp_all <;> omega
theorem less_any (a b : Nat) (w : World) (ha : a < 18446744073709551616) (hb : b < 18446744073709551616) : Calls Try.prog 30 #[.float .f64 a, .float .f64 b] w fun e w' => e = .returned (.bool (lessP a b)) ∧ w = w' := by
  cases hna : nanB a with
  | true =>
    rw [← less_rank a b ha hb (.inl hna)]
    go_enter Try.func30, Try.ntmps30
    go_wp2_with fail
    refine (isnan_any a w).mono ?_
    rintro e w1 ⟨rfl, rfl⟩
    rw [hna]
    go_wp2_with fail
    refine (rank_any a w ha).mono ?_
    rintro e w1 ⟨rfl, rfl⟩
    go_wp2_with fail
    refine (rank_any b w hb).mono ?_
    rintro e w1 ⟨rfl, rfl⟩
    go_wp2_with fail
    go_ret
    exact ⟨rfl, rfl⟩
  | false =>
    cases hnb : nanB b with
    | true =>
      rw [← less_rank a b ha hb (.inr (.inl hnb))]
      go_enter Try.func30, Try.ntmps30
      go_wp2_with fail
      refine (isnan_any a w).mono ?_
      rintro e w1 ⟨rfl, rfl⟩
      rw [hna]
      go_wp2_with fail
      refine (isnan_any b w).mono ?_
      rintro e w1 ⟨rfl, rfl⟩
      rw [hnb]
      go_wp2_with fail
      refine (rank_any a w ha).mono ?_
      rintro e w1 ⟨rfl, rfl⟩
      go_wp2_with fail
      refine (rank_any b w hb).mono ?_
      rintro e w1 ⟨rfl, rfl⟩
      go_wp2_with fail
      go_ret
      exact ⟨rfl, rfl⟩
    | false =>
      have h1 := order_eq_iff a b hna hnb
      have h3 := order_lt_iff a b hna hnb
      by_cases c : skey a = skey b
      · rw [← less_rank a b ha hb (.inr (.inr c))]
        have h2 : (FloatKind.f64.format.order a b == some .eq) = true := by show (Ieee.double.order a b == some .eq) = _; rw [h1]; simp [c]
        clear h1 h3 c
        go_enter Try.func30, Try.ntmps30
        go_wp2_with fail
        refine (isnan_any a w).mono ?_
        rintro e w1 ⟨rfl, rfl⟩
        rw [hna]
        go_wp2_with fail
        refine (isnan_any b w).mono ?_
        rintro e w1 ⟨rfl, rfl⟩
        rw [hnb]
        go_wp2_with fail
        refine (rank_any a w ha).mono ?_
        rintro e w1 ⟨rfl, rfl⟩
        go_wp2_with fail
        refine (rank_any b w hb).mono ?_
        rintro e w1 ⟨rfl, rfl⟩
        go_wp2_with fail
        go_ret
        exact ⟨rfl, rfl⟩
      · have h2 : (FloatKind.f64.format.order a b == some .eq) = false := by show (Ieee.double.order a b == some .eq) = _; rw [h1]; simp [c]
        have h4 : (FloatKind.f64.format.order a b == some .lt) = lessP a b := by show (Ieee.double.order a b == some .lt) = _; rw [h3, less_lt a b ha hb hna hnb c]
        clear h1 h3 c
        go_enter Try.func30, Try.ntmps30
        go_wp2_with fail
        refine (isnan_any a w).mono ?_
        rintro e w1 ⟨rfl, rfl⟩
        rw [hna]
        go_wp2_with fail
        refine (isnan_any b w).mono ?_
        rintro e w1 ⟨rfl, rfl⟩
        rw [hnb]
        go_wp2_with fail
        go_ret
        exact ⟨rfl, rfl⟩
theorem key_neg (a : Nat) (ha : a < 18446744073709551616) : wrap64 (wrap64 (-wrap64 (bits .and .u64 (a : Int) 9223372036854775807)) - 1) = -((a % 9223372036854775808 : Nat) : Int) - 1 := by
  have e : bits .and .u64 (a : Int) 9223372036854775807 = ((a % 9223372036854775808 : Nat) : Int) := by
    have h := u64_and_nat a 9223372036854775807 (by omega) (by omega)
    have h2 : a &&& 9223372036854775807 = a % 9223372036854775808 := Nat.and_two_pow_sub_one_eq_mod a 63
    rw [h2] at h
    exact h
  rw [e]
  unfold wrap64
  omega
theorem refkey_any (a : Nat) (w : World) (ha : a < 18446744073709551616) : Calls Try.prog 45 #[.float .f64 a] w fun e w' => e = .returned (.tuple #[.bool (!nanB a), .int .i64 (if nanB a then 0 else fkey a)]) ∧ w = w' := by
  have h := order_self a
  have h2 : (FloatKind.f64.format.order a a != some .eq) = nanB a := by
    show (!(Ieee.double.order a a == some .eq)) = _
    rw [h]; simp
  clear h
  cases hn : nanB a with
  | true =>
    rw [hn] at h2
    go_enter Try.func45, Try.ntmps45
    go_wp2_with fail
    go_ret2
    exact ⟨rfl, rfl⟩
  | false =>
    rw [hn] at h2
    unfold fkey
    by_cases c : a < 9223372036854775808
    · rw [if_pos c]
      have g : ((a : Int) / 2 ^ 63 == 1) = false := by simp; omega
      have g2 : (a : Int) ≤ 9223372036854775807 := by omega
      go_enter Try.func45, Try.ntmps45
      go_wp2_with fail
      go_ret2
      exact ⟨rfl, rfl⟩
    · rw [if_neg c]
      have g : ((a : Int) / 2 ^ 63 == 1) = true := by simp; omega
      go_enter Try.func45, Try.ntmps45
      go_wp2_with fail
      go_ret2
      have hk := key_neg a ha
      refine ⟨?_, rfl⟩
      rw [show (-((a : Int) % 9223372036854775808) - 1) = -((a % 9223372036854775808 : Nat) : Int) - 1 from by omega, ← hk]
      rfl
theorem refless_any (a b : Nat) (w : World) (ha : a < 18446744073709551616) (hb : b < 18446744073709551616) : Calls Try.prog 33 #[.float .f64 a, .float .f64 b] w fun e w' => e = .returned (.bool (lessP a b)) ∧ w = w' := by
  cases hna : nanB a <;> cases hnb : nanB b
  · have e : lessP a b = decide (fkey a < fkey b) := by simp [lessP, hna, hnb]
    rw [e]
    clear e
    go_enter Try.func33, Try.ntmps33
    go_wp2_with fail
    refine (refkey_any a w ha).mono ?_
    rintro e w1 ⟨rfl, rfl⟩
    rw [hna]
    go_wp2_with fail
    refine (refkey_any b w hb).mono ?_
    rintro e w1 ⟨rfl, rfl⟩
    rw [hnb]
    go_wp2_with fail
    go_ret
    exact ⟨rfl, rfl⟩
  · have e : lessP a b = false := by simp [lessP, hna, hnb]
    rw [e]
    clear e
    go_enter Try.func33, Try.ntmps33
    go_wp2_with fail
    refine (refkey_any a w ha).mono ?_
    rintro e w1 ⟨rfl, rfl⟩
    rw [hna]
    go_wp2_with fail
    refine (refkey_any b w hb).mono ?_
    rintro e w1 ⟨rfl, rfl⟩
    rw [hnb]
    go_wp2_with fail
    go_ret
    exact ⟨rfl, rfl⟩
  · have e : lessP a b = true := by simp [lessP, hna, hnb]
    rw [e]
    clear e
    go_enter Try.func33, Try.ntmps33
    go_wp2_with fail
    refine (refkey_any a w ha).mono ?_
    rintro e w1 ⟨rfl, rfl⟩
    rw [hna]
    go_wp2_with fail
    refine (refkey_any b w hb).mono ?_
    rintro e w1 ⟨rfl, rfl⟩
    rw [hnb]
    go_wp2_with fail
    go_ret
    exact ⟨rfl, rfl⟩
  · have e : lessP a b = false := by simp [lessP, hna, hnb]
    rw [e]
    clear e
    go_enter Try.func33, Try.ntmps33
    go_wp2_with fail
    refine (refkey_any a w ha).mono ?_
    rintro e w1 ⟨rfl, rfl⟩
    rw [hna]
    go_wp2_with fail
    refine (refkey_any b w hb).mono ?_
    rintro e w1 ⟨rfl, rfl⟩
    rw [hnb]
    go_wp2_with fail
    go_ret
    exact ⟨rfl, rfl⟩
/-- Floats as cells. -/
def fv (l : List Nat) : List Value := l.map (Value.float .f64)
theorem fv_get (l : List Nat) (i : Nat) (x : Nat) (h : l[i]? = some x) : (fv l)[i]? = some (.float .f64 x) := by simp [fv, h]
end Go.Proofs.Ytdhnmcdgiddhdab
