/-
  FloatBits; a float by its bits.
-/
import Derived.Test.YtdhnmcdgiddhdabScoreN
set_option linter.unusedVariables false
set_option linter.unusedSimpArgs false
namespace Go.Proofs.Ytdhnmcdgiddhdab
open Go.RowKit
set_option maxRecDepth 100000
theorem floatbits_any (x : Nat) (w : World) : Calls Try.prog 12 #[.float .f64 x] w fun e w' => e = .returned (.int .u64 (if nanB x then 9221120237041090561 else (x : Int))) ∧ w = w' := by
  have h := order_self x
  have h2 : (FloatKind.f64.format.order x x != some .eq) = nanB x := by
    show (!(Ieee.double.order x x == some .eq)) = _
    rw [h]; simp
  clear h
  cases hn : nanB x with
  | true =>
    rw [hn] at h2
    go_enter Try.func12, Try.ntmps12
    go_wp2_with fail
    go_ret
    exact ⟨rfl, rfl⟩
  | false =>
    rw [hn] at h2
    go_enter Try.func12, Try.ntmps12
    go_wp2_with fail
    go_ret
    exact ⟨rfl, rfl⟩
/-- A float's bits, all NaNs being one. -/
def sbP (x : Nat) : Int := if nanB x then 9221120237041090561 else (x : Int)
theorem sbits_sb (x : Nat) (w : World) : Calls Try.prog 20 #[.float .f64 x] w fun e w' => e = .returned (.int .u64 (sbP x)) ∧ w = w' := sbits_any x w
theorem floatbits_sb (x : Nat) (w : World) : Calls Try.prog 12 #[.float .f64 x] w fun e w' => e = .returned (.int .u64 (sbP x)) ∧ w = w' := floatbits_any x w
theorem fkey_neg (x : Nat) : fkey x < 0 ↔ 9223372036854775808 ≤ x := by
  unfold fkey
  split <;> omega
end Go.Proofs.Ytdhnmcdgiddhdab
