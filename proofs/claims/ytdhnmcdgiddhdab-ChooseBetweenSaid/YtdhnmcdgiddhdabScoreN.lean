/-
  Ratio of whole numbers, NaN, Bits.
-/
import Derived.Test.YtdhnmcdgiddhdabScore
import Derived.WalkLawsBesides
set_option linter.unusedVariables false
set_option linter.unusedSimpArgs false
namespace Go.Proofs.Ytdhnmcdgiddhdab
open Go.RowKit
set_option maxRecDepth 100000
theorem ratio_some (d a : Int) (r : Nat) (w : World) (h : floatBits .quo .f64 (floatOfInt .f64 d) (floatOfInt .f64 a) = some r) :
    Calls Try.prog 38 #[.int .i64 d, .int .i64 a] w fun e w' => e = .returned (.float .f64 r) ∧ w = w' := by
  have hq := run_float_arith (P := Try.prog) w .quo 29 .f64 _ _ r h
  clear h
  generalize hx : floatOfInt .f64 d = x at hq
  generalize hy : floatOfInt .f64 a = y at hq
  have e1 := run_convert_int_float (P := Try.prog) w 3 29 .i64 .f64 d (by rw [Try.underlying3]; rfl) Try.underlying29
  have e2 := run_convert_int_float (P := Try.prog) w 3 29 .i64 .f64 a (by rw [Try.underlying3]; rfl) Try.underlying29
  rw [hx] at e1
  rw [hy] at e2
  clear hx hy
  go_enter Try.func38, Try.ntmps38
  go_wp2
  go_ret
  exact ⟨rfl, rfl⟩
theorem nan_any (w : World) : Calls Try.prog 32 #[] w fun e w' => e = .returned (.float .f64 9221120237041090561) ∧ w = w' := by
  go_enter Try.func32, Try.ntmps32
  go_wp2
  go_ret
  exact ⟨rfl, rfl⟩
theorem sbits_any (x : Nat) (w : World) : Calls Try.prog 20 #[.float .f64 x] w fun e w' => e = .returned (.int .u64 (if nanB x then 9221120237041090561 else (x : Int))) ∧ w = w' := by
  cases hn : nanB x with
  | true =>
    go_enter Try.func20, Try.ntmps20
    go_wp2_with fail
    refine (isnan_any x w).mono ?_
    rintro e w1 ⟨rfl, rfl⟩
    rw [hn]
    go_wp2_with fail
    go_ret
    exact ⟨rfl, rfl⟩
  | false =>
    go_enter Try.func20, Try.ntmps20
    go_wp2_with fail
    refine (isnan_any x w).mono ?_
    rintro e w1 ⟨rfl, rfl⟩
    rw [hn]
    go_wp2_with fail
    go_ret
    exact ⟨rfl, rfl⟩
theorem rd_floats (w : World) (a b c d : Nat) (T : TypeId) : Rd (w.alloc (.cells #[.float .f64 a, .float .f64 b, .float .f64 c, .float .f64 d] T)) 1 (.slice (some ⟨w.heap.size, 0, none⟩) 4 4) 4 (fv [a, b, c, d]) := by
  refine ⟨_, 4, rfl, by simp [maxLen], by simp [fv], by simp, fun ad e j u hu => ?_⟩
  simp only [Option.some.injEq] at e
  subst e
  rw [add_lit0]
  match j, hu with
  | 0, hu => simp [fv] at hu; subst hu; simp
  | 1, hu => simp [fv] at hu; subst hu; simp
  | 2, hu => simp [fv] at hu; subst hu; simp
  | 3, hu => simp [fv] at hu; subst hu; simp
  | j + 4, hu => simp [fv] at hu
end Go.Proofs.Ytdhnmcdgiddhdab
