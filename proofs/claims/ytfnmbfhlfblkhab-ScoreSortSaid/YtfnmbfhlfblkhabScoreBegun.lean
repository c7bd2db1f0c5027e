/-
  foliolaw12.begun returns true.
-/
import Derived.Test.YtfnmbfhlfblkhabScore
import Derived.WalkLawsBesides
set_option linter.unusedVariables false
set_option linter.unusedSimpArgs false
namespace Go.Proofs.Ytfnmbfhlfblkhab
open Go.RowKit
set_option maxRecDepth 100000
theorem ratio_some (d a : Int) (r : Nat) (w : World) (h : floatBits .quo .f64 (floatOfInt .f64 d) (floatOfInt .f64 a) = some r) :
    Calls Try.prog 15 #[.int .i64 d, .int .i64 a] w fun e w' => e = .returned (.float .f64 r) ∧ w = w' := by
  have hq := run_float_arith (P := Try.prog) w .quo 25 .f64 _ _ r h
  clear h
  generalize hx : floatOfInt .f64 d = x at hq
  generalize hy : floatOfInt .f64 a = y at hq
  have e1 := run_convert_int_float (P := Try.prog) w 3 25 .i64 .f64 d (by rw [Try.underlying3]; rfl) Try.underlying25
  have e2 := run_convert_int_float (P := Try.prog) w 3 25 .i64 .f64 a (by rw [Try.underlying3]; rfl) Try.underlying25
  rw [hx] at e1
  rw [hy] at e2
  clear hx hy
  go_enter Try.func15, Try.ntmps15
  go_wp2
  go_ret
  exact ⟨rfl, rfl⟩
theorem nan_any (w : World) : Calls Try.prog 19 #[] w fun e w' => e = .returned (.float .f64 9221120237041090561) ∧ w = w' := by
  go_enter Try.func19, Try.ntmps19
  go_wp2
  go_ret
  exact ⟨rfl, rfl⟩
theorem inf_neg (w : World) : Calls Try.prog 20 #[.int .i64 (-1)] w fun e w' => e = .returned (.float .f64 18442240474082181120) ∧ w = w' := by
  go_enter Try.func20, Try.ntmps20
  go_wp2
  go_ret
  exact ⟨rfl, rfl⟩
theorem copysign_neg (w : World) : Calls Try.prog 21 #[.float .f64 0, .float .f64 13830554455654793216] w fun e w' => e = .returned (.float .f64 9223372036854775808) ∧ w = w' := by
  go_enter Try.func21, Try.ntmps21
  go_wp2
  go_ret
  exact ⟨rfl, rfl⟩
theorem sbits_any (x : Nat) (w : World) : Calls Try.prog 9 #[.float .f64 x] w fun e w' => e = .returned (.int .u64 (if nanB x then 9221120237041090561 else (x : Int))) ∧ w = w' := by
  cases hn : nanB x with
  | true =>
    go_enter Try.func9, Try.ntmps9
    go_wp2_with fail
    refine (isnan_any x w).mono ?_
    rintro e w1 ⟨rfl, rfl⟩
    rw [hn]
    go_wp2_with fail
    go_ret
    exact ⟨rfl, rfl⟩
  | false =>
    go_enter Try.func9, Try.ntmps9
    go_wp2_with fail
    refine (isnan_any x w).mono ?_
    rintro e w1 ⟨rfl, rfl⟩
    rw [hn]
    go_wp2_with fail
    go_ret
    exact ⟨rfl, rfl⟩
theorem rd_floats (w : World) (a b c d : Nat) (T : TypeId) : Rd (w.alloc (.cells #[.float .f64 a, .float .f64 b, .float .f64 c, .float .f64 d] T)) 1 (.slice (some ⟨w.heap.size, 0, none⟩) 4 4) 4 (fv [a, b, c, d]) := by
  refine ⟨_, 4, rfl, by simp [maxLen], by simp [fv], by simp, fun ad e j u hu => ?_⟩
  simp only [Option.some.injEq] at e
  subst e
  rw [add_lit0]
  match j, hu with
  | 0, hu => simp [fv] at hu; subst hu; simp
  | 1, hu => simp [fv] at hu; subst hu; simp
  | 2, hu => simp [fv] at hu; subst hu; simp
  | 3, hu => simp [fv] at hu; subst hu; simp
  | j + 4, hu => simp [fv] at hu
set_option maxHeartbeats 2000000 in
theorem begun12 (w : World) : Calls Try.prog 7 #[] w fun e w' => e = .returned (.bool true) ∧ Below w.heap.size w w' := by
  have o1 : (FloatKind.f64.format.order 4602678819172646912 4602678819172646912 == some .eq) = true := by decide
  go_enter Try.func7, Try.ntmps7
  go_wp2_with fail
  refine (nan_any w).mono ?_
  rintro e w1 ⟨rfl, rfl⟩
  go_wp2_with fail
  refine (ratio_some 1 2 4602678819172646912 w (by decide)).mono ?_
  rintro e w1 ⟨rfl, rfl⟩
  go_wp2_with fail
  refine (inf_neg w).mono ?_
  rintro e w1 ⟨rfl, rfl⟩
  go_wp2_with fail
  refine (less_any _ _ w (by omega) (by omega)).mono ?_
  rintro e w1 ⟨rfl, rfl⟩
  rw [show lessP 9221120237041090561 18442240474082181120 = true from by decide]
  go_wp2_with fail
  refine (less_any _ _ w (by omega) (by omega)).mono ?_
  rintro e w1 ⟨rfl, rfl⟩
  rw [show lessP 9221120237041090561 9221120237041090561 = false from by decide]
  go_wp2_with fail
  refine (copysign_neg w).mono ?_
  rintro e w1 ⟨rfl, rfl⟩
  go_wp2_with fail
  refine (less_any _ _ w (by omega) (by omega)).mono ?_
  rintro e w1 ⟨rfl, rfl⟩
  rw [show lessP 9223372036854775808 0 = true from by decide]
  have hb := (Below.refl w.heap.size w).alloc (Nat.le_refl _) (Obj.cells #[.float .f64 4607182418800017408, .float .f64 9221120237041090561, .float .f64 4613937818241073152, .float .f64 4613937818241073152] 25)
  have hrd := rd_floats w 4607182418800017408 9221120237041090561 4613937818241073152 4613937818241073152 25
  go_wp2_with fail
  refine (best_any _ [4607182418800017408, 9221120237041090561, 4613937818241073152, 4613937818241073152] _ hrd (by simp) (by simp)).mono ?_
  rintro e w1 ⟨rfl, rfl⟩
  rw [show bestFrom [4607182418800017408, 9221120237041090561, 4613937818241073152, 4613937818241073152] [4607182418800017408, 9221120237041090561, 4613937818241073152, 4613937818241073152] 0 (-1) = 2 from by decide]
  go_wp2_with fail
  refine (sbits_any _ _).mono ?_
  rintro e w1 ⟨rfl, rfl⟩
  rw [show nanB 9221120237041090561 = true from by decide]
  go_wp2_with fail
  go_ret
  exact ⟨rfl, hb⟩
end Go.Proofs.Ytfnmbfhlfblkhab
