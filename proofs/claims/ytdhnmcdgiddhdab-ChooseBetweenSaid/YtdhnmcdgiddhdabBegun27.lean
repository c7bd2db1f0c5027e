/-
  foliolaw27.begun returns true.
-/
import Derived.Test.YtdhnmcdgiddhdabChOrder
import Derived.Test.YtdhnmcdgiddhdabMedian
set_option linter.unusedVariables false
set_option linter.unusedSimpArgs false
namespace Go.Proofs.Ytdhnmcdgiddhdab
open Go.RowKit
set_option maxRecDepth 100000
def us0 : List UseP := [⟨1, 1, 10, 0⟩, ⟨2, 9, 10, 0⟩, ⟨3, 0, 10, 0⟩]
theorem spec0 : SpecC (okU 0 us0) (rU 0 us0) (numU us0) 3 [1, 0] := by
  have e : (List.range 3).filter (okU 0 us0) = [0, 1] := by decide +kernel
  have h : rU 0 us0 0 < rU 0 us0 1 := by decide +kernel
  refine ⟨by rw [e]; exact List.Perm.swap 0 1 [], ?_⟩
  rw [List.pairwise_pair]
  exact .inl h
theorem worth0 : wL us0 5 [1, 0] 0 = ([1], 1) := by decide +kernel
theorem med0 : medV (medS [4613937818241073152, 4607182418800017408, 4611686018427387904]) = some 4611686018427387904 := by decide +kernel
theorem mean0 : meanV [4607182418800017408, 4611686018427387904] = some 4609434218613702656 := by decide +kernel
theorem Rd.lits12 (w : World) (X : Array Value) (T : TypeId) (hn : X.size = 12) : Rd (w.alloc (.cells X T)) 4 (.slice (some ⟨w.heap.size, 0, none⟩) 3 3) 3 X.toList := by
  have h := Rd.lits w X T 12 hn (by unfold maxLen; omega)
  refine ⟨_, 3, rfl, by simp [maxLen], by simp [hn], by simp, fun ad e j u hu => ?_⟩
  cases e
  obtain ⟨ad', e', hc⟩ := h.at hu
  cases e'
  exact hc
set_option maxHeartbeats 8000000 in
theorem begun27 (w : World) : Calls Try.prog 8 #[] w fun e w' => e = .returned (.bool true) ∧ Below w.heap.size w w' := by
  have o1 : (FloatKind.f64.format.order 4611686018427387904 4611686018427387904 == some .eq) = true := by decide +kernel
  have o2 : (FloatKind.f64.format.order 4609434218613702656 4609434218613702656 == some .eq) = true := by decide +kernel
  have hsm : ∀ u ∈ us0, u.age < 18446744073709551616 := by decide
  have hsm2 : ∀ u ∈ us0, 0 ≤ u.dead ∧ u.dead ≤ 100 ∧ 0 ≤ u.all ∧ u.all ≤ 100 := by decide
  go_enter Try.func8, Try.ntmps8
  go_wp2_with fail
  have hrd : Rd (w.alloc (.cells #[.int .i64 1, .int .i64 1, .int .i64 10, .float .f64 0, .int .i64 2, .int .i64 9, .int .i64 10, .float .f64 0, .int .i64 3, .int .i64 0, .int .i64 10, .float .f64 0] 51)) 4 (.slice (some ⟨w.heap.size, 0, none⟩) 3 3) us0.length (uv us0) := Rd.lits12 w _ 51 rfl
  have hS0 : St w.heap.size w (w.alloc (.cells #[.int .i64 1, .int .i64 1, .int .i64 10, .float .f64 0, .int .i64 2, .int .i64 9, .int .i64 10, .float .f64 0, .int .i64 3, .int .i64 0, .int .i64 10, .float .f64 0] 51)) [] := (St.init w).alloc' _
  generalize w.alloc (.cells #[.int .i64 1, .int .i64 1, .int .i64 10, .float .f64 0, .int .i64 2, .int .i64 9, .int .i64 10, .float .f64 0, .int .i64 3, .int .i64 0, .int .i64 10, .float .f64 0] 51) = w1 at hrd hS0 ⊢
  refine (chorder_any _ us0 0 w1 hrd (by omega) hsm (by decide)).mono ?_
  rintro e w2 ⟨v1, js, c1, rfl, hr1, hsp, hS1⟩
  obtain rfl : js = [1, 0] := SpecC.unique hsp spec0
  have HRD := Lib.hid hrd
  have hr1' : RowC 2 1 v1 2 (iv [2, 1]) c1 := hr1
  obtain ⟨ao1, cap1, rfl⟩ := hr1'.shape
  obtain ⟨g1, rfl⟩ := hr1'.head (by omega)
  have hS2 := hS0.join hS1
  have HR1 := Lib.hid (And.intro hr1' (And.intro hS1 hS2))
  clear hrd hr1 hsp hr1' hS1 hS2 hS0
  go_wp2_with fail
  refine (chworth_any _ us0 0 5 w2 (HRD.out.st HR1.out.2.1) (by omega) hsm hsm2 (by omega) (by decide)).mono ?_
  rintro e w3 ⟨v2, js, c2, rfl, hr2, hsp, hS3⟩
  obtain rfl : js = [1, 0] := SpecC.unique hsp spec0
  rw [worth0] at hr2 ⊢
  have hr2' : RowC 2 1 v2 1 (iv [2]) c2 := hr2
  obtain ⟨ao2, cap2, rfl⟩ := hr2'.shape
  obtain ⟨g2, rfl⟩ := hr2'.head (by omega)
  have hS4 := HR1.out.2.2.join hS3
  have d1 := HR1.out.1.cellAt hS4 1 rfl (iv_get _ 0 2 rfl)
  have d2 := HR1.out.1.cellAt hS4 1 rfl (iv_get _ 1 1 rfl)
  have HS4 := Lib.hid (And.intro hS4 (HR1.out.2.1.join hS3))
  clear hr2 hsp hr2' hS3 hS4
  go_wp2_with fail
  refine (median_any _ [4613937818241073152, 4607182418800017408, 4611686018427387904] _ (Rd.lits w3 _ 29 3 rfl (by unfold maxLen; omega)) (by decide) (by decide)).mono ?_
  rintro e w4 ⟨x, rfl, hx, hb⟩
  rw [med0] at hx
  obtain ⟨_, rfl⟩ := hx
  have HS5 := Lib.hid (And.intro ((HS4.out.1.alloc' (.cells #[.float .f64 4613937818241073152, .float .f64 4607182418800017408, .float .f64 4611686018427387904] 29)).mono hb) ((HS4.out.2.alloc' (.cells #[.float .f64 4613937818241073152, .float .f64 4607182418800017408, .float .f64 4611686018427387904] 29)).mono hb))
  clear hb d1 d2
  go_wp2_with fail
  refine (mean_any _ [4607182418800017408, 4611686018427387904] _ (Rd.lits w4 _ 29 2 rfl (by unfold maxLen; omega)) (by decide) (by decide)).mono ?_
  rintro e w5 ⟨x, rfl, hx, hb⟩
  rw [mean0] at hx
  obtain ⟨_, rfl⟩ := hx
  have HS6 := Lib.hid (And.intro ((HS5.out.1.alloc' (.cells #[.float .f64 4607182418800017408, .float .f64 4611686018427387904] 29)).mono hb) ((HS5.out.2.alloc' (.cells #[.float .f64 4607182418800017408, .float .f64 4611686018427387904] 29)).mono hb))
  clear hb
  go_wp2_with fail
  refine (gains_any _ us0 0 w5 (HRD.out.st HS6.out.2) (by omega) hsm (by decide)).mono ?_
  rintro e w6 ⟨v7, xs, c7, rfl, hr7, hg, _, hS7⟩
  have hxl : xs.length = 3 := hg.1
  rw [hxl] at hr7
  obtain ⟨ao7, cap7, rfl⟩ := hr7.shape
  have HS7 := Lib.hid (HS6.out.1.join hS7).below
  clear hr7 hg hxl hS7
  go_wp2_with fail
  go_ret
  exact ⟨rfl, HS7.out⟩
end Go.Proofs.Ytdhnmcdgiddhdab
