/-
  The walk of ChooseNone.
-/
import Derived.Test.YtdhnmcdgiddhdabBegun27
set_option linter.unusedVariables false
set_option linter.unusedSimpArgs false
namespace Go.Proofs.Ytdhnmcdgiddhdab
open Go.RowKit
set_option maxRecDepth 100000
theorem ne_self (x : Nat) : (FloatKind.f64.format.order x x != some .eq) = nanB x := by
  have h := order_self x
  show (!(Ieee.double.order x x == some .eq)) = _
  rw [h]; simp
theorem spec_nil {ok : Nat → Bool} {r : Nat → Nat} {num : Nat → Int} {js : List Nat} (h : SpecC ok r num 0 js) : js = [] := by
  have := h.length
  exact List.eq_nil_of_length_eq_zero (by omega)
set_option maxHeartbeats 4000000 in
theorem ChooseNone_walk (w : World) : Calls Try.prog 5 #[] w fun e w' => e = .returned (.bool true) ∧ Below w.heap.size w w' := by
  have hnil : ∀ wx : World, Rd wx 4 (.slice none 0 0) ([] : List UseP).length (uv []) := fun wx => Rd.nil wx 4
  have hnilf : ∀ wx : World, Rd wx 1 (.slice none 0 0) ([] : List Nat).length (fv []) := fun wx => Rd.nil wx 1
  have HN := Lib.hid (And.intro hnil hnilf)
  clear hnil hnilf
  go_enter Try.func5, Try.ntmps5
  go_wp2_with fail
  refine (chworth_any _ [] 4607182418800017408 100 w (HN.out.1 w) (by omega) (by simp) (by simp) (by omega) (by simp)).mono ?_
  rintro e w1 ⟨v1, js, c1, rfl, hr1, hsp, hS1⟩
  obtain rfl := spec_nil hsp
  have hr1' : RowC 2 1 v1 0 [] c1 := hr1
  obtain ⟨ao1, cap1, rfl⟩ := hr1'.shape
  have HS1 := Lib.hid ((St.init w).join hS1)
  clear hr1 hr1' hsp hS1
  simp only [wL]
  go_wp2_with fail
  refine (median_any _ [] w1 (HN.out.2 w1) (by simp) (by simp)).mono ?_
  rintro e w2 ⟨x2, rfl, hx2, hb⟩
  have h2 : nanB x2 = true := hx2.2
  have HS2 := Lib.hid (HS1.out.mono hb)
  clear hx2 hb
  go_wp2_with fail
  refine (mean_any _ [] w2 (HN.out.2 w2) (by simp) (by simp)).mono ?_
  rintro e w3 ⟨x3, rfl, hx3, hb⟩
  rw [meanV_nil] at hx3
  have h3 : nanB x3 = true := hx3.2
  have HS3 := Lib.hid (HS2.out.mono hb)
  clear hx3 hb
  have n2 := ne_self x2
  have n3 := ne_self x3
  rw [h2] at n2
  rw [h3] at n3
  go_wp2_with fail
  refine (begun27 w3).mono ?_
  rintro e w4 ⟨rfl, hb⟩
  have HS4 := Lib.hid (HS3.out.mono hb)
  clear hb
  go_wp2_with fail
  refine (gains_any _ [] 4607182418800017408 w4 (HN.out.1 w4) (by omega) (by simp) (by simp)).mono ?_
  rintro e w5 ⟨v5, xs, c5, rfl, hr5, hg, _, hS5⟩
  have hxl : xs.length = 0 := hg.1
  rw [hxl] at hr5
  obtain ⟨ao5, cap5, rfl⟩ := hr5.shape
  have HS5 := Lib.hid (HS4.out.join hS5)
  clear hr5 hg hxl hS5
  go_wp2_with fail
  refine (chorder_any _ [] 4607182418800017408 w5 (HN.out.1 w5) (by omega) (by simp) (by simp)).mono ?_
  rintro e w6 ⟨v6, js, c6, rfl, hr6, hsp, hS6⟩
  obtain rfl := spec_nil hsp
  have hr6' : RowC 2 1 v6 0 [] c6 := hr6
  obtain ⟨ao6, cap6, rfl⟩ := hr6'.shape
  have HS6 := Lib.hid (HS5.out.join hS6).below
  clear hr6 hr6' hsp hS6
  go_wp2_with fail
  go_ret
  exact ⟨rfl, HS6.out⟩
end Go.Proofs.Ytdhnmcdgiddhdab
