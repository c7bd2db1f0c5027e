/-
  The walk of ScoreOrder.
-/
import Derived.Test.YtfnmbfhlfblkhaaScoreBegun
import Derived.OpenShut
set_option linter.unusedVariables false
set_option linter.unusedSimpArgs false
namespace Go.Proofs.Ytfnmbfhlfblkhaa
open Go.RowKit Go.ChangeShapes Go.WideShapes
set_option maxRecDepth 100000
theorem fkey_inj (a b : Nat) (ha : a < 18446744073709551616) (hb : b < 18446744073709551616) (h : fkey a = fkey b) : a = b := by
  unfold fkey at h
  split at h <;> split at h <;> omega
theorem less_not (a b : Nat) (h : lessP a b = true) : lessP b a = false := by
  unfold lessP at *
  cases hna : nanB a <;> cases hnb : nanB b <;> simp [hna, hnb] at h ⊢
  omega
theorem less_trans (a b c : Nat) (h : lessP a b = true) (h2 : lessP b c = true) : lessP a c = true := by
  unfold lessP at *
  cases hna : nanB a <;> cases hnb : nanB b <;> cases hnc : nanB c <;> simp [hna, hnb, hnc] at h h2 ⊢
  omega
theorem less_total (a b : Nat) (ha : a < 18446744073709551616) (hb : b < 18446744073709551616) : (lessP a b || lessP b a) = !(decide (a = b) || (nanB a && nanB b)) := by
  unfold lessP
  by_cases e : a = b
  · subst e; cases nanB a <;> simp
  · have hk : ¬ fkey a = fkey b := fun h => e (fkey_inj a b ha hb h)
    cases hna : nanB a <;> cases hnb : nanB b <;> simp [e]
    omega
set_option maxHeartbeats 2000000 in
theorem ScoreOrder_walk (w : World) (x : Int) (wx : (Lit.int .u64 x).wf = true) (y : Int) (wy : (Lit.int .u64 y).wf = true) (z : Int) (wz : (Lit.int .u64 z).wf = true) :
    Calls Try.prog 14 #[.int .u64 x, .int .u64 y, .int .u64 z] w fun e w' => e = .returned (.bool true) ∧ Below w.heap.size w w' := by
  have bx := bounds_u64 wx
  have by_ := bounds_u64 wy
  have bz := bounds_u64 wz
  obtain ⟨a, rfl⟩ := Int.eq_ofNat_of_zero_le bx.1
  obtain ⟨b, rfl⟩ := Int.eq_ofNat_of_zero_le by_.1
  obtain ⟨c, rfl⟩ := Int.eq_ofNat_of_zero_le bz.1
  have ha : a < 18446744073709551616 := by omega
  have hb : b < 18446744073709551616 := by omega
  have hc : c < 18446744073709551616 := by omega
  clear bx by_ bz wx wy wz
  have hself : ∀ x, (FloatKind.f64.format.order x x != some .eq) = nanB x := by
    intro x
    show (!(Ieee.double.order x x == some .eq)) = _
    rw [order_self]; simp
  have oa := hself a
  have ob := hself b
  clear hself
  have htot := less_total a b ha hb
  have hnot := less_not a b
  have htr := less_trans a b c
  go_enter Try.func14, Try.ntmps14
  go_wp2_with fail
  refine (begun12 w).mono ?_
  rintro e w1 ⟨rfl, hbel⟩
  go_wp2_with fail
  refine (less_any a b w1 ha hb).mono ?_
  rintro e w2 ⟨rfl, rfl⟩
  go_wp2_with fail
  refine (less_any b a w1 hb ha).mono ?_
  rintro e w2 ⟨rfl, rfl⟩
  go_wp2_with fail
  refine (refless_any a b w1 ha hb).mono ?_
  rintro e w2 ⟨rfl, rfl⟩
  obtain ⟨sm, hsm⟩ : ∃ sm, sm = (decide (a = b) || (nanB a && nanB b)) := ⟨_, rfl⟩
  have hsame : ∀ o, ((a : Int) == (b : Int)) = o → o = decide (a = b) := by
    rintro o rfl
    rw [Bool.eq_iff_iff]
    simp
    omega
  obtain ⟨eab, heab⟩ : ∃ eab, ((a : Int) == (b : Int)) = eab := ⟨_, rfl⟩
  have he2 := hsame eab heab
  rw [← he2] at htot
  clear hsame hsm he2
  generalize nanB a = na at *
  generalize nanB b = nb at *
  generalize lessP a b = p at *
  generalize lessP b a = q at *
  have finish : ∀ (p q eab na nb : Bool), (p || q) = !(eab || (na && nb)) → True := fun _ _ _ _ _ _ => trivial
  cases p with
  | true =>
    have hq := hnot rfl
    subst hq
    have HT := Lib.hid (htr rfl)
    clear hnot htr
    go_wp2_with fail
    refine (less_any b c w1 hb hc).mono ?_
    rintro e w2 ⟨rfl, rfl⟩
    cases hbc : lessP b c with
    | true =>
      have hac := HT.out hbc
      go_wp2_with fail
      refine (less_any a c w1 ha hc).mono ?_
      rintro e w2 ⟨rfl, rfl⟩
      rw [hac]
      clear hac hbc
      cases eab <;> cases na <;> cases nb <;> first | (simp at htot; done) | (clear htot; go_wp2_with fail; go_ret; exact ⟨by simp, hbel⟩)
    | false =>
      cases eab <;> cases na <;> cases nb <;> first | (simp at htot; done) | (clear htot; go_wp2_with fail; go_ret; exact ⟨by simp, hbel⟩)
  | false =>
    clear hnot htr
    cases q <;> cases eab <;> cases na <;> cases nb <;> first | (simp at htot; done) | (clear htot; go_wp2_with fail; go_ret; exact ⟨by simp, hbel⟩)
end Go.Proofs.Ytfnmbfhlfblkhaa
