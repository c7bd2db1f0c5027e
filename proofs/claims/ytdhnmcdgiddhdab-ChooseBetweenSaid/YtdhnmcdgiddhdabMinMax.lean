/-
  math.Min, math.Max of floats that are not too great.
-/
import Derived.Test.YtdhnmcdgiddhdabMid
import Derived.Test.YtdhnmcdgiddhdabPureHalf
import GoSem.Extern.MathDim
set_option linter.unusedVariables false
set_option linter.unusedSimpArgs false
namespace Go.Proofs.Ytdhnmcdgiddhdab
open Go.RowKit Ieee
set_option maxRecDepth 100000
/-- Not too great. -/
def OkF (x : Nat) : Prop := x < 18446744073709551616 ∧ nanB x = false ∧ x % 9223372036854775808 ≤ 9094988921128908188
theorem gt_iff (x y : Nat) (hx : nanB x = false) (hy : nanB y = false) : (double.order x y == some .gt) = decide (skey y < skey x) := by
  rw [order_eq x y hx hy, Bool.eq_iff_iff]
  simp only [beq_iff_eq, Option.some.injEq, decide_eq_true_eq]
  exact Int.compare_eq_gt
def pickF (neg : Bool) (win : Ordering) (x y : Nat) : Nat :=
  if FloatKind.f64.decode x == .infinity neg || FloatKind.f64.decode y == .infinity neg then FloatKind.f64.encode (.infinity neg)
  else if (FloatKind.f64.decode x).isNaN || (FloatKind.f64.decode y).isNaN then 0x7FF8000000000001
  else if (FloatKind.f64.decode x).isZero && (FloatKind.f64.decode y).isZero then (if (FloatKind.f64.decode x).neg == neg then x else y)
  else if (FloatKind.f64.decode x).order (FloatKind.f64.decode y) == some win then x else y
@[go_sem] theorem call_archmin (x y : Nat) (w : World) : (callFunc 34 #[.float .f64 x, .float .f64 y]).run Try.prog w = .ok (.value (.float .f64 (pickF true .lt x y))) w := by
  rw [run_callFunc_extern Try.func34 (by kernel_rfl) (by kernel_rfl) (by kernel_rfl) (e := Extern.MathDim.pick "math.archMin" true .lt) (by kernel_rfl)]
  rfl
@[go_sem] theorem call_archmax (x y : Nat) (w : World) : (callFunc 36 #[.float .f64 x, .float .f64 y]).run Try.prog w = .ok (.value (.float .f64 (pickF false .gt x y))) w := by
  rw [run_callFunc_extern Try.func36 (by kernel_rfl) (by kernel_rfl) (by kernel_rfl) (e := Extern.MathDim.pick "math.archMax" false .gt) (by kernel_rfl)]
  rfl
theorem read_ok {x : Nat} (h : OkF x) : ∃ s m p, FloatKind.f64.decode x = .number s m p ∧ (m = 0 ↔ skey x = 0) := by
  obtain ⟨h1, h2, h3⟩ := h
  obtain ⟨m, a, e, v⟩ := read_num x (by omega)
  refine ⟨_, m, _, e, ?_⟩
  have hz := zero_mag v
  unfold skey sg
  rw [hz]
  split <;> omega
theorem pick_ok {x y : Nat} (hx : OkF x) (hy : OkF y) (neg : Bool) (win : Ordering) : (skey x = 0 ∧ skey y = 0 ∧ (pickF neg win x y = x ∨ pickF neg win x y = y)) ∨ pickF neg win x y = if double.order x y == some win then x else y := by
  obtain ⟨s, m, p, e1, z1⟩ := read_ok hx
  obtain ⟨t, n, q, e2, z2⟩ := read_ok hy
  have ho : (FloatKind.f64.decode x).order (FloatKind.f64.decode y) = double.order x y := rfl
  unfold pickF
  rw [ho, e1, e2]
  have i1 : (Datum.number s m p == Datum.infinity neg) = false := rfl
  have i2 : (Datum.number t n q == Datum.infinity neg) = false := rfl
  have i3 : (Datum.number s m p).isNaN = false := rfl
  have i4 : (Datum.number t n q).isNaN = false := rfl
  rw [i1, i2, i3, i4]
  simp only [Bool.or_self, Bool.false_eq_true, if_false]
  by_cases hm : m = 0
  · by_cases hn : n = 0
    · left
      refine ⟨z1.1 hm, z2.1 hn, ?_⟩
      subst hm hn
      have j : ((Datum.number s 0 p).isZero && (Datum.number t 0 q).isZero) = true := rfl
      rw [j, if_pos rfl]
      split
      · exact .inl rfl
      · exact .inr rfl
    · right
      have j : (Datum.number t n q).isZero = false := by unfold Datum.isZero; cases n with
        | zero => exact absurd rfl hn
        | succ n => rfl
      rw [j, Bool.and_false, if_neg (by simp)]
  · right
    have j : (Datum.number s m p).isZero = false := by unfold Datum.isZero; cases m with
      | zero => exact absurd rfl hm
      | succ n => rfl
    rw [j, Bool.false_and, if_neg (by simp)]
/-- The lesser one. -/
def IsMin (x y z : Nat) : Prop := OkF z ∧ skey z ≤ skey x ∧ skey z ≤ skey y
def IsMax (x y z : Nat) : Prop := OkF z ∧ skey x ≤ skey z ∧ skey y ≤ skey z
theorem min_is {x y : Nat} (hx : OkF x) (hy : OkF y) : IsMin x y (pickF true .lt x y) := by
  rcases pick_ok hx hy true .lt with ⟨h1, h2, h | h⟩ | h
  · rw [h]; exact ⟨hx, Int.le_refl _, by omega⟩
  · rw [h]; exact ⟨hy, by omega, Int.le_refl _⟩
  · rw [h, order_lt_iff x y hx.2.1 hy.2.1]
    by_cases q : skey x < skey y
    · rw [if_pos (by simpa using q)]; exact ⟨hx, Int.le_refl _, by omega⟩
    · rw [if_neg (by simpa using q)]; exact ⟨hy, by omega, Int.le_refl _⟩
theorem max_is {x y : Nat} (hx : OkF x) (hy : OkF y) : IsMax x y (pickF false .gt x y) := by
  rcases pick_ok hx hy false .gt with ⟨h1, h2, h | h⟩ | h
  · rw [h]; exact ⟨hx, Int.le_refl _, by omega⟩
  · rw [h]; exact ⟨hy, by omega, Int.le_refl _⟩
  · rw [h, gt_iff x y hx.2.1 hy.2.1]
    by_cases q : skey y < skey x
    · rw [if_pos (by simpa using q)]; exact ⟨hx, Int.le_refl _, by omega⟩
    · rw [if_neg (by simpa using q)]; exact ⟨hy, by omega, Int.le_refl _⟩
theorem min_any (x y : Nat) (w : World) (hx : OkF x) (hy : OkF y) : Calls Try.prog 23 #[.float .f64 x, .float .f64 y] w fun e w' => ∃ z, e = .returned (.float .f64 z) ∧ IsMin x y z ∧ w = w' := by
  have HZ := Lib.hid (min_is hx hy)
  clear hx hy
  go_enter Try.func23, Try.ntmps23
  go_wp2
  go_ret
  exact ⟨_, rfl, HZ.out, rfl⟩
theorem max_any (x y : Nat) (w : World) (hx : OkF x) (hy : OkF y) : Calls Try.prog 24 #[.float .f64 x, .float .f64 y] w fun e w' => ∃ z, e = .returned (.float .f64 z) ∧ IsMax x y z ∧ w = w' := by
  have HZ := Lib.hid (max_is hx hy)
  clear hx hy
  go_enter Try.func24, Try.ntmps24
  go_wp2
  go_ret
  exact ⟨_, rfl, HZ.out, rfl⟩
end Go.Proofs.Ytdhnmcdgiddhdab
