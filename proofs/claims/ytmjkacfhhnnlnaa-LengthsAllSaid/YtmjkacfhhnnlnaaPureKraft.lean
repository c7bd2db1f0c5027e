/-
  How much of the codes lengths take, plain.
-/
set_option linter.unusedVariables false
set_option linter.unusedSimpArgs false
namespace Go.Proofs.Ytmjkacfhhnnlnaa
/-- How much room lengths take, of 2^15. -/
def kraftP (l : List Int) : Nat := (l.map fun k => if 1 ≤ k ∧ k ≤ 15 then 2 ^ (15 - k.toNat) else 0).sum
theorem kraftP_append (a b : List Int) : kraftP (a ++ b) = kraftP a + kraftP b := by simp [kraftP]
theorem kraftP_take_succ (l : List Int) (i : Nat) (k : Int) (h : l[i]? = some k) : kraftP (l.take (i + 1)) = kraftP (l.take i) + (if 1 ≤ k ∧ k ≤ 15 then 2 ^ (15 - k.toNat) else 0) := by
  rw [List.take_add_one, h, Option.toList_some, kraftP_append]
  simp [kraftP]
theorem kraftP_le (l : List Int) : kraftP l ≤ 16384 * l.length := by
  induction l with
  | nil => simp [kraftP]
  | cons k l ih =>
    have h : (if 1 ≤ k ∧ k ≤ 15 then 2 ^ (15 - k.toNat) else 0) ≤ 16384 := by
      split
      · rename_i hk
        have : 2 ^ (15 - k.toNat) ≤ 2 ^ 14 := Nat.pow_le_pow_right (by omega) (by omega)
        omega
      · omega
    simp only [kraftP, List.map_cons, List.sum_cons, List.length_cons] at ih ⊢
    omega
end Go.Proofs.Ytmjkacfhhnnlnaa
