/-
  Arrays of 256 counts.
-/
import Derived.Test.YtdgpbgdpdmikaabBwt
set_option linter.unusedVariables false
set_option linter.unusedSimpArgs false
namespace Go.Proofs.Ytdgpbgdpdmikaab
open Go.RowKit
set_option maxRecDepth 100000
@[go_sem] theorem zero256 (w : World) : (zeroValue 34).run Try.prog w = .ok (.agg (arrN 256 fun _ => 0)) w := zero_arr (by kernel_rfl) w
/-- How often each byte stands. -/
def sm1 (s : List Nat) (k : Nat) : Int := (s.count k : Nat)
theorem sm1_step (s : List Nat) (i : Nat) (h : i < s.length) : (fun j => if j = ch s i then sm1 (s.take i) (ch s i) + 1 else sm1 (s.take i) j) = sm1 (s.take (i + 1)) := by
  funext j
  unfold sm1
  rw [take_succ_ch s i h, List.count_append]
  by_cases e : j = ch s i
  · subst e; simp
  · have : [ch s i].count j = 0 := by rw [List.count_eq_zero]; simpa using e
    rw [if_neg e, this]
    simp
theorem sm_bound (s : List Nat) (n k : Nat) (h : s.length ≤ n) : 0 ≤ sm1 s k ∧ sm1 s k ≤ n := by
  unfold sm1
  have := count_bound k s n h
  omega
end Go.Proofs.Ytdgpbgdpdmikaab
