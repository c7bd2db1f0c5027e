/-
  Rows of bools.
-/
import Derived.Test.YtmjkacfhhnnlnaaCore
set_option linter.unusedVariables false
set_option linter.unusedSimpArgs false
namespace Go.Proofs.Ytmjkacfhhnnlnaa
open Go.RowKit
theorem infoBool : (Try.prog.info? 4).map (fun i => (i.zero, i.size, i.bytes)) = some (some (.bool false), 1, 1) := by kernel_rfl
/-- Bools as cells. -/
def bl (l : List Bool) : List Value := l.map Value.bool
theorem bl_length (l : List Bool) : (bl l).length = l.length := by simp [bl]
theorem bl_append (a b : List Bool) : bl (a ++ b) = bl a ++ bl b := by simp [bl]
theorem bl_get (l : List Bool) (i : Nat) (x : Bool) (h : l[i]? = some x) : (bl l)[i]? = some (.bool x) := by simp [bl, h]
end Go.Proofs.Ytmjkacfhhnnlnaa
