/-
  Guarded operations of a region that draws: wanted, passed over.
-/
import Derived.Test.YtdhnmcdgiddhdabCore
set_option linter.unusedVariables false
set_option linter.unusedSimpArgs false
namespace Go.Proofs.Ytdhnmcdgiddhdab
open Go.RowKit
section
variable {P : Program} {ops : Array Oper} {w : World}
theorem wpStill_wantg {Q : Act → Prop} {a : Act} {o : Oper} {rest : List Oper} (j : Nat) (b : Bool) (hg : o.guard = some (j, b)) (hw : Region.wanted o (yielded ops a.tmps) = true) (hp : plainOp o.op = true)
    (h : ∀ K : Act → World → Prop, (∀ a', wpStill P ops w Q rest a' → K a' w) → o.wp P a w K (fun _ _ _ => False)) : wpStill P ops w Q (o :: rest) a :=
  wpStill_want hw hp h
/-- An operation that is passed over: the walk lays the empty value by a move. -/
theorem wpStill_skipg {Q : Act → Prop} {a : Act} {op : Op} {d : Option Tmp} {ty : TypeId} {pos : String} {aft : Array Edge} {g : Option (Nat × Bool)} {rest : List Oper} (j : Nat) (b : Bool) (hg : g = some (j, b))
    (hw : Region.wanted (Oper.mk d op ty pos aft g) (yielded ops a.tmps) = false)
    (h : ∀ K : Act → World → Prop, (∀ a', wpStill P ops w Q rest a' → K a' w) → (Oper.mk d (.move (.const undef)) ty pos #[] none).wp P a w K (fun _ _ _ => False)) : wpStill P ops w Q (Oper.mk d op ty pos aft g :: rest) a := by
  refine wpStill_skip hw ?_
  have h1 := h (fun a' w' => w' = w ∧ wpStill P ops w Q rest a') (fun a' h => ⟨rfl, h⟩)
  have h2 : (execOp a.eval (Oper.mk d (.move (.const undef)) ty pos #[] none)).run P w = .ok (.value undef) w := rfl
  unfold Oper.wp at h1
  rw [h2] at h1
  exact h1.2
end
end Go.Proofs.Ytdhnmcdgiddhdab
