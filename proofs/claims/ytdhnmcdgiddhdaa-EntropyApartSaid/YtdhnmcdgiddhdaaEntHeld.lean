/-
  A held region's condition may be made stronger on the way.
-/
import Derived.Test.YtdhnmcdgiddhdaaEg11
import Derived.Deep.RegionHeld
set_option linter.unusedVariables false
set_option linter.unusedSimpArgs false
namespace Go.Proofs.Ytdhnmcdgiddhdaa
open Go.RowKit
theorem wpAnyH_more {P : Program} {md : Region.Mode} {ops : Array Oper} {Q : Exit → Act → World → Prop} {S S' : World → Prop} (h : ∀ w, S' w → S w) :
    ∀ (fuel : Nat) (listed : Array Bool) (a : Act) (w : World), wpAnyH P md ops Q S' fuel listed a w → wpAnyH P md ops Q S fuel listed a w
  | 0, _, _, _, H => H
  | fuel + 1, _, _, _, H => ⟨H.1, fun i hi => wpOp_mono (fun a' w' k => ⟨h w' k.1, wpAnyH_more h fuel _ a' w' k.2⟩) (H.2 i hi)⟩
/-- Codes are alike just as texts are. -/
theorem code_same {a b oa ob : List UInt8} (ha : EncR a oa) (hb : EncR b ob) (h1 : a.length ≤ 1000000) (h2 : b.length ≤ 1000000) : (oa == ob) = (a == b) := by
  by_cases e : a = b
  · subst e
    rw [ha.one hb]
    simp
  · have e2 : oa ≠ ob := fun q => e (EncR.text ha (q ▸ hb) h1 h2)
    rw [beq_eq_false_iff_ne.2 e2, beq_eq_false_iff_ne.2 e]
end Go.Proofs.Ytdhnmcdgiddhdaa
