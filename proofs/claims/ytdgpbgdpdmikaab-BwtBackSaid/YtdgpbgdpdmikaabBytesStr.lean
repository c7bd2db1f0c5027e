/-
  string(b) of bytes that are read.
-/
import Derived.Test.YtdgpbgdpdmikaabByte
set_option linter.unusedVariables false
set_option linter.unusedSimpArgs false
namespace Go.Proofs.Ytdgpbgdpdmikaab
open Go.RowKit
theorem conv_str {w : World} {v : Value} {n : Nat} {bs : List UInt8} (h : Rd w 1 v n (bv bs)) : (convert 22 9 v).run Try.prog w = .ok (.string ⟨bs.toArray⟩) w := by
  obtain ⟨ao, cap, rfl⟩ := h.shape
  have hl := h.len
  rw [bv_length, Nat.mul_one] at hl
  cases ao with
  | none =>
    obtain ⟨rfl, rfl, h0⟩ := h.none_iff
    have hbs : bs = [] := by simpa [bv] using h0
    subst hbs
    exact run_convert_bytes_nil w _ _ Try.underlying22 Try.underlying5 _ _ _ Try.underlying9
  | some ad =>
    subst hl
    refine run_convert_bytes_back w _ _ _ ad cap bs Try.underlying22 Try.underlying5 Try.underlying9 fun j hj => ?_
    obtain ⟨ad', e, hc⟩ := h.at (bv_get bs j _ (List.getElem?_eq_getElem hj))
    simp only [Option.some.injEq] at e
    subst e
    exact hc
end Go.Proofs.Ytdgpbgdpdmikaab
