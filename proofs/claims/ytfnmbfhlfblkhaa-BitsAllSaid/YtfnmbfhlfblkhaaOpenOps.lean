/-
  An argument []Op opened.
-/
import Derived.Test.YtfnmbfhlfblkhaaOpen
set_option linter.unusedVariables false
set_option linter.unusedSimpArgs false
namespace Go.Proofs.Ytfnmbfhlfblkhaa
open Go.ChangeShapes Go.WideShapes Go.ChangeAt Go.RowKit
/-- An Op as cells. -/
def opCells (o : Int × Int) : List Value := [.int .u64 o.1, .int .i64 o.2]
theorem open_foliolaw1_Op {H : Type} {enc : TypeId × Value → H} {W : World} {spare : Nat → Bool} {held : Bool} {v : Value} {d : DataW H} {ps : List MemPlace} {ts : List TypeId} {ds : List (DataW H)} {j : Nat} {base : Nat}
    (hsz : (DataW.weightsEach Try.prog ts ds).all (· ≤ reachBytes) = true) (ht : ts[j]? = some 36) (hd : ds[j]? = some d)
    (hv : Value.okWide Try.prog W .any base 36 v) (h : DataW.Trod enc Try.prog W 0 spare held 36 v d ps) :
    ∃ (n : Nat) (os : List (Int × Int)), (Rd W 2 v n (os.flatMap opCells) ∧ os.length = n ∧ ∀ o ∈ os, (Lit.int .u64 o.1).wf = true ∧ (Lit.int .i64 o.2).wf = true) ∧ n * 16 ≤ 140737488351232 := by
  obtain ⟨n, rows, h1, h2, h3, h4⟩ := open_structs (sz := 2) (B := 16) (fun r => ∃ o : Int × Int, r = opCells o ∧ ((Lit.int .u64 o.1).wf = true ∧ (Lit.int .i64 o.2).wf = true)) hsz ht hd Try.underlying36 (by kernel_rfl) (by omega) (by kernel_rfl) (by
    intro k cs x hx
    obtain ⟨y0, y1, m, _, hl, g0, g1⟩ := trod_struct2 Try.underlying43 hx
    obtain ⟨a, e0, _, w0⟩ := DataW.trod_int Try.underlying41 g0
    obtain ⟨b, e1, _, w1⟩ := DataW.trod_int Try.underlying3 g1
    refine ⟨(a, b), ?_, w0, w1⟩
    have hl2 : cs.length = 2 := hl.trans (by kernel_rfl)
    match cs, hl2 with
    | [c0, c1], _ =>
      have e0' : [c0] = [.int .u64 a] := e0
      have e1' : [c1] = [.int .i64 b] := e1
      simp only [List.cons.injEq, and_true] at e0' e1'
      rw [e0', e1']
      rfl) hv h
  obtain ⟨os, e, hw⟩ := rows_of opCells _ rows fun r hr => (h2 r hr).1
  refine ⟨n, os, ⟨?_, ?_, hw⟩, h4⟩
  · rw [e] at h3
    exact h3
  · rw [e, List.length_map] at h1
    exact h1
end Go.Proofs.Ytfnmbfhlfblkhaa
