/-
  A held region's condition made stronger on the way; a make as a step of a held region.
-/
import Derived.Test.YthgbkncanoknkaaSg12
import Derived.Deep.RegionHeld
set_option linter.unusedVariables false
set_option linter.unusedSimpArgs false
namespace Go.Proofs.Ythgbkncanoknkaa
open Go.RowKit
theorem wpAnyH_moreB {P : Program} {md : Region.Mode} {ops : Array Oper} {Q : Exit → Act → World → Prop} {S S' : World → Prop} (h : ∀ w, S' w → S w) :
    ∀ (fuel : Nat) (listed : Array Bool) (a : Act) (w : World), wpAnyH P md ops Q S' fuel listed a w → wpAnyH P md ops Q S fuel listed a w
  | 0, _, _, _, H => H
  | fuel + 1, _, _, _, H => ⟨H.1, fun i hi => wpOp_mono (fun a' w' k => ⟨h w' k.1, wpAnyH_moreB h fuel _ a' w' k.2⟩) (H.2 i hi)⟩
section
variable {P : Program} {ops : Array Oper} {o : Oper} {a : Act} {B : Nat} {w0 w : World} {L : List HL} {Q : Exit → Act → World → Prop}
theorem step_mk {E : Prop} {K : Act → World → Prop} {T : TypeId} {n by_ : Nat} (t : TypeId) (i : TypeInfo) (z : Value) (l cc : Operand) (hgd : o.guard = none) (ho : o.op = Op.makeSlice t l cc) (kl kc : IntKind)
    (hl : a.eval l = .int kl (n : Int)) (hc : a.eval cc = .int kc (n : Int)) (h1 : P.underlying t = some (.slice T)) (h2 : P.info? T = some i) (h3 : i.zero = some z) (h4 : i.size = 1) (h5 : i.bytes = by_) (hzs : z.cells = #[z])
    (b2 : by_ * n ≤ 281474976710656) (b3 : n ≤ maxLen) (hS : St B w0 w L)
    (hK : ∀ v c' w', RowC T 1 v n (List.replicate n z) c' → St B w0 w' (c' :: L) → K (a.put o.dst v) w') : if Region.wanted o (yielded ops a.tmps) = true then Oper.wp P o a w K Q else E := by
  rw [if_pos (by simp [Region.wanted, hgd])]
  obtain ⟨w', hrun, r1, r2⟩ := run_make_full (P := P) w w.heap.size t T i z 1 h1 h2 h3 h4 kl kc n (by rw [h5]; exact b2) b3 (Nat.le_refl _)
  obtain ⟨c', q1, q2, q3⟩ := RowC.of_owns r1
  have e : (madeCells z.cells (n * 1)).toList = List.replicate n z := by rw [hzs, Nat.mul_one]; exact toList_madeCells_one z n
  rw [e] at q1
  unfold Oper.wp
  simp [execOp, ho, hl, hc, hrun, Result.andThen]
  refine hK _ c' w' q1 ?_
  refine hS.join (L' := [c']) ⟨⟨r2.os, r2.tape, r2.output, r2.size, fun k hk => r2.block k hk (by simp)⟩, r2.size, ?_, ?_, by simpa using q1.nd⟩
  · intro cc hcc x hx
    simp only [List.mem_singleton] at hcc
    subst hcc
    exact ⟨q2 x hx, (q3 x hx).2⟩
  · intro i j ci cj hi hj _ _ _ _ _
    have h1 := (List.getElem?_eq_some_iff.1 hi).1
    have h2 := (List.getElem?_eq_some_iff.1 hj).1
    simp at h1 h2
    omega
end
end Go.Proofs.Ythgbkncanoknkaa
