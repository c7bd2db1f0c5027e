/-
  Arguments that are slices: opened into the words of Base.
-/
import Derived.Test.YtdgpbgdpdmikaabOpen
import Derived.Test.YtdgpbgdpdmikaabByte
import Derived.WalkKit
import Derived.ProofKit
import Derived.OpenShut
import Derived.SizedLaws
import Derived.ChangeSlices
set_option linter.unusedVariables false
set_option linter.unusedSimpArgs false
namespace Go.Proofs.Ytdgpbgdpdmikaab
open Go.ChangeShapes Go.WideShapes Go.ChangeAt Go.RowKit

theorem bytes_of_ints (zs : List Int) (h : ∀ z ∈ zs, (Lit.int .u8 z).wf = true) : ∃ bs : List UInt8, bv bs = zs.map (Value.int .u8) ∧ bs.length = zs.length := by
  induction zs with
  | nil => exact ⟨[], rfl, rfl⟩
  | cons z zs ih =>
    obtain ⟨bs, h1, h2⟩ := ih fun y hy => h y (by simp [hy])
    have hz := bounds_u8 (h z (by simp))
    refine ⟨UInt8.ofNat z.toNat :: bs, ?_, by simp [h2]⟩
    simp only [bv, List.map_cons] at h1 ⊢
    rw [h1]
    congr 2
    simp only [UInt8.toNat_ofNat']
    omega
theorem open_bytes {H : Type} {enc : TypeId × Value → H} {W : World} {spare : Nat → Bool} {held : Bool} {v : Value} {d : DataW H} {ps : List MemPlace} {ts : List TypeId} {ds : List (DataW H)} {j : Nat} {base : Nat}
    (hsz : (DataW.weightsEach Try.prog ts ds).all (· ≤ reachBytes) = true) (ht : ts[j]? = some 22) (hd : ds[j]? = some d)
    (hv : Value.okWide Try.prog W .any base 22 v) (h : DataW.Trod enc Try.prog W 0 spare held 22 v d ps) :
    ∃ bs : List UInt8, Rd W 1 v bs.length (bv bs) ∧ bs.length ≤ 140737488351232 := by
  obtain ⟨n, zs, h1, h2, h3⟩ := open_nums hsz ht hd Try.underlying22 Try.underlying5 (by kernel_rfl) (B := 1) (by kernel_rfl) hv h
  obtain ⟨bs, e1, e2⟩ := bytes_of_ints zs h2
  have hl := h1.len
  simp at hl
  rw [← e1] at h1
  have : bs.length = n := by omega
  subst this
  exact ⟨bs, h1, by omega⟩
end Go.Proofs.Ytdgpbgdpdmikaab
