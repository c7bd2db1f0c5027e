/-
  Arguments that are slices: opened into the words of Base.
-/
import Derived.Test.YtfnmbfhlfblkhaaBits
import Derived.WalkKit
import Derived.ProofKit
import Derived.OpenShut
import Derived.SizedLaws
import Derived.ChangeSlices
set_option linter.unusedVariables false
set_option linter.unusedSimpArgs false
namespace Go.Proofs.Ytfnmbfhlfblkhaa
open Go.ChangeShapes Go.WideShapes Go.ChangeAt Go.RowKit

theorem open_nums {H : Type} {enc : TypeId × Value → H} {W : World} {spare : Nat → Bool} {held : Bool} {t e : TypeId} {k : IntKind} {v : Value} {d : DataW H} {ps : List MemPlace} {ts : List TypeId} {ds : List (DataW H)} {j : Nat} {base : Nat}
    (hsz : (DataW.weightsEach Try.prog ts ds).all (· ≤ reachBytes) = true) (ht : ts[j]? = some t) (hd : ds[j]? = some d) (hu : Try.prog.underlying t = some (.slice e)) (he : Try.prog.underlying e = some (.int k)) (hc : Try.prog.cellsOf e = 1) {B : Nat} (hB : Try.prog.bytesOf e = B)
    (hv : Value.okWide Try.prog W .any base t v) (h : DataW.Trod enc Try.prog W 0 spare held t v d ps) :
    ∃ (n : Nat) (zs : List Int), Rd W 1 v n (zs.map (Value.int k)) ∧ (∀ z ∈ zs, (Lit.int k z).wf = true) ∧ n * B ≤ 140737488351232 := by
  obtain ⟨a, len, cap, rfl⟩ := okWide_slice hu hv
  obtain ⟨fuel, hf⟩ := h
  rcases open_ints hu he hc hf with ⟨hcs, hx⟩ | ⟨x, l, c, zs, hcs, _, hl, hm, hz, hx, hcell, hwz⟩
  · simp [Value.cells] at hcs
    obtain ⟨rfl, rfl, rfl⟩ := hcs
    exact ⟨0, [], Rd.nil W 1, by simp, by simp⟩
  · simp [Value.cells] at hcs
    obtain ⟨rfl, rfl, rfl⟩ := hcs
    obtain ⟨hx, _⟩ := Prod.mk.inj hx
    subst hx
    have hl2 : len ≤ zs.length := by
      rw [hz]
      split
      · exact hl
      · exact Nat.le_refl _
    have z := sized_slice hsz ht hd hu
    rw [hB] at z
    have h1 : (lits (H := H) k (zs.take len)).length + (lits (H := H) k (zs.drop len)).length = zs.length := by
      simp [lits]
      omega
    rw [h1] at z
    refine ⟨len, zs.take len, ⟨_, cap, rfl, ⟨hl, hm⟩, by simp; omega, by simp, fun ad e i u hu => ?_⟩, fun y hy => hwz y (List.mem_of_mem_take hy), Nat.le_trans (Nat.mul_le_mul_right _ hl2) z⟩
    simp only [Option.some.injEq] at e
    subst e
    rw [List.map_take, List.getElem?_take] at hu
    split at hu
    · rename_i hi
      rw [List.getElem?_map] at hu
      have hi2 : i < zs.length := by omega
      rw [List.getElem?_eq_getElem hi2] at hu
      simp only [Option.map_some, Option.some.injEq] at hu
      have := hcell i hi2
      rw [this, ← hu]
      simp [List.getElem?_eq_getElem hi2]
    · simp at hu
theorem bytes_of_ints (zs : List Int) (h : ∀ z ∈ zs, (Lit.int .u8 z).wf = true) : ∃ bs : List UInt8, bv bs = zs.map (Value.int .u8) ∧ bs.length = zs.length := by
  induction zs with
  | nil => exact ⟨[], rfl, rfl⟩
  | cons z zs ih =>
    obtain ⟨bs, h1, h2⟩ := ih fun y hy => h y (by simp [hy])
    have hz := bounds_u8 (h z (by simp))
    refine ⟨UInt8.ofNat z.toNat :: bs, ?_, by simp [h2]⟩
    simp only [bv, List.map_cons] at h1 ⊢
    rw [h1]
    congr 2
    simp only [UInt8.toNat_ofNat']
    omega
theorem open_bytes {H : Type} {enc : TypeId × Value → H} {W : World} {spare : Nat → Bool} {held : Bool} {v : Value} {d : DataW H} {ps : List MemPlace} {ts : List TypeId} {ds : List (DataW H)} {j : Nat} {base : Nat}
    (hsz : (DataW.weightsEach Try.prog ts ds).all (· ≤ reachBytes) = true) (ht : ts[j]? = some 24) (hd : ds[j]? = some d)
    (hv : Value.okWide Try.prog W .any base 24 v) (h : DataW.Trod enc Try.prog W 0 spare held 24 v d ps) :
    ∃ bs : List UInt8, Rd W 1 v bs.length (bv bs) ∧ bs.length ≤ 140737488351232 := by
  obtain ⟨n, zs, h1, h2, h3⟩ := open_nums hsz ht hd Try.underlying24 Try.underlying5 (by kernel_rfl) (B := 1) (by kernel_rfl) hv h
  obtain ⟨bs, e1, e2⟩ := bytes_of_ints zs h2
  have hl := h1.len
  simp at hl
  rw [← e1] at h1
  have : bs.length = n := by omega
  subst this
  exact ⟨bs, h1, by omega⟩
end Go.Proofs.Ytfnmbfhlfblkhaa
