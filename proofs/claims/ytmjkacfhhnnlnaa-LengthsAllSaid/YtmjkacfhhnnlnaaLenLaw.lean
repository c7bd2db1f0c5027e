/-
  What the laws of lengths share: good numbers are small, lengths are small, the cost in plain numbers.
-/
import Derived.Test.YtmjkacfhhnnlnaaLenBegun
import Derived.Test.YtmjkacfhhnnlnaaPureLenD
set_option linter.unusedVariables false
set_option linter.unusedSimpArgs false
namespace Go.Proofs.Ytmjkacfhhnnlnaa
open Go.RowKit
set_option maxRecDepth 100000
theorem infoL : (Try.prog.info? 2).map (fun i => (i.zero, i.size, i.bytes)) = some (some (.int .i64 0), 1, 8) := by kernel_rfl
theorem iv_snoc (f : List Int) (x : Int) : iv f ++ [.int .i64 x] = iv (f ++ [x]) := by simp [iv]
theorem good_small {f : List Int} (h : badL f = false) : SmallF f ∧ f.length ≤ 300 ∧ ∀ x ∈ f, 0 ≤ x := by
  have hl : f.length ≤ 300 := by
    unfold badL at h
    rw [Bool.or_eq_false_iff] at h
    simpa using h.1
  refine ⟨⟨by omega, fun x hx => ?_⟩, hl, fun x hx => ?_⟩
  · obtain ⟨i, hi⟩ := List.mem_iff_getElem?.1 hx
    have := ok_bad h hi
    omega
  · obtain ⟨i, hi⟩ := List.mem_iff_getElem?.1 hx
    exact (ok_bad h hi).1
theorem lens_small {f : List Int} (h : f.length ≤ 300) (n : Nat) : SmallL (mkI (fun s => (lenP (fN f) s : Int)) n) := by
  intro y hy
  unfold mkI at hy
  obtain ⟨s, _, rfl⟩ := List.mem_map.1 hy
  by_cases hs : 0 < (fN f).getD s 0
  · have := lenP_bounds (by rw [fN_length]; exact h) hs
    omega
  · have := lenP_zero (F := fN f) (by rw [fN_length]; exact h) (s := s) (by omega)
    omega
theorem costI_lens {f : List Int} (h0 : ∀ x ∈ f, 0 ≤ x) (L : Nat → Nat) : costI f (mkI (fun s => (L s : Int)) f.length) = ((costP (fN f) L : Nat) : Int) := by
  have key : ∀ i, i ≤ f.length → costT f (mkI (fun s => (L s : Int)) f.length) i = ((((List.range i).map fun s => (fN f).getD s 0 * L s).sum : Nat) : Int) := by
    intro i
    induction i with
    | zero => intro _; simp [costT]
    | succ i ih =>
      intro hi
      obtain ⟨x, hx⟩ : ∃ x, f[i]? = some x := ⟨_, List.getElem?_eq_getElem (by omega)⟩
      rw [costT_succ hx (mkI_get _ _ i (by omega)), ih (by omega), List.range_succ, List.map_append, List.sum_append_nat, List.map_cons, List.map_nil, List.sum_singleton, fN_get f i x hx]
      have := h0 x (List.mem_of_getElem? hx)
      obtain ⟨X, rfl⟩ := Int.eq_ofNat_of_zero_le this
      simp
  unfold costI costP
  rw [mkI_length, Nat.min_self, key _ (Nat.le_refl _), fN_length]
theorem bad_snoc {f : List Int} {x : Int} (h : badL f = false) (hl : f.length < 300) (h0 : 0 ≤ x) (h1 : x ≤ 1073741824) : badL (f ++ [x]) = false := by
  unfold badL at *
  rw [Bool.or_eq_false_iff] at *
  refine ⟨by simp; omega, ?_⟩
  rw [List.any_append, h.2]
  simp [badF]
  omega
theorem fN_snoc (f : List Int) (x : Int) : fN (f ++ [x]) = fN f ++ [x.toNat] := by simp [fN]
theorem bad_of {l : List Int} (hl : l.length ≤ 300) (h : ∀ x ∈ l, 0 ≤ x ∧ x ≤ 1073741824) : badL l = false := by
  unfold badL
  rw [Bool.or_eq_false_iff]
  refine ⟨by simp; omega, ?_⟩
  rw [List.any_eq_false]
  intro x hx
  have := h x hx
  simp [badF]
  omega
end Go.Proofs.Ytmjkacfhhnnlnaa
