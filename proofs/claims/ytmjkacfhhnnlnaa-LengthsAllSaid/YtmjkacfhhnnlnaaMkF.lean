/-
  Rows of numbers and of bools by functions.
-/
import Derived.Test.YtmjkacfhhnnlnaaMake
import Derived.Test.YtmjkacfhhnnlnaaIv
import Derived.Test.YtmjkacfhhnnlnaaBl
set_option linter.unusedVariables false
set_option linter.unusedSimpArgs false
namespace Go.Proofs.Ytmjkacfhhnnlnaa
open Go.RowKit
set_option maxRecDepth 100000
/-- Numbers by places. -/
def mkI (f : Nat → Int) (n : Nat) : List Int := (List.range n).map f
theorem mkI_length (f : Nat → Int) (n : Nat) : (mkI f n).length = n := by simp [mkI]
theorem mkI_get (f : Nat → Int) (n i : Nat) (h : i < n) : (mkI f n)[i]? = some (f i) := by simp [mkI, h]
theorem mkI_set (f : Nat → Int) (n i : Nat) (v : Int) : (mkI f n).set i v = mkI (fun j => if j = i then v else f j) n := by
  apply List.ext_getElem?
  intro j
  rw [List.getElem?_set, mkI_length]
  by_cases hj : j < n
  · rw [mkI_get _ _ _ hj, mkI_get _ _ _ hj]
    by_cases e : i = j
    · subst e; simp [hj]
    · have e' : ¬ j = i := fun x => e x.symm
      simp [e, e']
  · rw [List.getElem?_eq_none (by rw [mkI_length]; omega), List.getElem?_eq_none (by rw [mkI_length]; omega)]
    by_cases e : i = j
    · subst e; simp [hj]
    · simp [e]
theorem mkI_congr (f g : Nat → Int) (n : Nat) (h : ∀ i, i < n → f i = g i) : mkI f n = mkI g n := by
  unfold mkI
  apply List.map_congr_left
  intro i hi
  exact h i (by simpa using hi)
theorem mkI_const (v : Int) (n : Nat) : mkI (fun _ => v) n = List.replicate n v := by
  unfold mkI
  rw [List.eq_replicate_iff]
  refine ⟨by simp, ?_⟩
  intro x hx
  obtain ⟨_, _, rfl⟩ := List.mem_map.1 hx
  rfl
theorem iv_set (l : List Int) (i : Nat) (v : Int) : (iv l).set i (.int .i64 v) = iv (l.set i v) := by simp [iv, List.map_set]
theorem iv_replicate (n : Nat) (v : Int) : iv (List.replicate n v) = List.replicate n (.int .i64 v) := by simp [iv]
/-- Bools by places. -/
def mkB (f : Nat → Bool) (n : Nat) : List Bool := (List.range n).map f
theorem mkB_length (f : Nat → Bool) (n : Nat) : (mkB f n).length = n := by simp [mkB]
theorem mkB_get (f : Nat → Bool) (n i : Nat) (h : i < n) : (mkB f n)[i]? = some (f i) := by simp [mkB, h]
theorem mkB_set (f : Nat → Bool) (n i : Nat) (v : Bool) : (mkB f n).set i v = mkB (fun j => if j = i then v else f j) n := by
  apply List.ext_getElem?
  intro j
  rw [List.getElem?_set, mkB_length]
  by_cases hj : j < n
  · rw [mkB_get _ _ _ hj, mkB_get _ _ _ hj]
    by_cases e : i = j
    · subst e; simp [hj]
    · have e' : ¬ j = i := fun x => e x.symm
      simp [e, e']
  · rw [List.getElem?_eq_none (by rw [mkB_length]; omega), List.getElem?_eq_none (by rw [mkB_length]; omega)]
    by_cases e : i = j
    · subst e; simp [hj]
    · simp [e]
theorem mkB_congr (f g : Nat → Bool) (n : Nat) (h : ∀ i, i < n → f i = g i) : mkB f n = mkB g n := by
  unfold mkB
  apply List.map_congr_left
  intro i hi
  exact h i (by simpa using hi)
theorem bl_set (l : List Bool) (i : Nat) (v : Bool) : (bl l).set i (.bool v) = bl (l.set i v) := by simp [bl, List.map_set]

end Go.Proofs.Ytmjkacfhhnnlnaa
