/-
  The median and the mean, in plain Lean.
-/
import Derived.Test.YtdhnmcdgiddhdabScoreG
set_option linter.unusedVariables false
set_option linter.unusedSimpArgs false
namespace Go.Proofs.Ytdhnmcdgiddhdab
open Go.RowKit
/-- Where one goes in: ahead of those at the end that it stands ahead of. -/
def posG (l : List Nat) (x : Nat) : Nat → Nat
  | 0 => 0
  | k + 1 => if lessP x (l.getD k 0) then posG l x k else k + 1
theorem posG_le (l : List Nat) (x : Nat) : ∀ k, posG l x k ≤ k
  | 0 => Nat.le_refl _
  | k + 1 => by
    unfold posG
    have := posG_le l x k
    split <;> omega
theorem posG_yes {l : List Nat} {x k y : Nat} (hy : l[k]? = some y) (h : lessP x y = true) : posG l x (k + 1) = posG l x k := by
  have e : l.getD k 0 = y := by rw [List.getD_eq_getElem?_getD, hy]; rfl
  show (if lessP x (l.getD k 0) then posG l x k else k + 1) = _
  rw [e, h, if_pos rfl]
theorem posG_no {l : List Nat} {x k y : Nat} (hy : l[k]? = some y) (h : lessP x y = false) : posG l x (k + 1) = k + 1 := by
  have e : l.getD k 0 = y := by rw [List.getD_eq_getElem?_getD, hy]; rfl
  show (if lessP x (l.getD k 0) then posG l x k else k + 1) = _
  rw [e, h]
  rfl
def insF (l : List Nat) (x : Nat) : List Nat := l.take (posG l x l.length) ++ x :: l.drop (posG l x l.length)
theorem insF_length (l : List Nat) (x : Nat) : (insF l x).length = l.length + 1 := by
  have := posG_le l x l.length
  simp [insF]
  omega
theorem insF_mem {l : List Nat} {x y : Nat} (h : y ∈ insF l x) : y = x ∨ y ∈ l := by
  unfold insF at h
  rcases List.mem_append.1 h with h | h
  · exact .inr (List.mem_of_mem_take h)
  · rcases List.mem_cons.1 h with h | h
    · exact .inl h
    · exact .inr (List.mem_of_mem_drop h)
def medS (l : List Nat) : List Nat := l.foldl (fun s x => if nanB x then s else insF s x) []
theorem medS_succ {l : List Nat} {i x : Nat} (hx : l[i]? = some x) : medS (l.take (i + 1)) = if nanB x then medS (l.take i) else insF (medS (l.take i)) x := by
  unfold medS
  rw [List.take_add_one, hx, List.foldl_append]
  rfl
theorem medS_mem : ∀ (i : Nat) {l : List Nat} {y : Nat}, y ∈ medS (l.take i) → y ∈ l ∧ nanB y = false
  | 0, l, y, h => by simp [medS] at h
  | i + 1, l, y, h => by
    cases hx : l[i]? with
    | none =>
      rw [List.take_add_one, hx] at h
      simp only [Option.toList_none, List.append_nil] at h
      exact medS_mem i h
    | some x =>
      rw [medS_succ hx] at h
      cases hn : nanB x with
      | true => rw [hn] at h; exact medS_mem i h
      | false =>
        rw [hn] at h
        rcases insF_mem h with rfl | h
        · exact ⟨List.mem_of_getElem? hx, hn⟩
        · exact medS_mem i h
theorem medS_length : ∀ (i : Nat) (l : List Nat), (medS (l.take i)).length ≤ i
  | 0, l => by simp [medS]
  | i + 1, l => by
    have := medS_length i l
    cases hx : l[i]? with
    | none =>
      rw [List.take_add_one, hx]
      simp only [Option.toList_none, List.append_nil]
      omega
    | some x =>
      rw [medS_succ hx]
      split
      · omega
      · rw [insF_length]; omega
def medV (s : List Nat) : Option Nat := if s.length = 0 then none else if s.length % 2 = 1 then s[s.length / 2]? else fop .quo (fop .add s[s.length / 2 - 1]? s[s.length / 2]?) (some 4611686018427387904)
def meanS (l : List Nat) : Option Nat := l.foldl (fun o x => fop .add o (some x)) (some 0)
theorem meanS_succ {l : List Nat} {i x : Nat} (hx : l[i]? = some x) : meanS (l.take (i + 1)) = fop .add (meanS (l.take i)) (some x) := by
  unfold meanS
  rw [List.take_add_one, hx, List.foldl_append]
  rfl
def meanV (l : List Nat) : Option Nat := fop .quo (meanS l) (some (floatOfInt .f64 (l.length : Int)))
theorem meanV_nil : meanV [] = none := by decide +kernel
end Go.Proofs.Ytdhnmcdgiddhdab
