/-
  The places of a word stand together in the order of suffixes.
-/
import Derived.Test.YtdgpbgdpdmikaaaPureLcp
set_option linter.unusedVariables false
set_option linter.unusedSimpArgs false
namespace Go.Proofs.Ytdgpbgdpdmikaaa
theorem pre_mid : ∀ (m : Nat) (a b c u : List Nat), lexlt a b = true → lexlt b c = true → a.take m = u → c.take m = u → u.length = m → b.take m = u
  | 0, a, b, c, u, _, _, h1, _, _ => by rw [← h1, List.take_zero, List.take_zero]
  | m + 1, [], b, c, u, _, _, h1, _, h3 => by rw [List.take_nil] at h1; rw [← h1] at h3; cases h3
  | m + 1, x :: a, [], c, u, h, _, _, _, _ => by rw [lexlt_nil] at h; cases h
  | m + 1, x :: a, y :: b, [], u, _, h, _, _, _ => by rw [lexlt_nil] at h; cases h
  | m + 1, x :: a, y :: b, z :: c, u, h1, h2, h3, h4, h5 => by
    rw [lexlt_cons] at h1 h2
    rw [List.take_succ_cons] at h3 h4 ⊢
    rw [← h3] at h4 h5
    injection h4 with e1 e2
    subst e1
    rw [List.length_cons] at h5
    have hy : y = z := by
      rcases h1 with h | ⟨h, _⟩
      · rcases h2 with h' | ⟨h', _⟩ <;> omega
      · exact h.symm
    subst hy
    have l1 : lexlt a b = true := by
      rcases h1 with h | ⟨_, h⟩
      · omega
      · exact h
    have l2 : lexlt b c = true := by
      rcases h2 with h | ⟨_, h⟩
      · omega
      · exact h
    rw [← h3, pre_mid m a b c (a.take m) l1 l2 rfl e2 (by omega)]
/-- What the loop over the order knows: the first, the last, how many. -/
def FInv (Q : Nat → Bool) (k : Nat) (f l : Int) (c : Nat) : Prop :=
  (c = 0 ∧ f = -1 ∧ l = -1 ∧ ∀ j, j < k → Q j = false) ∨ ∃ f' l' : Nat, f = (f' : Int) ∧ l = (l' : Int) ∧ f' ≤ l' ∧ l' < k ∧ c = l' - f' + 1 ∧ ∀ j, j < k → (Q j = true ↔ f' ≤ j ∧ j ≤ l')
theorem FInv.skip {Q : Nat → Bool} {k : Nat} {f l : Int} {c : Nat} (h : FInv Q k f l c) (hq : Q k = false) : FInv Q (k + 1) f l c := by
  rcases h with ⟨h1, h2, h3, h4⟩ | ⟨f', l', h1, h2, h3, h4, h5, h6⟩
  · refine .inl ⟨h1, h2, h3, fun j hj => ?_⟩
    rcases Nat.lt_or_ge j k with h | h
    · exact h4 j h
    · rw [show j = k from by omega]; exact hq
  · refine .inr ⟨f', l', h1, h2, h3, by omega, h5, fun j hj => ?_⟩
    rcases Nat.lt_or_ge j k with h | h
    · exact h6 j h
    · rw [show j = k from by omega, hq]
      constructor
      · intro e; cases e
      · intro e; omega
theorem FInv.hit {Q : Nat → Bool} {k : Nat} {f l : Int} {c : Nat} (h : FInv Q k f l c) (hq : Q k = true) (hc : ∀ i j, i < j → j < k → Q i = true → Q j = true) : FInv Q (k + 1) (if f < 0 then (k : Int) else f) (k : Int) (c + 1) := by
  rcases h with ⟨h1, h2, h3, h4⟩ | ⟨f', l', h1, h2, h3, h4, h5, h6⟩
  · rw [if_pos (by omega)]
    refine .inr ⟨k, k, rfl, rfl, Nat.le_refl _, by omega, by omega, fun j hj => ?_⟩
    rcases Nat.lt_or_ge j k with h | h
    · rw [h4 j h]
      constructor
      · intro e; cases e
      · intro e; omega
    · rw [show j = k from by omega, hq]
      exact ⟨fun _ => ⟨Nat.le_refl _, Nat.le_refl _⟩, fun _ => rfl⟩
  · rw [if_neg (by omega)]
    have hl : l' + 1 = k := by
      rcases Nat.lt_or_ge (l' + 1) k with h | h
      · have := hc l' (l' + 1) (by omega) h ((h6 l' h4).2 ⟨h3, Nat.le_refl _⟩)
        have := (h6 (l' + 1) h).1 this
        omega
      · omega
    refine .inr ⟨f', k, h1, rfl, by omega, by omega, by omega, fun j hj => ?_⟩
    rcases Nat.lt_or_ge j k with h | h
    · rw [h6 j h]
      omega
    · rw [show j = k from by omega, hq]
      exact ⟨fun _ => ⟨by omega, Nat.le_refl _⟩, fun _ => rfl⟩
theorem FInv.done {Q : Nat → Bool} {k : Nat} {f l : Int} {c : Nat} (h : FInv Q k f l c) : c = 0 ∨ l - f + 1 = (c : Int) := by
  rcases h with ⟨h1, _⟩ | ⟨f', l', h1, h2, h3, h4, h5, _⟩
  · exact .inl h1
  · right; omega
end Go.Proofs.Ytdgpbgdpdmikaaa
