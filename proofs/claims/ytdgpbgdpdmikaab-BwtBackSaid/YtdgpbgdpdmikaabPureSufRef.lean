/-
  The reference's order of suffixes: one put behind the other, each at its place.
-/
import Derived.Test.YtdgpbgdpdmikaabPureLcp
set_option linter.unusedVariables false
set_option linter.unusedSimpArgs false
namespace Go.Proofs.Ytdgpbgdpdmikaab
/-- The suffixes from a place on, in order. -/
structure SufL (s : List Nat) (i : Nat) (l : List Nat) : Prop where
  perm : l.Perm (List.range' i (s.length - i))
  sorted : l.Pairwise fun u v => lexlt (s.drop u) (s.drop v) = true
theorem SufL.nil (s : List Nat) : SufL s s.length [] := ⟨by simp, List.Pairwise.nil⟩
theorem SufL.isSA {s l : List Nat} (h : SufL s 0 l) : IsSA s l := ⟨by have := h.perm; rwa [Nat.sub_zero, ← List.range_eq_range'] at this, h.sorted⟩
theorem SufL.len {s l : List Nat} {i : Nat} (h : SufL s i l) : l.length = s.length - i := by have := h.perm.length_eq; simpa using this
theorem SufL.mem {s l : List Nat} {i k a : Nat} (h : SufL s i l) (ha : l[k]? = some a) : i ≤ a ∧ a < s.length := by
  have := h.perm.subset (List.mem_of_getElem? ha)
  rw [List.mem_range'_1] at this
  omega
/-- Ahead of lo all suffixes stand ahead of the new one, from hi on none does. -/
def SufB (s : List Nat) (i : Nat) (l : List Nat) (lo hi : Nat) : Prop :=
  (∀ k a, k < lo → l[k]? = some a → lexlt (s.drop a) (s.drop i) = true) ∧ ∀ k a, hi ≤ k → l[k]? = some a → lexlt (s.drop a) (s.drop i) = false
theorem SufB.init (s : List Nat) (i : Nat) (l : List Nat) : SufB s i l 0 l.length :=
  ⟨fun k a h => by omega, fun k a h e => by have := (List.getElem?_eq_some_iff.1 e).1; omega⟩
theorem SufL.lt {s l : List Nat} {i : Nat} (h : SufL s i l) {j k a b : Nat} (ha : l[j]? = some a) (hb : l[k]? = some b) (hjk : j < k) : lexlt (s.drop a) (s.drop b) = true := by
  obtain ⟨h1, e1⟩ := List.getElem?_eq_some_iff.1 ha
  obtain ⟨h2, e2⟩ := List.getElem?_eq_some_iff.1 hb
  have := List.pairwise_iff_getElem.1 h.sorted j k h1 h2 hjk
  rwa [e1, e2] at this
theorem SufB.up {s l : List Nat} {i i' lo hi m a : Nat} (hl : SufL s i' l) (h : SufB s i l lo hi) (hm : l[m]? = some a) (hq : lexlt (s.drop a) (s.drop i) = true) : SufB s i l (m + 1) hi := by
  refine ⟨fun k b hk hb => ?_, h.2⟩
  by_cases e : k = m
  · subst e
    rw [hm] at hb
    cases hb
    exact hq
  · exact lexlt_trans _ _ _ (hl.lt hb hm (by omega)) hq
theorem SufB.down {s l : List Nat} {i i' lo hi m a : Nat} (hl : SufL s i' l) (h : SufB s i l lo hi) (hm : l[m]? = some a) (hq : lexlt (s.drop a) (s.drop i) = false) : SufB s i l lo m := by
  refine ⟨h.1, fun k b hk hb => ?_⟩
  by_cases e : k = m
  · subst e
    rw [hm] at hb
    cases hb
    exact hq
  · cases c : lexlt (s.drop b) (s.drop i) with
    | false => rfl
    | true => rw [lexlt_trans _ _ _ (hl.lt hm hb (by omega)) c] at hq; cases hq
theorem SufL.insert {s l : List Nat} {i lo : Nat} (h : SufL s (i + 1) l) (hi : i < s.length) (hlo : lo ≤ l.length) (hb : SufB s i l lo lo) : SufL s i (l.take lo ++ [i] ++ l.drop lo) := by
  constructor
  · have e : List.range' i (s.length - i) = i :: List.range' (i + 1) (s.length - (i + 1)) := by
      rw [show s.length - i = (s.length - (i + 1)) + 1 from by omega, List.range'_succ]
    rw [e, List.append_assoc]
    refine (List.perm_middle (l₁ := l.take lo) (a := i) (l₂ := l.drop lo)).trans ?_
    rw [List.take_append_drop]
    exact h.perm.cons i
  · have h1 : ∀ a ∈ l.take lo, lexlt (s.drop a) (s.drop i) = true := by
      intro a ha
      obtain ⟨k, hk⟩ := List.mem_iff_getElem?.1 ha
      rw [List.getElem?_take] at hk
      split at hk
      · exact hb.1 k a (by omega) hk
      · cases hk
    have h2 : ∀ a ∈ l.drop lo, lexlt (s.drop i) (s.drop a) = true := by
      intro a ha
      obtain ⟨k, hk⟩ := List.mem_iff_getElem?.1 ha
      rw [List.getElem?_drop] at hk
      have hq := hb.2 (lo + k) a (by omega) hk
      have hm := h.mem hk
      rcases lexlt_total (s.drop a) (s.drop i) with e | e | e
      · rw [e] at hq; cases hq
      · have := congrArg List.length e
        simp at this
        omega
      · exact e
    have hs := h.sorted
    rw [← List.take_append_drop lo l, List.pairwise_append] at hs
    rw [List.append_assoc, List.pairwise_append]
    refine ⟨hs.1, ?_, ?_⟩
    · rw [List.singleton_append, List.pairwise_cons]
      exact ⟨h2, hs.2.1⟩
    · intro a ha b hb'
      rw [List.singleton_append, List.mem_cons] at hb'
      rcases hb' with rfl | hb'
      · exact h1 a ha
      · exact hs.2.2 a ha b hb'
/-- How the comparing goes on. -/
theorem lex_step (s : List Nat) (i j : Nat) (hi : i < s.length) (hj : j < s.length) : lexlt (s.drop i) (s.drop j) = if ch s i = ch s j then lexlt (s.drop (i + 1)) (s.drop (j + 1)) else decide (ch s i < ch s j) := by
  rw [drop_ch s i hi, drop_ch s j hj]
  by_cases e : ch s i = ch s j
  · rw [if_pos e, e]
    simp [lexlt]
  · rw [if_neg e]
    simp [lexlt, e]
theorem lex_end (s : List Nat) (i j : Nat) (h : ¬ (i < s.length ∧ j < s.length)) : lexlt (s.drop i) (s.drop j) = (decide (s.length ≤ i) && decide (j < s.length)) := by
  by_cases hj : j < s.length
  · have hi : s.length ≤ i := by omega
    rw [List.drop_of_length_le hi, drop_ch s j hj]
    simp [lexlt, hi, hj]
  · rw [List.drop_of_length_le (by omega : s.length ≤ j), lexlt_nil]
    simp [hj]
end Go.Proofs.Ytdgpbgdpdmikaab
