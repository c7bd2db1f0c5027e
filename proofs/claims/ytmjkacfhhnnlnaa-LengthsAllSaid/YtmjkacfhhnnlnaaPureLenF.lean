/-
  The reference's least cost in numbers: put into rising numbers, and the rounds of pairs.
-/
import Derived.Test.YtmjkacfhhnnlnaaPureLenD
set_option linter.unusedVariables false
set_option linter.unusedSimpArgs false
namespace Go.Proofs.Ytmjkacfhhnnlnaa
theorem ins_sorted {L : List Nat} (hs : SortN L) {k x : Nat} (hk : k ≤ L.length) (h1 : ∀ z ∈ L.drop k, x < z) (h2 : ∀ z, k ≠ 0 → L[k - 1]? = some z → z ≤ x) :
    SortN (L.take k ++ x :: L.drop k) ∧ (L.take k ++ x :: L.drop k).Perm (x :: L) := by
  have h3 : ∀ a ∈ L.take k, a ≤ x := by
    intro a ha
    obtain ⟨i, hi⟩ := List.mem_iff_getElem?.1 ha
    rw [List.getElem?_take] at hi
    split at hi
    · rename_i hik
      have hk1 : k - 1 < L.length := by omega
      have h4 := h2 L[k - 1] (by omega) (List.getElem?_eq_getElem hk1)
      obtain ⟨hil, rfl⟩ := List.getElem?_eq_some_iff.1 hi
      by_cases e : i = k - 1
      · subst e; exact h4
      · have := List.pairwise_iff_getElem.1 hs i (k - 1) hil hk1 (by omega)
        omega
    · cases hi
  refine ⟨?_, ?_⟩
  · unfold SortN at *
    rw [List.pairwise_append]
    refine ⟨hs.sublist (List.take_sublist _ _), ?_, ?_⟩
    · rw [List.pairwise_cons]
      exact ⟨fun z hz => Nat.le_of_lt (h1 z hz), hs.sublist (List.drop_sublist _ _)⟩
    · intro a ha b hb
      have h4 := h3 a ha
      rw [List.mem_cons] at hb
      rcases hb with rfl | hb
      · exact h4
      · have := h1 b hb; omega
  · refine List.perm_middle.trans ?_
    rw [List.take_append_drop]
/-- The numbers of a level. -/
def nums (l : List Coin) (k : Nat) : List Nat := (levelC l k).map Coin.worth
/-- The pairs that a round begins with. -/
def prevP (l : List Coin) : Nat → List Nat
  | 0 => []
  | k + 1 => pairsN (nums l k)
theorem nums_sorted {l : List Coin} (h : SortK Coin.worth l) (k : Nat) : SortN (nums l k) := by
  unfold SortN nums
  rw [List.pairwise_map]
  exact levelC_sorted h k
theorem all_unique {l : List Coin} (h : SortK Coin.worth l) {k : Nat} {a : List Nat} (ha : SortN a) (hp : a.Perm (nums l 0 ++ prevP l k)) : a = nums l k := by
  refine sortN_unique (hp.trans ?_) ha (nums_sorted h k)
  cases k with
  | zero => rw [prevP, List.append_nil]
  | succ k =>
    have : nums l (k + 1) = mergeK id (nums l 0) (pairsN (nums l k)) := by
      unfold nums
      simp only [levelN_map]
      rfl
    rw [this, prevP]
    exact (mergeK_perm _ _ _).symm
/-- A row of pairs, one pair after the other. -/
theorem pairsN_succ : ∀ (a : List Nat) (i : Nat) (x y : Nat), a[2 * i]? = some x → a[2 * i + 1]? = some y → (pairsN a).take (i + 1) = (pairsN a).take i ++ [x + y]
  | [], i, x, y, h1, _ => by simp at h1
  | [_], i, x, y, _, h2 => by simp at h2
  | u :: v :: a, 0, x, y, h1, h2 => by
    simp at h1 h2
    subst h1 h2
    simp [pairsN]
  | u :: v :: a, i + 1, x, y, h1, h2 => by
    have e1 : 2 * (i + 1) = 2 * i + 1 + 1 := by omega
    rw [e1] at h1 h2
    rw [List.getElem?_cons_succ, List.getElem?_cons_succ] at h1
    rw [List.getElem?_cons_succ, List.getElem?_cons_succ] at h2
    rw [pairsN, List.take_succ_cons, List.take_succ_cons, pairsN_succ a i x y h1 h2]
    rfl
theorem pairsN_length : ∀ a : List Nat, (pairsN a).length = a.length / 2
  | [] => rfl
  | [_] => by simp [pairsN]
  | _ :: _ :: a => by simp only [pairsN, List.length_cons, pairsN_length a]; omega
end Go.Proofs.Ytmjkacfhhnnlnaa
