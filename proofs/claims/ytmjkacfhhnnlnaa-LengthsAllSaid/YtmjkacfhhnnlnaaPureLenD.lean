/-
  Lengths of codes, plain: one symbol more; frequencies that are all so many times as great.
-/
import Derived.Test.YtmjkacfhhnnlnaaPureLenC
set_option linter.unusedVariables false
set_option linter.unusedSimpArgs false
namespace Go.Proofs.Ytmjkacfhhnnlnaa
theorem sum_le (l : List Nat) (f g : Nat → Nat) (h : ∀ i ∈ l, f i ≤ g i) : (l.map f).sum ≤ (l.map g).sum := by
  induction l with
  | nil => exact Nat.le_refl _
  | cons x l ih =>
    rw [List.map_cons, List.map_cons, List.sum_cons, List.sum_cons]
    have := h x (List.mem_cons_self ..)
    have := ih fun i hi => h i (List.mem_cons_of_mem _ hi)
    omega
theorem getD_snoc (F : List Nat) (x s : Nat) (h : s < F.length) : (F ++ [x]).getD s 0 = F.getD s 0 := by
  rw [List.getD_eq_getElem?_getD, List.getD_eq_getElem?_getD, List.getElem?_append_left h]
theorem costP_snoc (F : List Nat) (x : Nat) (L : Nat → Nat) : costP F L ≤ costP (F ++ [x]) L := by
  unfold costP
  rw [List.length_append, List.length_singleton, List.range_succ, List.map_append, List.sum_append_nat]
  refine Nat.le_trans (sum_le _ _ _ ?_) (Nat.le_add_right _ _)
  intro s hs
  rw [getD_snoc F x s (by simpa using hs)]
  exact Nat.le_refl _
theorem pos_lt {F : List Nat} {s : Nat} (h : 0 < F.getD s 0) : s < F.length := by
  rcases Nat.lt_or_ge s F.length with q | q
  · exact q
  · rw [List.getD_eq_getElem?_getD, List.getElem?_eq_none q] at h
    simp at h
/-- One symbol more never makes all cheaper. -/
theorem cost_more {F : List Nat} {x : Nat} (hF : F.length + 1 ≤ 300) : costP F (lenP F) ≤ costP (F ++ [x]) (lenP (F ++ [x])) := by
  have hG : (F ++ [x]).length ≤ 300 := by simp; omega
  have hb : ∀ s, 0 < F.getD s 0 → 1 ≤ lenP (F ++ [x]) s ∧ lenP (F ++ [x]) s ≤ 15 := by
    intro s hs
    exact lenP_bounds hG (by rw [getD_snoc F x s (pos_lt hs)]; exact hs)
  refine Nat.le_trans ?_ (costP_snoc F x (lenP (F ++ [x])))
  rcases Nat.lt_or_ge (srt F).length 2 with q | q
  · unfold costP
    apply sum_le
    intro s _
    by_cases h : 0 < F.getD s 0
    · have e : lenP F s = 1 := by unfold lenP; rw [if_pos q, if_pos h]
      rw [e]
      exact Nat.mul_le_mul_left _ (hb s h).1
    · rw [show F.getD s 0 = 0 by omega]
      simp
  · refine lenP_least (by omega) q _ (fun s hs => (hb s hs).2) ?_
    have hk := kraft_lenP hG
    have h1 : ((List.range F.length).map fun s => if 0 < F.getD s 0 then 2 ^ (15 - lenP (F ++ [x]) s) else 0).sum ≤ ((List.range F.length).map fun s => krP (lenP (F ++ [x]) s)).sum := by
      apply sum_le
      intro s _
      by_cases h : 0 < F.getD s 0
      · rw [if_pos h]
        unfold krP
        rw [if_pos (hb s h)]
        exact Nat.le_refl _
      · rw [if_neg h]
        exact Nat.zero_le _
    have h2 : ((List.range F.length).map fun s => krP (lenP (F ++ [x]) s)).sum ≤ ((List.range (F ++ [x]).length).map fun s => krP (lenP (F ++ [x]) s)).sum := by
      rw [List.length_append, List.length_singleton, List.range_succ, List.map_append, List.sum_append_nat]
      exact Nat.le_add_right _ _
    rw [hk] at h2
    have h3 : (if (srt (F ++ [x])).length = 0 then 0 else if (srt (F ++ [x])).length = 1 then 2 ^ 14 else 2 ^ 15) ≤ 2 ^ 15 := by
      split
      · omega
      · split <;> omega
    omega
/-! The same, by numbers -/
def pairsN : List Nat → List Nat
  | x :: y :: l => (x + y) :: pairsN l
  | _ => []
def levelN (l : List Nat) : Nat → List Nat
  | 0 => l
  | k + 1 => mergeK id l (pairsN (levelN l k))
theorem mergeK_key {α : Type} (key : α → Nat) : ∀ a b : List α, (mergeK key a b).map key = mergeK id (a.map key) (b.map key) := by
  apply mergeK_ind
  · intro b; rw [mergeK_nil, List.map_nil, mergeK_nil]
  · intro x a; rw [mergeK_nil2, List.map_nil, mergeK_nil2]
  · intro x a y b h1 h2
    rw [mergeK_cons, List.map_cons, List.map_cons, mergeK_cons]
    by_cases h : key x ≤ key y
    · rw [if_pos h, if_pos (show id (key x) ≤ id (key y) from h), List.map_cons, h1, List.map_cons]
    · rw [if_neg h, if_neg (show ¬ id (key x) ≤ id (key y) from h), List.map_cons, h2, List.map_cons]
theorem pairsN_map : ∀ l : List Coin, (pairsC l).map Coin.worth = pairsN (l.map Coin.worth)
  | [] => rfl
  | [_] => rfl
  | x :: y :: l => by
    simp only [pairsC, List.map_cons, pairsN, pairsN_map l]
    rfl
theorem levelN_map (l : List Coin) : ∀ k, (levelC l k).map Coin.worth = levelN (l.map Coin.worth) k
  | 0 => rfl
  | k + 1 => by rw [levelC, levelN, mergeK_key, pairsN_map, levelN_map l k]
/-- The least cost, out of the frequencies that are not nought, in order. -/
def leastN (l : List Nat) : Nat := if l.length < 2 then l.sum else ((levelN l 14).take (2 * l.length - 2)).sum
theorem leastP_eq (F : List Nat) : leastP F = leastN ((srt F).map Coin.worth) := by
  unfold leastP leastN worths sumC
  rw [List.length_map]
  split
  · rfl
  · rw [List.map_take, levelN_map]
theorem mergeK_scale (k : Nat) (hk : 1 ≤ k) : ∀ a b : List Nat, mergeK id (a.map (· * k)) (b.map (· * k)) = (mergeK id a b).map (· * k) := by
  apply mergeK_ind
  · intro b; rw [mergeK_nil, List.map_nil, mergeK_nil]
  · intro x a; rw [mergeK_nil2, List.map_nil, mergeK_nil2]
  · intro x a y b h1 h2
    rw [List.map_cons, List.map_cons, mergeK_cons, mergeK_cons]
    by_cases h : x ≤ y
    · rw [if_pos (show id x ≤ id y from h), if_pos (show id (x * k) ≤ id (y * k) from Nat.mul_le_mul_right k h), List.map_cons, ← h1, List.map_cons]
    · have h' : ¬ x * k ≤ y * k := fun hh => h (Nat.le_of_mul_le_mul_right hh hk)
      rw [if_neg (show ¬ id x ≤ id y from h), if_neg (show ¬ id (x * k) ≤ id (y * k) from h'), List.map_cons, ← h2, List.map_cons]
theorem pairsN_scale (k : Nat) : ∀ l : List Nat, pairsN (l.map (· * k)) = (pairsN l).map (· * k)
  | [] => rfl
  | [_] => rfl
  | x :: y :: l => by
    have := pairsN_scale k l
    simp only [List.map_cons, pairsN, Nat.add_mul] at this ⊢
    rw [this]
theorem levelN_scale (k : Nat) (hk : 1 ≤ k) (l : List Nat) : ∀ j, levelN (l.map (· * k)) j = (levelN l j).map (· * k)
  | 0 => rfl
  | j + 1 => by rw [levelN, levelN, levelN_scale k hk l j, pairsN_scale, mergeK_scale k hk]
theorem sum_scale (k : Nat) (l : List Nat) : (l.map (· * k)).sum = l.sum * k := by
  induction l with
  | nil => simp
  | cons x l ih => rw [List.map_cons, List.sum_cons, List.sum_cons, ih, Nat.add_mul]
theorem leastN_scale (k : Nat) (hk : 1 ≤ k) (l : List Nat) : leastN (l.map (· * k)) = leastN l * k := by
  unfold leastN
  rw [List.length_map, levelN_scale k hk]
  split
  · exact sum_scale k l
  · rw [← List.map_take, sum_scale]
def SortN (l : List Nat) : Prop := l.Pairwise (· ≤ ·)
theorem sortN_unique {a b : List Nat} (h : a.Perm b) (ha : SortN a) (hb : SortN b) : a = b := by
  refine List.Perm.eq_of_pairwise (le := (· ≤ ·)) ?_ ha hb h
  intro x y _ _ h1 h2
  omega
theorem srt_worths (F : List Nat) : SortN ((srt F).map Coin.worth) ∧ ((srt F).map Coin.worth).Perm (F.filter fun x => decide (0 < x)) := by
  constructor
  · unfold SortN
    rw [List.pairwise_map]
    exact srt_sorted F
  · refine ((srt_perm F).map Coin.worth).trans ?_
    unfold leavesP
    rw [List.map_map]
    have e : F = (List.range F.length).map fun s => F.getD s 0 := by
      apply List.ext_getElem?
      intro i
      by_cases hi : i < F.length
      · rw [List.getElem?_map, List.getElem?_range hi, Option.map_some, List.getD_eq_getElem?_getD, List.getElem?_eq_getElem hi]; rfl
      · rw [List.getElem?_eq_none (by omega), List.getElem?_eq_none (by simpa using hi)]
    have e2 : (F.filter fun x => decide (0 < x)) = (((List.range F.length).map fun s => F.getD s 0).filter fun x => decide (0 < x)) := by rw [← e]
    rw [e2, List.filter_map]
    exact List.Perm.refl _
/-- Frequencies that are all so many times as great cost so many times as much. -/
theorem cost_scale {F : List Nat} (hF : F.length ≤ 300) (k : Nat) (hk : 1 ≤ k) : costP (F.map (· * k)) (lenP (F.map (· * k))) = costP F (lenP F) * k := by
  rw [cost_lenP (by simpa using hF), cost_lenP hF, leastP_eq, leastP_eq, ← leastN_scale k hk]
  congr 1
  obtain ⟨a1, a2⟩ := srt_worths (F.map (· * k))
  obtain ⟨b1, b2⟩ := srt_worths F
  refine sortN_unique (a2.trans ?_) a1 ?_
  · rw [List.filter_map]
    refine List.Perm.map _ ?_
    refine List.Perm.trans ?_ b2.symm
    have : (fun x => decide (0 < x)) ∘ (fun x => x * k) = fun x => decide (0 < x) := by
      funext x
      simp only [Function.comp_apply, decide_eq_decide]
      constructor
      · intro h; exact Nat.pos_of_mul_pos_right h
      · intro h; exact Nat.mul_pos h hk
    rw [this]
  · unfold SortN at *
    rw [List.pairwise_map]
    exact b1.imp fun h => Nat.mul_le_mul_right k h
end Go.Proofs.Ytmjkacfhhnnlnaa
