/-
  Choose: an order of those that gain something, in plain Lean.
-/
import Derived.Lib.Hide
set_option linter.unusedVariables false
set_option linter.unusedSimpArgs false
namespace Go.Proofs.Ytdhnmcdgiddhdab
/-- i stands ahead of j: it gains more; its number is less; it was told first. -/
def befC (r : Nat → Nat) (num : Nat → Int) (i j : Nat) : Prop := r j < r i ∨ (r i = r j ∧ (num i < num j ∨ (num i = num j ∧ i < j)))
theorem befC_trans (r : Nat → Nat) (num : Nat → Int) : ∀ x y z, befC r num x y → befC r num y z → befC r num x z := by
  intro x y z h1 h2
  unfold befC at *
  omega
theorem befC_unique {r : Nat → Nat} {num : Nat → Int} {a b : List Nat} (h : a.Perm b) (ha : a.Pairwise (befC r num)) (hb : b.Pairwise (befC r num)) : a = b := by
  refine List.Perm.eq_of_pairwise (le := befC r num) ?_ ha hb h
  intro x y _ _ h1 h2
  unfold befC at h1 h2
  omega
/-- The places below n of those that gain something, in order. -/
def SpecC (ok : Nat → Bool) (r : Nat → Nat) (num : Nat → Int) (n : Nat) (js : List Nat) : Prop := js.Perm ((List.range n).filter ok) ∧ js.Pairwise (befC r num)
theorem SpecC.unique {ok : Nat → Bool} {r : Nat → Nat} {num : Nat → Int} {n : Nat} {a b : List Nat} (ha : SpecC ok r num n a) (hb : SpecC ok r num n b) : a = b := befC_unique (ha.1.trans hb.1.symm) ha.2 hb.2
theorem SpecC.nil (ok : Nat → Bool) (r : Nat → Nat) (num : Nat → Int) : SpecC ok r num 0 [] := ⟨by simp, List.Pairwise.nil⟩
theorem SpecC.mem {ok : Nat → Bool} {r : Nat → Nat} {num : Nat → Int} {n : Nat} {js : List Nat} (h : SpecC ok r num n js) {j : Nat} (hj : j ∈ js) : j < n ∧ ok j = true := by
  have := h.1.mem_iff.1 hj
  rw [List.mem_filter, List.mem_range] at this
  exact this
theorem SpecC.length {ok : Nat → Bool} {r : Nat → Nat} {num : Nat → Int} {n : Nat} {js : List Nat} (h : SpecC ok r num n js) : js.length ≤ n := by
  rw [h.1.length_eq]
  refine Nat.le_trans (List.length_filter_le _ _) ?_
  simp
theorem SpecC.skip {ok : Nat → Bool} {r : Nat → Nat} {num : Nat → Int} {n : Nat} {js : List Nat} (h : SpecC ok r num n js) (hn : ok n = false) : SpecC ok r num (n + 1) js := by
  refine ⟨?_, h.2⟩
  rw [List.range_succ, List.filter_append]
  simpa [hn] using h.1
/-- Behind which one a new one does not stand. -/
def aftC (r : Nat → Nat) (num : Nat → Int) (i y : Nat) : Prop := r y < r i ∨ (r y = r i ∧ num i < num y)
theorem SpecC.insert {ok : Nat → Bool} {r : Nat → Nat} {num : Nat → Int} {n : Nat} {js : List Nat} (h : SpecC ok r num n js) (hn : ok n = true) {k : Nat} (hk : k ≤ js.length)
    (h1 : ∀ y, y ∈ js.drop k → aftC r num n y) (h2 : ∀ y, 0 < k → js[k - 1]? = some y → ¬ aftC r num n y) : SpecC ok r num (n + 1) (js.take k ++ n :: js.drop k) := by
  refine ⟨?_, ?_⟩
  · rw [List.range_succ, List.filter_append]
    have e : [n].filter ok = [n] := by simp [hn]
    rw [e]
    refine List.perm_middle.trans ?_
    rw [List.take_append_drop]
    exact (List.Perm.cons _ h.1).trans (List.perm_append_singleton _ _).symm
  · have hb : ∀ y, y ∈ js.take k → befC r num y n := by
      intro y hy
      have hlt := (h.mem (List.mem_of_mem_take hy)).1
      obtain ⟨i, hi, rfl⟩ := List.mem_iff_getElem.1 hy
      rw [List.length_take] at hi
      rw [List.getElem_take] at *
      have hz : js[k - 1]? = some (js[k - 1]'(by omega)) := List.getElem?_eq_getElem (by omega)
      have hza := h2 _ (by omega) hz
      have hzl := (h.mem (List.mem_of_getElem? hz)).1
      have hzn : befC r num (js[k - 1]'(by omega)) n := by unfold aftC at hza; unfold befC; omega
      by_cases e : i = k - 1
      · subst e
        exact hzn
      · have hp := List.pairwise_iff_getElem.1 h.2 i (k - 1) (by omega) (by omega) (by omega)
        exact befC_trans _ _ _ _ _ hp hzn
    rw [List.pairwise_append]
    refine ⟨h.2.sublist (List.take_sublist _ _), ?_, ?_⟩
    · rw [List.pairwise_cons]
      refine ⟨?_, h.2.sublist (List.drop_sublist _ _)⟩
      intro y hy
      have := h1 y hy
      unfold aftC at this
      unfold befC
      omega
    · intro y hy z hz
      rcases List.mem_cons.1 hz with rfl | hz
      · exact hb y hy
      · have := h1 z hz
        have h3 := hb y hy
        refine befC_trans _ _ _ _ _ h3 ?_
        unfold aftC at this
        unfold befC
        omega
/-- Of two tellings of the same ones, with unlike numbers, the orders have the same numbers. -/
theorem SpecC.same {ok ok' : Nat → Bool} {r r' : Nat → Nat} {num num' : Nat → Int} {n n' : Nat} {js js' : List Nat} (h : SpecC ok r num n js) (h' : SpecC ok' r' num' n' js')
    (hp : (((List.range n).filter ok).map fun i => (r i, num i)).Perm (((List.range n').filter ok').map fun i => (r' i, num' i))) (hd : (((List.range n).filter ok).map num).Nodup) : js.map num = js'.map num' := by
  have key : ∀ {ok : Nat → Bool} {r : Nat → Nat} {num : Nat → Int} {n : Nat} {js : List Nat}, SpecC ok r num n js → (js.map num).Nodup → (js.map fun i => (r i, num i)).Pairwise fun x y => y.1 < x.1 ∨ (x.1 = y.1 ∧ x.2 < y.2) := by
    intro ok r num n js h hd
    rw [List.pairwise_map]
    rw [List.Nodup, List.pairwise_map] at hd
    refine (h.2.and hd).imp ?_
    intro a b hab
    have h1 := hab.1
    have h2 := hab.2
    unfold befC at h1
    simp only
    omega
  have d1 : (js.map num).Nodup := (h.1.map num).nodup_iff.2 hd
  have hp2 : (js.map fun i => (r i, num i)).Perm (js'.map fun i => (r' i, num' i)) := ((h.1.map _).trans hp).trans (h'.1.map _).symm
  have hp3 : (js.map num).Perm (js'.map num') := by
    have := hp2.map Prod.snd
    rw [List.map_map, List.map_map] at this
    exact this
  have d2 : (js'.map num').Nodup := hp3.nodup_iff.1 d1
  have e := List.Perm.eq_of_pairwise (le := fun x y : Nat × Int => y.1 < x.1 ∨ (x.1 = y.1 ∧ x.2 < y.2)) (by intro x y _ _ a b; omega) (key h d1) (key h' d2) hp2
  have := congrArg (List.map Prod.snd) e
  rw [List.map_map, List.map_map] at this
  exact this
end Go.Proofs.Ytdhnmcdgiddhdab
