/-
  Stable sorting in place, plain: stretches of a row that are in order, rows that are each other's permutations, turning a stretch about a place, the search of a merge.
-/
set_option linter.unusedVariables false
set_option linter.unusedSimpArgs false
namespace Go.Proofs.Ytdhnmcdgiddhdab
def Srt (R : Nat → Nat → Prop) (a b : Nat) (f : Nat → Nat) : Prop := ∀ i j, a ≤ i → i < j → j < b → R (f i) (f j)
/-- Outside of a stretch the same, within it in another order. -/
def Pm (a b : Nat) (f g : Nat → Nat) : Prop := (∀ k, k < a ∨ b ≤ k → g k = f k) ∧ ((List.range' a (b - a)).map g).Perm ((List.range' a (b - a)).map f)
theorem Pm.refl (a b : Nat) (f : Nat → Nat) : Pm a b f f := ⟨fun _ _ => rfl, List.Perm.refl _⟩
theorem Pm.trans {a b : Nat} {f g h : Nat → Nat} (h1 : Pm a b f g) (h2 : Pm a b g h) : Pm a b f h := ⟨fun k hk => (h2.1 k hk).trans (h1.1 k hk), h2.2.trans h1.2⟩
theorem range_split {a m b : Nat} (h1 : a ≤ m) (h2 : m ≤ b) : List.range' a (b - a) = List.range' a (m - a) ++ List.range' m (b - m) := by
  have := List.range'_append_1 (s := a) (m := m - a) (n := b - m)
  rw [show a + (m - a) = m from by omega, show m - a + (b - m) = b - a from by omega] at this
  exact this.symm
theorem map_range_congr {a n : Nat} {f g : Nat → Nat} (h : ∀ k, a ≤ k → k < a + n → g k = f k) : (List.range' a n).map g = (List.range' a n).map f := by
  apply List.map_congr_left
  intro k hk
  rw [List.mem_range'_1] at hk
  exact h k hk.1 hk.2
theorem Pm.mono {a b a' b' : Nat} {f g : Nat → Nat} (h : Pm a b f g) (ha : a' ≤ a) (hab : a ≤ b) (hb : b ≤ b') : Pm a' b' f g := by
  refine ⟨fun k hk => h.1 k (by omega), ?_⟩
  rw [range_split (m := a) ha (by omega), range_split (m := b) hab hb]
  simp only [List.map_append]
  refine List.Perm.append ?_ (List.Perm.append h.2 ?_)
  · rw [map_range_congr (f := f) (g := g) fun k h1 h2 => h.1 k (by omega)]
  · rw [map_range_congr (f := f) (g := g) fun k h1 h2 => h.1 k (by omega)]
theorem Pm.mem {a b : Nat} {f g : Nat → Nat} (h : Pm a b f g) {i : Nat} (h1 : a ≤ i) (h2 : i < b) : ∃ j, a ≤ j ∧ j < b ∧ g i = f j := by
  have : g i ∈ (List.range' a (b - a)).map g := List.mem_map.2 ⟨i, List.mem_range'_1.2 ⟨h1, by omega⟩, rfl⟩
  obtain ⟨j, hj, e⟩ := List.mem_map.1 (h.2.subset this)
  rw [List.mem_range'_1] at hj
  exact ⟨j, hj.1, by omega, e.symm⟩
def swp (i j : Nat) (f : Nat → Nat) : Nat → Nat := fun k => if k = i then f j else if k = j then f i else f k
theorem swp_comm (i j : Nat) (f : Nat → Nat) : swp i j f = swp j i f := by
  funext k
  unfold swp
  by_cases c1 : k = i
  · by_cases c2 : k = j
    · rw [if_pos c1, if_pos c2, ← c1, ← c2]
    · rw [if_pos c1, if_neg c2, if_pos c1]
  · rw [if_neg c1, if_neg c1]
theorem Pm.swp {a b i j : Nat} (f : Nat → Nat) (h1 : a ≤ i) (h2 : i < j) (h3 : j < b) : Pm a b f (swp i j f) := by
  refine ⟨fun k hk => by unfold Go.Proofs.Ytdhnmcdgiddhdab.swp; rw [if_neg (by omega), if_neg (by omega)], ?_⟩
  have one : ∀ (x : Nat), List.range' x (x + 1 - x) = [x] := by intro x; rw [show x + 1 - x = 1 from by omega]; rfl
  rw [range_split (m := i) h1 (by omega), range_split (a := i) (m := i + 1) (by omega) (by omega), range_split (a := i + 1) (m := j) (by omega) (by omega), range_split (a := j) (m := j + 1) (by omega) (by omega), one i, one j]
  simp only [List.map_append, List.map_cons, List.map_nil]
  have e1 : (List.range' a (i - a)).map (Go.Proofs.Ytdhnmcdgiddhdab.swp i j f) = (List.range' a (i - a)).map f := map_range_congr fun k _ _ => by unfold Go.Proofs.Ytdhnmcdgiddhdab.swp; rw [if_neg (by omega), if_neg (by omega)]
  have e2 : (List.range' (i + 1) (j - (i + 1))).map (Go.Proofs.Ytdhnmcdgiddhdab.swp i j f) = (List.range' (i + 1) (j - (i + 1))).map f := map_range_congr fun k _ _ => by unfold Go.Proofs.Ytdhnmcdgiddhdab.swp; rw [if_neg (by omega), if_neg (by omega)]
  have e3 : (List.range' (j + 1) (b - (j + 1))).map (Go.Proofs.Ytdhnmcdgiddhdab.swp i j f) = (List.range' (j + 1) (b - (j + 1))).map f := map_range_congr fun k _ _ => by unfold Go.Proofs.Ytdhnmcdgiddhdab.swp; rw [if_neg (by omega), if_neg (by omega)]
  have e4 : Go.Proofs.Ytdhnmcdgiddhdab.swp i j f i = f j := by unfold Go.Proofs.Ytdhnmcdgiddhdab.swp; rw [if_pos rfl]
  have e5 : Go.Proofs.Ytdhnmcdgiddhdab.swp i j f j = f i := by unfold Go.Proofs.Ytdhnmcdgiddhdab.swp; rw [if_neg (by omega), if_pos rfl]
  rw [e1, e2, e3, e4, e5]
  apply List.Perm.append_left
  simp only [List.singleton_append]
  refine (List.perm_middle (l₁ := f j :: _) (a := f i)).trans ?_
  refine List.Perm.cons _ ?_
  exact (List.perm_middle (a := f j)).symm
/-- A stretch turned about a place. -/
def rot (a m b : Nat) (f : Nat → Nat) : Nat → Nat := fun k => if a ≤ k ∧ k < a + (b - m) then f (k + (m - a)) else if a + (b - m) ≤ k ∧ k < b then f (k - (b - m)) else f k
theorem Pm.rot {a m b : Nat} (f : Nat → Nat) (h1 : a ≤ m) (h2 : m ≤ b) : Pm a b f (rot a m b f) := by
  refine ⟨fun k hk => by unfold Go.Proofs.Ytdhnmcdgiddhdab.rot; rw [if_neg (by omega), if_neg (by omega)], ?_⟩
  have e1 : (List.range' a (a + (b - m) - a)).map (Go.Proofs.Ytdhnmcdgiddhdab.rot a m b f) = (List.range' m (b - m)).map f := by
    rw [show a + (b - m) - a = b - m from by omega]
    apply List.ext_getElem?
    intro k
    by_cases hk : k < b - m
    · rw [List.getElem?_map, List.getElem?_map, List.getElem?_range' hk, List.getElem?_range' hk]
      simp only [Option.map_some, Nat.one_mul]
      unfold Go.Proofs.Ytdhnmcdgiddhdab.rot
      rw [if_pos (by omega), show a + k + (m - a) = m + k from by omega]
    · rw [List.getElem?_eq_none (by simpa using hk), List.getElem?_eq_none (by simpa using hk)]
  have e2 : (List.range' (a + (b - m)) (b - (a + (b - m)))).map (Go.Proofs.Ytdhnmcdgiddhdab.rot a m b f) = (List.range' a (m - a)).map f := by
    rw [show b - (a + (b - m)) = m - a from by omega]
    apply List.ext_getElem?
    intro k
    by_cases hk : k < m - a
    · rw [List.getElem?_map, List.getElem?_map, List.getElem?_range' hk, List.getElem?_range' hk]
      simp only [Option.map_some, Nat.one_mul]
      unfold Go.Proofs.Ytdhnmcdgiddhdab.rot
      rw [if_neg (by omega), if_pos (by omega), show a + (b - m) + k - (b - m) = a + k from by omega]
    · rw [List.getElem?_eq_none (by simpa using hk), List.getElem?_eq_none (by simpa using hk)]
  have e3 : (List.range' a (b - a)).map (Go.Proofs.Ytdhnmcdgiddhdab.rot a m b f) = (List.range' m (b - m)).map f ++ (List.range' a (m - a)).map f := by
    rw [range_split (a := a) (m := a + (b - m)) (b := b) (by omega) (by omega), List.map_append, e1, e2]
  rw [e3, range_split (a := a) (m := m) (b := b) h1 h2, List.map_append]
  exact List.perm_append_comm
/-- Two stretches of one length exchanged, the first n of them. -/
def swr (a b n : Nat) (f : Nat → Nat) : Nat → Nat := fun k => if a ≤ k ∧ k < a + n then f (k - a + b) else if b ≤ k ∧ k < b + n then f (k - b + a) else f k
theorem swr_zero (a b : Nat) (f : Nat → Nat) : swr a b 0 f = f := by
  funext k
  unfold swr
  rw [if_neg (by omega), if_neg (by omega)]
theorem swr_step (a b n : Nat) (f : Nat → Nat) (h : a + n < b) : swp (a + n) (b + n) (swr a b n f) = swr a b (n + 1) f := by
  funext k
  unfold swp swr
  by_cases c1 : k = a + n
  · subst c1
    rw [if_pos rfl, if_neg (by omega), if_neg (by omega), if_pos (by omega)]
    congr 1 <;> omega
  · rw [if_neg c1]
    by_cases c2 : k = b + n
    · subst c2
      rw [if_pos rfl, if_neg (by omega), if_neg (by omega), if_neg (by omega), if_pos (by omega)]
      congr 1 <;> omega
    · rw [if_neg c2]
      by_cases c3 : a ≤ k ∧ k < a + n
      · rw [if_pos c3, if_pos (by omega)]
      · rw [if_neg c3]
        by_cases c4 : b ≤ k ∧ k < b + n
        · rw [if_pos c4, if_neg (by omega), if_pos (by omega)]
        · rw [if_neg c4, if_neg (by omega), if_neg (by omega)]
/-- The steps of the turning. -/
theorem rot_left (m i j : Nat) (f : Nat → Nat) (hi : i ≤ m) (h : j < i) : rot (m - (i - j)) m (m + j) (swr (m - i) m j f) = rot (m - i) m (m + j) f := by
  funext k
  unfold rot swr
  by_cases c1 : k < m - i
  · rw [if_neg (by omega), if_neg (by omega), if_neg (by omega), if_neg (by omega), if_neg (by omega), if_neg (by omega)]
  · by_cases c2 : m + j ≤ k
    · rw [if_neg (by omega), if_neg (by omega), if_neg (by omega), if_neg (by omega), if_neg (by omega), if_neg (by omega)]
    · by_cases c3 : k < m - i + j
      · rw [if_neg (by omega), if_neg (by omega), if_pos (by omega), if_pos (by omega)]
        congr 1 <;> omega
      · by_cases c4 : k < m - (i - j) + j
        · rw [if_pos (by omega), if_neg (by omega), if_pos (by omega), if_neg (by omega), if_pos (by omega)]
          congr 1 <;> omega
        · rw [if_neg (by omega), if_pos (by omega), if_neg (by omega), if_neg (by omega), if_neg (by omega), if_pos (by omega)]
theorem rot_right (m i j : Nat) (f : Nat → Nat) (hi : i ≤ m) (h : i < j) : rot (m - i) m (m + (j - i)) (swr (m - i) (m + j - i) i f) = rot (m - i) m (m + j) f := by
  funext k
  unfold rot swr
  by_cases c1 : k < m - i
  · rw [if_neg (by omega), if_neg (by omega), if_neg (by omega), if_neg (by omega), if_neg (by omega), if_neg (by omega)]
  · by_cases c2 : m + j ≤ k
    · rw [if_neg (by omega), if_neg (by omega), if_neg (by omega), if_neg (by omega), if_neg (by omega), if_neg (by omega)]
    · by_cases c3 : m + (j - i) ≤ k
      · rw [if_neg (by omega), if_neg (by omega), if_neg (by omega), if_pos (by omega), if_neg (by omega), if_pos (by omega)]
        congr 1 <;> omega
      · by_cases c4 : k < m - i + (j - i)
        · rw [if_pos (by omega), if_neg (by omega), if_neg (by omega), if_pos (by omega)]
          try (congr 1 <;> omega)
        · have c6 : m - i ≤ k - (m + (j - i) - m) ∧ k - (m + (j - i) - m) < m - i + i := by omega
          rw [if_neg (by omega), if_pos (by omega), if_pos c6, if_pos (by omega)]
          try (congr 1 <;> omega)
theorem rot_end (m i : Nat) (f : Nat → Nat) (hi : i ≤ m) : swr (m - i) m i f = rot (m - i) m (m + i) f := by
  funext k
  unfold rot swr
  by_cases c1 : m - i ≤ k ∧ k < m - i + i
  · rw [if_pos c1, if_pos (by omega)]
    congr 1 <;> omega
  · by_cases c2 : m ≤ k ∧ k < m + i
    · rw [if_neg c1, if_pos c2, if_neg (by omega), if_pos (by omega)]
      congr 1 <;> omega
    · rw [if_neg c1, if_neg c2, if_neg (by omega), if_neg (by omega)]
end Go.Proofs.Ytdhnmcdgiddhdab
