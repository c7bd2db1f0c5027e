/-
  What neighbours in a suffix array share, and why one less is still shared at the next place.
-/
import Derived.Test.YtdgpbgdpdmikaabPureSaisC
set_option linter.unusedVariables false
set_option linter.unusedSimpArgs false
namespace Go.Proofs.Ytdgpbgdpdmikaab
/-- How many two lists share from the front. -/
def lcp : List Nat → List Nat → Nat
  | x :: xs, y :: ys => if x = y then lcp xs ys + 1 else 0
  | _, _ => 0
theorem lcp_cons (x y : Nat) (a b : List Nat) : lcp (x :: a) (y :: b) = if x = y then lcp a b + 1 else 0 := rfl
theorem lcp_nil (a : List Nat) : lcp a [] = 0 := by cases a <;> rfl
theorem nil_lcp (a : List Nat) : lcp [] a = 0 := by cases a <;> rfl
theorem lcp_le : ∀ a b : List Nat, lcp a b ≤ a.length
  | [], b => by rw [nil_lcp]; exact Nat.zero_le _
  | x :: a, [] => by rw [lcp_nil]; exact Nat.zero_le _
  | x :: a, y :: b => by
    rw [lcp_cons, List.length_cons]
    have := lcp_le a b
    split <;> omega
/-- Between two in order there lies no less shared. -/
theorem lcp_mid : ∀ a b c : List Nat, lexlt a b = true → lexlt b c = true → lcp c a ≤ lcp c b
  | a, b, [], _, h => by rw [lexlt_nil] at h; cases h
  | a, [], c :: cs, h, _ => by rw [lexlt_nil] at h; cases h
  | [], b :: bs, c :: cs, _, _ => by rw [lcp_nil]; exact Nat.zero_le _
  | a :: as, b :: bs, c :: cs, h1, h2 => by
    rw [lexlt_cons] at h1 h2
    rw [lcp_cons, lcp_cons]
    by_cases h : c = a
    · subst h
      rcases h1 with h1 | ⟨rfl, h1⟩
      · rcases h2 with h2 | ⟨e, h2⟩ <;> omega
      · rcases h2 with h2 | ⟨_, h2⟩
        · omega
        · rw [if_pos rfl, if_pos rfl]
          have := lcp_mid as bs cs h1 h2
          omega
    · rw [if_neg h]
      exact Nat.zero_le _
theorem lcp_drop (s : List Nat) : ∀ (h p q : Nat), h ≤ lcp (s.drop p) (s.drop q) → lcp (s.drop p) (s.drop q) = h + lcp (s.drop (p + h)) (s.drop (q + h))
  | 0, p, q, _ => by simp
  | h + 1, p, q, hl => by
    have hp : p < s.length := by
      rcases Nat.lt_or_ge p s.length with h1 | h1
      · exact h1
      · rw [List.drop_of_length_le h1, nil_lcp] at hl; omega
    have hq : q < s.length := by
      rcases Nat.lt_or_ge q s.length with h1 | h1
      · exact h1
      · rw [List.drop_of_length_le h1, lcp_nil] at hl; omega
    rw [drop_ch s p hp, drop_ch s q hq, lcp_cons] at hl ⊢
    by_cases e : ch s p = ch s q
    · rw [if_pos e] at hl ⊢
      have := lcp_drop s h (p + 1) (q + 1) (by omega)
      rw [this, show p + 1 + h = p + (h + 1) from by omega, show q + 1 + h = q + (h + 1) from by omega]
      omega
    · rw [if_neg e] at hl; omega
theorem lcp_more (s : List Nat) (h p q : Nat) (hl : h ≤ lcp (s.drop p) (s.drop q)) (hp : p + h < s.length) (hq : q + h < s.length) (he : ch s (p + h) = ch s (q + h)) : h + 1 ≤ lcp (s.drop p) (s.drop q) := by
  rw [lcp_drop s h p q hl, drop_ch s _ hp, drop_ch s _ hq, lcp_cons, if_pos he]
  omega
theorem lcp_end (s : List Nat) (h p q : Nat) (hl : h ≤ lcp (s.drop p) (s.drop q)) (he : p + h < s.length → q + h < s.length → ch s (p + h) ≠ ch s (q + h)) : lcp (s.drop p) (s.drop q) = h := by
  rw [lcp_drop s h p q hl]
  rcases Nat.lt_or_ge (p + h) s.length with h1 | h1
  · rcases Nat.lt_or_ge (q + h) s.length with h2 | h2
    · rw [drop_ch s _ h1, drop_ch s _ h2, lcp_cons, if_neg (he h1 h2)]
      omega
    · rw [List.drop_of_length_le h2, lcp_nil]; rfl
  · rw [List.drop_of_length_le h1, nil_lcp]; rfl
theorem lcp_len (s : List Nat) (p q : Nat) : lcp (s.drop p) (s.drop q) ≤ s.length - p := by
  have := lcp_le (s.drop p) (s.drop q)
  rwa [List.length_drop] at this
/-- Where a place stands. -/
def rk (T : List Nat) (p : Nat) : Nat := T.idxOf p
section
variable {s T : List Nat}
theorem IsSA.nd (h : IsSA s T) : T.Nodup := (List.Perm.nodup_iff h.perm).2 List.nodup_range
theorem IsSA.len (h : IsSA s T) : T.length = s.length := by have := h.perm.length_eq; simpa using this
theorem IsSA.lt (h : IsSA s T) {i a : Nat} (ha : T[i]? = some a) : a < s.length := by have := h.perm.subset (List.mem_of_getElem? ha); simpa using this
theorem IsSA.rk_lt (h : IsSA s T) {p : Nat} (hp : p < s.length) : rk T p < s.length := by
  rw [← h.len]
  exact List.idxOf_lt_length_iff.2 (h.perm.symm.subset (by simpa using hp))
theorem IsSA.rk_get (h : IsSA s T) {p : Nat} (hp : p < s.length) : T[rk T p]? = some p := by
  have h1 := h.rk_lt hp
  rw [← h.len] at h1
  rw [List.getElem?_eq_getElem h1]
  exact congrArg some (List.getElem_idxOf h1)
theorem IsSA.rk_of (h : IsSA s T) {i a : Nat} (ha : T[i]? = some a) : rk T a = i := by
  exact nodup_at h.nd (h.rk_get (h.lt ha)) ha
theorem IsSA.less (h : IsSA s T) {i j a b : Nat} (ha : T[i]? = some a) (hb : T[j]? = some b) (hij : i < j) : lexlt (s.drop a) (s.drop b) = true := by
  obtain ⟨h2, e2⟩ := List.getElem?_eq_some_iff.1 ha
  obtain ⟨h3, e3⟩ := List.getElem?_eq_some_iff.1 hb
  have := List.pairwise_iff_getElem.1 h.sorted i j h2 h3 hij
  rwa [e2, e3] at this
theorem IsSA.rk_less (h : IsSA s T) {a b : Nat} (ha : a < s.length) (hb : b < s.length) (hl : lexlt (s.drop a) (s.drop b) = true) : rk T a < rk T b := by
  rcases Nat.lt_trichotomy (rk T a) (rk T b) with e | e | e
  · exact e
  · have h1 := h.rk_get ha
    rw [e, h.rk_get hb] at h1
    cases h1
    rw [lexlt_irrefl] at hl; cases hl
  · have := h.less (h.rk_get hb) (h.rk_get ha) e
    rw [lexlt_asymm _ _ this] at hl; cases hl
/-- What the suffix at p shares with the one ahead of it. -/
def lq (s T : List Nat) (p : Nat) : Nat := lcp (s.drop p) (s.drop (ch T (rk T p - 1)))
def cm (s T : List Nat) (k : Nat) : Nat := if k = 0 then 0 else lcp (s.drop (ch T k)) (s.drop (ch T (k - 1)))
theorem ch_get {i a : Nat} (h : T[i]? = some a) : ch T i = a := by
  unfold ch
  rw [List.getD_eq_getElem?_getD, h]
  rfl
theorem ch_some (T : List Nat) (i : Nat) (h : i < T.length) : T[i]? = some (ch T i) := by
  have := List.getElem?_eq_getElem h
  rw [ch_get this]
  exact this
theorem cm_rk (h : IsSA s T) {p : Nat} (hp : p < s.length) : cm s T (rk T p) = if rk T p = 0 then 0 else lq s T p := by
  unfold cm lq
  rw [ch_get (h.rk_get hp)]
/-- The step of Kasai and others. -/
theorem kasai (h : IsSA s T) {p : Nat} (hp : p + 1 < s.length) (hr : 0 < rk T p) (hr1 : 0 < rk T (p + 1)) : lq s T p - 1 ≤ lq s T (p + 1) := by
  have hpl : p < s.length := by omega
  have hrl := h.rk_lt hpl
  have hq := ch_some T (rk T p - 1) (by rw [h.len]; omega)
  have hql := h.lt hq
  have hless := h.less hq (h.rk_get hpl) (by omega)
  unfold lq
  generalize ch T (rk T p - 1) = q at *
  rcases Nat.lt_or_ge (lcp (s.drop p) (s.drop q)) 2 with h2 | h2
  · omega
  · rw [drop_ch s p hpl, drop_ch s q hql] at h2 hless ⊢
    rw [lcp_cons] at h2 ⊢
    rw [lexlt_cons] at hless
    by_cases e : ch s p = ch s q
    · rw [if_pos e] at h2 ⊢
      have hless2 : lexlt (s.drop (q + 1)) (s.drop (p + 1)) = true := by
        rcases hless with h3 | ⟨_, h3⟩
        · omega
        · exact h3
      have hq1 : q + 1 < s.length := by
        rcases Nat.lt_or_ge (q + 1) s.length with h3 | h3
        · exact h3
        · rw [List.drop_of_length_le h3, lcp_nil] at h2; omega
      have h4 := h.rk_less hq1 hp hless2
      have hpr := ch_some T (rk T (p + 1) - 1) (by rw [h.len]; have := h.rk_lt hp; omega)
      rw [Nat.add_sub_cancel]
      rcases Nat.lt_or_ge (rk T (q + 1)) (rk T (p + 1) - 1) with h5 | h5
      · exact lcp_mid _ _ _ (h.less (h.rk_get hq1) hpr h5) (h.less hpr (h.rk_get hp) (by omega))
      · have h6 : rk T (q + 1) = rk T (p + 1) - 1 := by omega
        have h7 := h.rk_get hq1
        rw [h6] at h7
        rw [ch_get h7]
        exact Nat.le_refl _
    · rw [if_neg e] at h2; omega
end
end Go.Proofs.Ytdgpbgdpdmikaab
