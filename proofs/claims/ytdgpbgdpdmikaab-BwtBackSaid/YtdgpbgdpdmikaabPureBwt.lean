/-
  The block-sorting transform, plain: rows, the way from a row to the next longer one, there and back.
-/
import Derived.Test.YtdgpbgdpdmikaabPureLcp
set_option linter.unusedVariables false
set_option linter.unusedSimpArgs false
namespace Go.Proofs.Ytdgpbgdpdmikaab
/-- The order with the empty suffix ahead. -/
structure IsSA1 (s : List Nat) (A : List Nat) : Prop where
  perm : A.Perm (List.range (s.length + 1))
  sorted : A.Pairwise fun u v => lexlt (s.drop u) (s.drop v) = true
theorem IsSA.one {s T : List Nat} (h : IsSA s T) : IsSA1 s (s.length :: T) := by
  constructor
  · rw [List.range_succ]
    exact (h.perm.cons _).trans (List.perm_append_comm (l₁ := [s.length]) (l₂ := List.range s.length))
  · rw [List.pairwise_cons]
    refine ⟨fun a ha => ?_, h.sorted⟩
    have ha' : a < s.length := by have := h.perm.subset ha; simpa using this
    rw [List.drop_length, drop_ch s a ha']
    rfl
/-- What stands ahead of each row's suffix, but of the whole. -/
def fwdN (s A : List Nat) : List Nat := (A.filter fun p => decide (p ≠ 0)).map fun p => ch s (p - 1)
def idxR (at_ r : Nat) : Nat := if at_ < r then r - 1 else r
def toP (l : List Nat) (at_ r : Nat) : Nat := 1 + l.countP (fun x => decide (x < ch l (idxR at_ r))) + (l.take (idxR at_ r)).count (ch l (idxR at_ r))
def rowP (l : List Nat) (at_ : Nat) : Nat → Nat
  | 0 => 0
  | j + 1 => toP l at_ (rowP l at_ j)
def GoodB (l : List Nat) (at_ : Nat) : Prop := at_ ≤ l.length ∧ (∀ j, j < l.length → rowP l at_ j ≠ at_) ∧ rowP l at_ l.length = at_
def invP (l : List Nat) (at_ : Nat) : List Nat := (List.range l.length).map fun i => ch l (idxR at_ (rowP l at_ (l.length - 1 - i)))
theorem invP_length (l : List Nat) (at_ : Nat) : (invP l at_).length = l.length := by simp [invP]
theorem ch_take (l : List Nat) {i k : Nat} (h : i < k) : ch (l.take k) i = ch l i := by
  unfold ch
  rw [List.getD_eq_getElem?_getD, List.getD_eq_getElem?_getD, List.getElem?_take, if_pos h]
theorem take_succ_ch (l : List Nat) (k : Nat) (h : k < l.length) : l.take (k + 1) = l.take k ++ [ch l k] := by
  rw [List.take_add_one, ch_some l k h]
  rfl
theorem count_take_le (l : List Nat) (c : Nat) {i j : Nat} (h : i ≤ j) : (l.take i).count c ≤ (l.take j).count c := by
  have : l.take i = (l.take j).take i := by rw [List.take_take, Nat.min_eq_left h]
  rw [this]
  exact (List.take_sublist i _).count_le c
theorem count_take_lt (l : List Nat) {i j : Nat} (h : i < j) (hj : j ≤ l.length) : (l.take i).count (ch l i) < (l.take j).count (ch l i) := by
  have h1 := count_take_le l (ch l i) (show i + 1 ≤ j from h)
  rw [take_succ_ch l i (by omega), List.count_append] at h1
  simp at h1
  omega
theorem count_less_le (l : List Nat) : ∀ {c d : Nat}, c < d → l.countP (fun x => decide (x < c)) + l.count c ≤ l.countP (fun x => decide (x < d)) := by
  intro c d h
  induction l with
  | nil => simp
  | cons x l ih =>
    rw [List.countP_cons, List.countP_cons, List.count_cons]
    by_cases h1 : x < c
    · have : ¬ x = c := by omega
      have : x < d := by omega
      simp [*] at *
      omega
    · by_cases h2 : x = c
      · subst h2
        simp [*] at *
        omega
      · have h3 : (if decide (x < c) = true then 1 else 0) = 0 := by simp [h1]
        have h4 : (if (x == c) = true then 1 else 0) = 0 := by simp [h2]
        rw [h3, h4]
        omega
theorem idxR_lt {l : List Nat} {at_ r : Nat} (hr : r ≤ l.length) (ha : at_ ≤ l.length) (hne : r ≠ at_) : idxR at_ r < l.length := by unfold idxR; split <;> omega
theorem idxR_inj {at_ r r' : Nat} (h : r ≠ at_) (h' : r' ≠ at_) : idxR at_ r < idxR at_ r' ↔ r < r' := by unfold idxR; split <;> split <;> omega
theorem toP_lt {l : List Nat} {at_ r r' : Nat} (ha : at_ ≤ l.length) (hr : r ≤ l.length) (hr' : r' ≤ l.length) (hne : r ≠ at_) (hne' : r' ≠ at_)
    (h : ch l (idxR at_ r) < ch l (idxR at_ r') ∨ ch l (idxR at_ r) = ch l (idxR at_ r') ∧ r < r') : toP l at_ r < toP l at_ r' := by
  unfold toP
  have hk := idxR_lt hr ha hne
  have hk' := idxR_lt hr' ha hne'
  rcases h with h | ⟨h, hlt⟩
  · have h1 := count_less_le l h
    have h2 := count_take_lt l hk (Nat.le_refl _)
    rw [List.take_length] at h2
    omega
  · have h2 := count_take_lt l ((idxR_inj hne hne').2 hlt) (by omega)
    rw [← h]
    omega
theorem toP_order {l : List Nat} {at_ r r' : Nat} (ha : at_ ≤ l.length) (hr : r ≤ l.length) (hr' : r' ≤ l.length) (hne : r ≠ at_) (hne' : r' ≠ at_) (h : toP l at_ r < toP l at_ r') :
    ch l (idxR at_ r) < ch l (idxR at_ r') ∨ ch l (idxR at_ r) = ch l (idxR at_ r') ∧ r < r' := by
  rcases Nat.lt_trichotomy (ch l (idxR at_ r)) (ch l (idxR at_ r')) with e | e | e
  · exact .inl e
  · refine .inr ⟨e, ?_⟩
    rcases Nat.lt_trichotomy r r' with q | q | q
    · exact q
    · subst q; omega
    · have := toP_lt ha hr' hr hne' hne (.inr ⟨e.symm, q⟩)
      omega
  · have := toP_lt ha hr' hr hne' hne (.inl e)
    omega
theorem toP_inj {l : List Nat} {at_ r r' : Nat} (ha : at_ ≤ l.length) (hr : r ≤ l.length) (hr' : r' ≤ l.length) (hne : r ≠ at_) (hne' : r' ≠ at_) (h : toP l at_ r = toP l at_ r') : r = r' := by
  rcases Nat.lt_trichotomy r r' with q | q | q
  · exfalso
    rcases Nat.lt_trichotomy (ch l (idxR at_ r)) (ch l (idxR at_ r')) with e | e | e
    · have := toP_lt ha hr hr' hne hne' (.inl e); omega
    · have := toP_lt ha hr hr' hne hne' (.inr ⟨e, q⟩); omega
    · have := toP_lt ha hr' hr hne' hne (.inl e); omega
  · exact q
  · exfalso
    rcases Nat.lt_trichotomy (ch l (idxR at_ r)) (ch l (idxR at_ r')) with e | e | e
    · have := toP_lt ha hr hr' hne hne' (.inl e); omega
    · have := toP_lt ha hr' hr hne' hne (.inr ⟨e.symm, q⟩); omega
    · have := toP_lt ha hr' hr hne' hne (.inl e); omega
theorem toP_le {l : List Nat} {at_ r : Nat} (ha : at_ ≤ l.length) (hr : r ≤ l.length) (hne : r ≠ at_) : toP l at_ r ≤ l.length := by
  unfold toP
  have hk := idxR_lt hr ha hne
  have h1 := count_less_le l (show ch l (idxR at_ r) < ch l (idxR at_ r) + 1 from Nat.lt_succ_self _)
  have h2 := count_take_lt l hk (Nat.le_refl _)
  rw [List.take_length] at h2
  have h3 : l.countP (fun x => decide (x < ch l (idxR at_ r) + 1)) ≤ l.length := List.countP_le_length
  omega
/-! The rank of a suffix, by counting -/
theorem idx_count {A : List Nat} {R : Nat → Nat → Prop} [∀ a b, Decidable (R a b)] (hs : A.Pairwise R) (hirr : ∀ a, ¬ R a a) (hasym : ∀ a b, R a b → ¬ R b a) {q : Nat} (hq : q ∈ A) : A.idxOf q = A.countP fun a => decide (R a q) := by
  induction A with
  | nil => cases hq
  | cons x A ih =>
    rw [List.pairwise_cons] at hs
    rw [List.idxOf_cons, List.countP_cons]
    by_cases e : x = q
    · subst e
      have : A.countP (fun a => decide (R a x)) = 0 := by
        rw [List.countP_eq_zero]
        intro a ha
        simp [hasym _ _ (hs.1 a ha)]
      simp [this, hirr]
    · have hq' : q ∈ A := by
        rcases List.mem_cons.1 hq with h | h
        · exact absurd h.symm e
        · exact h
      have e' : (x == q) = false := by simp [e]
      rw [e', ih hs.2 hq']
      simp [hs.1 q hq']
theorem IsSA1.idx {s A : List Nat} (h : IsSA1 s A) {q : Nat} (hq : q ≤ s.length) : A.idxOf q = (List.range (s.length + 1)).countP fun a => lexlt (s.drop a) (s.drop q) := by
  have hm : q ∈ A := h.perm.symm.subset (by simp; omega)
  rw [idx_count (R := fun a b => lexlt (s.drop a) (s.drop b) = true) h.sorted (fun a => by simp [lexlt_irrefl]) (fun a b h1 => by simp [lexlt_asymm _ _ h1]) hm]
  rw [h.perm.countP_eq]
  congr 1
  funext a
  simp
theorem IsSA1.nd {s A : List Nat} (h : IsSA1 s A) : A.Nodup := (List.Perm.nodup_iff h.perm).2 List.nodup_range
theorem IsSA1.len {s A : List Nat} (h : IsSA1 s A) : A.length = s.length + 1 := by have := h.perm.length_eq; simpa using this
theorem IsSA1.idx_lt {s A : List Nat} (h : IsSA1 s A) {q : Nat} (hq : q ≤ s.length) : A.idxOf q < s.length + 1 := by
  rw [← h.len]
  exact List.idxOf_lt_length_of_mem (h.perm.symm.subset (by simp; omega))
theorem IsSA1.get_idx {s A : List Nat} (h : IsSA1 s A) {q : Nat} (hq : q ≤ s.length) : A[A.idxOf q]? = some q := by
  have hl : A.idxOf q < A.length := by rw [h.len]; exact h.idx_lt hq
  rw [List.getElem?_eq_getElem hl, List.getElem_idxOf]
theorem IsSA1.idx_get {s A : List Nat} (h : IsSA1 s A) {r q : Nat} (hr : A[r]? = some q) : A.idxOf q = r := by
  have hq : q ≤ s.length := by have := h.perm.subset (List.mem_of_getElem? hr); simp at this; omega
  have h1 := h.get_idx hq
  exact nodup_at h.nd h1 hr
theorem IsSA1.take_idx {s A : List Nat} (h : IsSA1 s A) {q : Nat} (hq : q ≤ s.length) : A.take (A.idxOf q) = A.filter fun a => lexlt (s.drop a) (s.drop q) := by
  have hg := h.get_idx hq
  have hl : A.idxOf q < A.length := by rw [h.len]; exact h.idx_lt hq
  have e : A = A.take (A.idxOf q) ++ q :: A.drop (A.idxOf q + 1) := by
    have := List.take_append_drop (A.idxOf q) A
    rw [List.drop_eq_getElem_cons hl, List.getElem_idxOf] at this
    exact this.symm
  have hs := h.sorted
  rw [e, List.pairwise_append, List.pairwise_cons] at hs
  have e2 := congrArg (List.filter fun a => lexlt (s.drop a) (s.drop q)) e
  rw [List.filter_append, List.filter_cons, if_neg (by simp [lexlt_irrefl])] at e2
  rw [e2]
  have h1 : (A.take (A.idxOf q)).filter (fun a => lexlt (s.drop a) (s.drop q)) = A.take (A.idxOf q) := by
    rw [List.filter_eq_self]
    intro a ha
    exact hs.2.2 a ha q (List.mem_cons_self ..)
  have h2 : (A.drop (A.idxOf q + 1)).filter (fun a => lexlt (s.drop a) (s.drop q)) = [] := by
    rw [List.filter_eq_nil_iff]
    intro a ha
    simp [lexlt_asymm _ _ (hs.2.1.1 a ha)]
  rw [h1, h2, List.append_nil]
theorem range_tail (n : Nat) : (List.range (n + 1)).filter (fun p => decide (p ≠ 0)) = (List.range n).map (· + 1) := by
  rw [List.range_succ_eq_map, List.filter_cons, if_neg (by simp), List.filter_map, List.filter_eq_self.2]
  intro a _
  simp
theorem map_ch (s : List Nat) : (List.range s.length).map (ch s) = s := by
  apply List.ext_getElem?
  intro i
  by_cases hi : i < s.length
  · rw [List.getElem?_map, List.getElem?_range hi, ch_some s i hi]; rfl
  · rw [List.getElem?_eq_none (by simpa using hi), List.getElem?_eq_none (by omega)]
/-- The same bytes, in another order. -/
theorem fwdN_perm {s A : List Nat} (h : IsSA1 s A) : (fwdN s A).Perm s := by
  unfold fwdN
  refine ((h.perm.filter _).map _).trans ?_
  rw [range_tail, List.map_map]
  have : (fun p => ch s (p - 1)) ∘ (fun x : Nat => x + 1) = ch s := by funext a; simp
  rw [this, map_ch]
theorem fwdN_length {s A : List Nat} (h : IsSA1 s A) : (fwdN s A).length = s.length := (fwdN_perm h).length_eq
theorem filter_swap {α : Type} (p q : α → Bool) (A : List α) : (A.filter fun a => p a && q a) = A.filter fun a => q a && p a := by
  congr 1
  funext a
  exact Bool.and_comm _ _
theorem filter_take {α : Type} (p : α → Bool) (A : List α) (r : Nat) : (A.filter p).take ((A.take r).filter p).length = (A.take r).filter p := by
  have : A.filter p = (A.take r).filter p ++ (A.drop r).filter p := by rw [← List.filter_append, List.take_append_drop]
  rw [this, List.take_left]
theorem filter_ne_length {A : List Nat} (hA : A.Nodup) (r : Nat) (hr : r ≤ A.length) (h0 : 0 ∈ A) : ((A.take r).filter fun p => decide (p ≠ 0)).length = idxR (A.idxOf 0) r := by
  have h1 : ∀ l : List Nat, (l.filter fun p => decide (p ≠ 0)).length + l.count 0 = l.length := by
    intro l
    induction l with
    | nil => rfl
    | cons x l ih =>
      rw [List.filter_cons, List.count_cons, List.length_cons, ← ih]
      by_cases e : x = 0
      · subst e; simp; omega
      · have e2 : (x == 0) = false := by simpa using e
        rw [if_pos (by simpa using e), e2, List.length_cons]
        simp
        omega
  have h2 := h1 (A.take r)
  rw [List.length_take, Nat.min_eq_left hr] at h2
  have hnd : (A.take r).Nodup := hA.sublist (List.take_sublist _ _)
  unfold idxR
  have hi : A.idxOf 0 < A.length := List.idxOf_lt_length_of_mem h0
  have hg : A[A.idxOf 0]? = some 0 := by rw [List.getElem?_eq_getElem hi, List.getElem_idxOf]
  by_cases c : A.idxOf 0 < r
  · rw [if_pos c]
    have hm : 0 ∈ A.take r := List.mem_of_getElem? (i := A.idxOf 0) (by rw [List.getElem?_take, if_pos c]; exact hg)
    have : (A.take r).count 0 = 1 := by rw [hnd.count, if_pos hm]
    omega
  · rw [if_neg c]
    have hm : 0 ∉ A.take r := by
      intro hm
      obtain ⟨k, hk⟩ := List.mem_iff_getElem?.1 hm
      rw [List.getElem?_take] at hk
      split at hk
      · have := nodup_at hA hk hg
        omega
      · cases hk
    have := List.count_eq_zero.2 hm
    omega
theorem fwdN_take {s A : List Nat} (h : IsSA1 s A) (r : Nat) (hr : r ≤ A.length) : (fwdN s A).take (idxR (A.idxOf 0) r) = ((A.take r).filter fun p => decide (p ≠ 0)).map fun p => ch s (p - 1) := by
  have h0 : 0 ∈ A := h.perm.symm.subset (by simp)
  unfold fwdN
  rw [← List.map_take, ← filter_ne_length h.nd r hr h0, filter_take]
theorem fwdN_at {s A : List Nat} (h : IsSA1 s A) {r p : Nat} (hr : A[r]? = some p) (hp : p ≠ 0) : ch (fwdN s A) (idxR (A.idxOf 0) r) = ch s (p - 1) := by
  have hl : r < A.length := (List.getElem?_eq_some_iff.1 hr).1
  have h0 : 0 ∈ A := h.perm.symm.subset (by simp)
  have h1 := fwdN_take h (r + 1) hl
  have e : A.take (r + 1) = A.take r ++ [p] := by rw [List.take_add_one, hr]; rfl
  have hne : r ≠ A.idxOf 0 := by
    intro e
    have hg : A[A.idxOf 0]? = some 0 := h.get_idx (Nat.zero_le _)
    rw [← e, hr] at hg
    cases hg
    exact hp rfl
  have e2 : idxR (A.idxOf 0) (r + 1) = idxR (A.idxOf 0) r + 1 := by unfold idxR; split <;> split <;> omega
  rw [e, List.filter_append, List.map_append, ← fwdN_take h r (by omega), e2, List.filter_cons, if_pos (by simpa using hp)] at h1
  have hk : idxR (A.idxOf 0) r < (fwdN s A).length := by
    rw [fwdN_length h]
    have := h.len
    have := h.idx_lt (Nat.zero_le s.length)
    unfold idxR
    split <;> omega
  rw [take_succ_ch _ _ hk] at h1
  have := List.append_cancel_left h1
  simpa using this
theorem IsSA1.lf {s A : List Nat} (h : IsSA1 s A) {q : Nat} (hq : q < s.length) : toP (fwdN s A) (A.idxOf 0) (A.idxOf (q + 1)) = A.idxOf q := by
  have hg := h.get_idx (q := q + 1) hq
  unfold toP
  rw [fwdN_at h hg (by omega), Nat.add_sub_cancel, fwdN_take h _ (by rw [h.len]; exact Nat.le_of_lt (h.idx_lt hq)), (fwdN_perm h).countP_eq, h.take_idx (q := q + 1) hq, h.idx (Nat.le_of_lt hq)]
  have e1 : s.countP (fun x => decide (x < ch s q)) = (List.range s.length).countP fun a => decide (ch s a < ch s q) := by
    have := congrArg (List.countP fun x => decide (x < ch s q)) (map_ch s)
    rw [List.countP_map] at this
    exact this.symm
  have e2 : (((A.filter fun a => lexlt (s.drop a) (s.drop (q + 1))).filter fun p => decide (p ≠ 0)).map fun p => ch s (p - 1)).count (ch s q) = (List.range s.length).countP fun a => lexlt (s.drop (a + 1)) (s.drop (q + 1)) && (ch s a == ch s q) := by
    rw [((((h.perm.filter _).filter _).map _).count_eq (ch s q) : _), List.filter_filter, filter_swap, ← List.filter_filter, range_tail, List.filter_map, List.map_map, List.count_eq_countP, List.countP_map, List.countP_filter]
    congr 1
    funext a
    simp [Bool.and_comm]
  rw [e1, e2, List.range_succ, List.countP_append]
  have e3 : (List.range s.length).countP (fun a => lexlt (s.drop a) (s.drop q)) = (List.range s.length).countP (fun a => decide (ch s a < ch s q)) + (List.range s.length).countP (fun a => lexlt (s.drop (a + 1)) (s.drop (q + 1)) && (ch s a == ch s q)) := by
    have : ∀ l : List Nat, (∀ a ∈ l, a < s.length) → l.countP (fun a => lexlt (s.drop a) (s.drop q)) = l.countP (fun a => decide (ch s a < ch s q)) + l.countP (fun a => lexlt (s.drop (a + 1)) (s.drop (q + 1)) && (ch s a == ch s q)) := by
      intro l hl
      induction l with
      | nil => rfl
      | cons a l ih =>
        rw [List.countP_cons, List.countP_cons, List.countP_cons, ih fun x hx => hl x (List.mem_cons_of_mem _ hx)]
        have ha := hl a (List.mem_cons_self ..)
        rw [drop_ch s a ha, drop_ch s q hq]
        simp only [lexlt]
        by_cases c1 : ch s a < ch s q
        · have : ¬ ch s a = ch s q := by omega
          simp [c1, this]
          omega
        · by_cases c2 : ch s a = ch s q
          · simp [c1, c2]
            omega
          · simp [c1, c2]
    exact this _ fun a ha => by simpa using ha
  rw [e3]
  have e4 : [s.length].countP (fun a => lexlt (s.drop a) (s.drop q)) = 1 := by
    rw [List.countP_cons, List.countP_nil, List.drop_length, drop_ch s q hq]
    rfl
  rw [e4]
  omega
/-- There and back. -/
theorem fwd_row {s A : List Nat} (h : IsSA1 s A) : ∀ j, j ≤ s.length → rowP (fwdN s A) (A.idxOf 0) j = A.idxOf (s.length - j)
  | 0, _ => by
    rw [Nat.sub_zero, h.idx (Nat.le_refl _)]
    symm
    rw [rowP, List.countP_eq_zero]
    intro a _
    rw [List.drop_length, lexlt_nil]
    simp
  | j + 1, hj => by
    rw [rowP, fwd_row h j (by omega)]
    have := h.lf (q := s.length - (j + 1)) (by omega)
    rwa [show s.length - (j + 1) + 1 = s.length - j from by omega] at this
theorem fwd_good {s A : List Nat} (h : IsSA1 s A) : GoodB (fwdN s A) (A.idxOf 0) := by
  rw [GoodB, fwdN_length h]
  refine ⟨by have := h.idx_lt (Nat.zero_le s.length); omega, fun j hj e => ?_, ?_⟩
  · rw [fwd_row h j (by omega)] at e
    have h1 := h.get_idx (q := s.length - j) (by omega)
    rw [e, h.get_idx (Nat.zero_le _)] at h1
    simp only [Option.some.injEq] at h1
    omega
  · rw [fwd_row h _ (Nat.le_refl _), Nat.sub_self]
theorem fwd_back {s A : List Nat} (h : IsSA1 s A) : invP (fwdN s A) (A.idxOf 0) = s := by
  apply List.ext_getElem?
  intro i
  by_cases hi : i < s.length
  · unfold invP
    rw [List.getElem?_map, fwdN_length h, List.getElem?_range hi, ch_some s i hi, Option.map_some, fwd_row h _ (by omega)]
    have e : s.length - (s.length - 1 - i) = i + 1 := by omega
    rw [e, fwdN_at h (h.get_idx hi) (by omega)]
    rfl
  · rw [List.getElem?_eq_none (by rw [invP_length, fwdN_length h]; omega), List.getElem?_eq_none (by omega)]
section
variable {l : List Nat} {at_ : Nat}
theorem GoodB.row_le (h : GoodB l at_) : ∀ j, j ≤ l.length → rowP l at_ j ≤ l.length
  | 0, _ => Nat.zero_le _
  | j + 1, hj => toP_le h.1 (h.row_le j (by omega)) (h.2.1 j (by omega))
theorem GoodB.row_inj (h : GoodB l at_) : ∀ j k, j ≤ l.length → k ≤ l.length → rowP l at_ j = rowP l at_ k → j = k
  | 0, 0, _, _, _ => rfl
  | 0, k + 1, _, _, e => by rw [rowP, rowP, toP] at e; omega
  | j + 1, 0, _, _, e => by rw [rowP, rowP, toP] at e; omega
  | j + 1, k + 1, hj, hk, e => by
    rw [rowP, rowP] at e
    rw [h.row_inj j k (by omega) (by omega) (toP_inj h.1 (h.row_le j (by omega)) (h.row_le k (by omega)) (h.2.1 j (by omega)) (h.2.1 k (by omega)) e)]
theorem invP_drop {j : Nat} (h : j < l.length) : (invP l at_).drop (l.length - (j + 1)) = ch l (idxR at_ (rowP l at_ j)) :: (invP l at_).drop (l.length - j) := by
  rw [drop_ch _ _ (by rw [invP_length]; omega), show l.length - (j + 1) + 1 = l.length - j from by omega]
  congr 1
  unfold invP ch
  rw [List.getD_eq_getElem?_getD, List.getElem?_map, List.getElem?_range (by omega)]
  simp only [Option.map_some, Option.getD_some]
  rw [show l.length - 1 - (l.length - (j + 1)) = j from by omega]
theorem GoodB.order (h : GoodB l at_) : ∀ j k, j ≤ l.length → k ≤ l.length → rowP l at_ j < rowP l at_ k → lexlt ((invP l at_).drop (l.length - j)) ((invP l at_).drop (l.length - k)) = true
  | j, 0, _, _, e => by rw [rowP] at e; omega
  | 0, k + 1, _, hk, _ => by
    rw [invP_drop (by omega), Nat.sub_zero, List.drop_of_length_le (by rw [invP_length]; exact Nat.le_refl _)]
    rfl
  | j + 1, k + 1, hj, hk, e => by
    rw [rowP, rowP] at e
    rw [invP_drop (by omega), invP_drop (by omega), lexlt_cons]
    rcases toP_order h.1 (h.row_le j (by omega)) (h.row_le k (by omega)) (h.2.1 j (by omega)) (h.2.1 k (by omega)) e with q | ⟨q, q2⟩
    · exact .inl q
    · exact .inr ⟨q, h.order j k (by omega) (by omega) q2⟩
theorem GoodB.idx (h : GoodB l at_) {A : List Nat} (hA : IsSA1 (invP l at_) A) {j : Nat} (hj : j ≤ l.length) : A.idxOf (l.length - j) = rowP l at_ j := by
  rw [hA.idx (by rw [invP_length]; omega), invP_length]
  have hrev : (List.range (l.length + 1)).Perm ((List.range (l.length + 1)).map fun k => l.length - k) := by
    refine (List.perm_ext_iff_of_nodup List.nodup_range ?_).2 ?_
    · rw [List.Nodup, List.pairwise_map]
      refine List.Pairwise.imp_of_mem ?_ List.nodup_range
      intro a b ha hb hne
      simp at ha hb
      omega
    · intro a
      simp only [List.mem_range, List.mem_map]
      constructor
      · intro ha; exact ⟨l.length - a, by omega, by omega⟩
      · rintro ⟨k, hk, rfl⟩; omega
  have hrow : ((List.range (l.length + 1)).map (rowP l at_)).Perm (List.range (l.length + 1)) := by
    have hnd : ((List.range (l.length + 1)).map (rowP l at_)).Nodup := by
      rw [List.Nodup, List.pairwise_map]
      refine List.Pairwise.imp_of_mem ?_ List.nodup_range
      intro a b ha hb hne e
      simp at ha hb
      exact hne (h.row_inj a b (by omega) (by omega) e)
    refine (List.perm_ext_iff_of_nodup hnd List.nodup_range).2 ?_
    have hsub : (List.range (l.length + 1)).map (rowP l at_) ⊆ List.range (l.length + 1) := by
      intro x hx
      obtain ⟨k, hk, rfl⟩ := List.mem_map.1 hx
      simp at hk ⊢
      have := h.row_le k (by omega)
      omega
    have hfull := full_of_len hnd List.nodup_range hsub (by simp)
    exact fun a => ⟨fun x => hsub x, fun x => hfull x⟩
  rw [hrev.countP_eq, List.countP_map]
  have e1 : (List.range (l.length + 1)).countP ((fun a => lexlt ((invP l at_).drop a) ((invP l at_).drop (l.length - j))) ∘ fun k => l.length - k) = (List.range (l.length + 1)).countP ((fun x => decide (x < rowP l at_ j)) ∘ rowP l at_) := by
    apply List.countP_congr
    intro k hk
    simp only [List.mem_range] at hk
    simp only [Function.comp_apply, decide_eq_true_eq]
    constructor
    · intro e
      rcases Nat.lt_trichotomy (rowP l at_ k) (rowP l at_ j) with q | q | q
      · exact q
      · rw [h.row_inj k j (by omega) hj q, lexlt_irrefl] at e; cases e
      · have := h.order j k hj (by omega) q
        rw [lexlt_asymm _ _ this] at e
        cases e
    · exact h.order k j (by omega) hj
  rw [e1, ← List.countP_map, hrow.countP_eq]
  have : ∀ n m, m ≤ n → (List.range n).countP (fun x => decide (x < m)) = m := by
    intro n
    induction n with
    | zero => intro m hm; simp; omega
    | succ n ih =>
      intro m hm
      rw [List.range_succ, List.countP_append, List.countP_cons, List.countP_nil]
      by_cases c : m ≤ n
      · rw [ih m c]; simp; omega
      · have : m = n + 1 := by omega
        subst this
        have h1 : (List.range n).countP (fun x => decide (x < n + 1)) = n := by
          rw [List.countP_eq_length.2]
          · simp
          · intro a ha; simp at ha ⊢; omega
        rw [h1]
        simp
  exact this _ _ (by have := h.row_le j hj; omega)
theorem GoodB.fwd (h : GoodB l at_) {A : List Nat} (hA : IsSA1 (invP l at_) A) : fwdN (invP l at_) A = l ∧ A.idxOf 0 = at_ := by
  have h0 : A.idxOf 0 = at_ := by have := h.idx hA (Nat.le_refl _); rw [Nat.sub_self] at this; rw [this]; exact h.2.2
  refine ⟨?_, h0⟩
  have hl : (fwdN (invP l at_) A).length = l.length := by rw [fwdN_length hA, invP_length]
  apply List.ext_getElem?
  intro i
  by_cases hi : i < l.length
  · rw [ch_some _ i (by omega), ch_some l i hi]
    congr 1
    -- the row of that place
    obtain ⟨r, hr, hne, rfl⟩ : ∃ r, r ≤ l.length ∧ r ≠ at_ ∧ idxR at_ r = i := by
      by_cases c : i < at_
      · exact ⟨i, by omega, by omega, by unfold idxR; rw [if_neg (by omega)]⟩
      · exact ⟨i + 1, by omega, by omega, by unfold idxR; rw [if_pos (by omega)]; rfl⟩
    have hAl := hA.len
    rw [invP_length] at hAl
    have hg : A[r]? = some (ch A r) := ch_some A r (by omega)
    have hx : ch A r ≤ l.length := by have := hA.perm.subset (List.mem_of_getElem? hg); rw [invP_length] at this; simp at this; omega
    have hidx := hA.idx_get hg
    have hj := h.idx hA (j := l.length - ch A r) (by omega)
    rw [show l.length - (l.length - ch A r) = ch A r from by omega, hidx] at hj
    have hnz : ch A r ≠ 0 := by
      intro e
      rw [e, Nat.sub_zero, h.2.2] at hj
      exact hne hj
    have h1 := fwdN_at hA hg hnz
    rw [h0] at h1
    rw [h1]
    have h2 := invP_drop (l := l) (at_ := at_) (j := l.length - ch A r) (by omega)
    rw [drop_ch _ _ (by rw [invP_length]; omega)] at h2
    have h3 := (List.cons.inj h2).1
    rw [show l.length - (l.length - ch A r + 1) = ch A r - 1 from by omega, ← hj] at h3
    exact h3
  · rw [List.getElem?_eq_none (by omega), List.getElem?_eq_none (by omega)]
end
end Go.Proofs.Ytdgpbgdpdmikaab
