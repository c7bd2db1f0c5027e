/-
  Texts joined: PureBwt, Bwt, BwtBack, BwtFor, ZerosRun, Codes, CodesB, BitsR, CodesW.
-/
import Derived.Test.YthgbkncanoknkaaSg6
import Derived.Test.YthgbkncanoknkaaSg4
import Derived.Test.YthgbkncanoknkaaSg1
import Derived.Test.YthgbkncanoknkaaSg2
/-
  The block-sorting transform, plain: rows, the way from a row to the next longer one, there and back.
-/
set_option linter.unusedVariables false
set_option linter.unusedSimpArgs false
namespace Go.Proofs.Ythgbkncanoknkaa
/-- The order with the empty suffix ahead. -/
structure IsSA1 (s : List Nat) (A : List Nat) : Prop where
  perm : A.Perm (List.range (s.length + 1))
  sorted : A.Pairwise fun u v => lexlt (s.drop u) (s.drop v) = true
theorem IsSA.one {s T : List Nat} (h : IsSA s T) : IsSA1 s (s.length :: T) := by
  constructor
  · rw [List.range_succ]
    exact (h.perm.cons _).trans (List.perm_append_comm (l₁ := [s.length]) (l₂ := List.range s.length))
  · rw [List.pairwise_cons]
    refine ⟨fun a ha => ?_, h.sorted⟩
    have ha' : a < s.length := by have := h.perm.subset ha; simpa using this
    rw [List.drop_length, drop_ch s a ha']
    rfl
/-- What stands ahead of each row's suffix, but of the whole. -/
def fwdN (s A : List Nat) : List Nat := (A.filter fun p => decide (p ≠ 0)).map fun p => ch s (p - 1)
def idxR (at_ r : Nat) : Nat := if at_ < r then r - 1 else r
def toP (l : List Nat) (at_ r : Nat) : Nat := 1 + l.countP (fun x => decide (x < ch l (idxR at_ r))) + (l.take (idxR at_ r)).count (ch l (idxR at_ r))
def rowP (l : List Nat) (at_ : Nat) : Nat → Nat
  | 0 => 0
  | j + 1 => toP l at_ (rowP l at_ j)
def GoodB (l : List Nat) (at_ : Nat) : Prop := at_ ≤ l.length ∧ (∀ j, j < l.length → rowP l at_ j ≠ at_) ∧ rowP l at_ l.length = at_
def invP (l : List Nat) (at_ : Nat) : List Nat := (List.range l.length).map fun i => ch l (idxR at_ (rowP l at_ (l.length - 1 - i)))
theorem invP_length (l : List Nat) (at_ : Nat) : (invP l at_).length = l.length := by simp [invP]
theorem ch_take (l : List Nat) {i k : Nat} (h : i < k) : ch (l.take k) i = ch l i := by
  unfold ch
  rw [List.getD_eq_getElem?_getD, List.getD_eq_getElem?_getD, List.getElem?_take, if_pos h]
theorem take_succ_ch (l : List Nat) (k : Nat) (h : k < l.length) : l.take (k + 1) = l.take k ++ [ch l k] := by
  rw [List.take_add_one, ch_some l k h]
  rfl
theorem count_take_le (l : List Nat) (c : Nat) {i j : Nat} (h : i ≤ j) : (l.take i).count c ≤ (l.take j).count c := by
  have : l.take i = (l.take j).take i := by rw [List.take_take, Nat.min_eq_left h]
  rw [this]
  exact (List.take_sublist i _).count_le c
theorem count_take_ltB (l : List Nat) {i j : Nat} (h : i < j) (hj : j ≤ l.length) : (l.take i).count (ch l i) < (l.take j).count (ch l i) := by
  have h1 := count_take_le l (ch l i) (show i + 1 ≤ j from h)
  rw [take_succ_ch l i (by omega), List.count_append] at h1
  simp at h1
  omega
theorem count_less_le (l : List Nat) : ∀ {c d : Nat}, c < d → l.countP (fun x => decide (x < c)) + l.count c ≤ l.countP (fun x => decide (x < d)) := by
  intro c d h
  induction l with
  | nil => simp
  | cons x l ih =>
    rw [List.countP_cons, List.countP_cons, List.count_cons]
    by_cases h1 : x < c
    · have : ¬ x = c := by omega
      have : x < d := by omega
      simp [*] at *
      omega
    · by_cases h2 : x = c
      · subst h2
        simp [*] at *
        omega
      · have h3 : (if decide (x < c) = true then 1 else 0) = 0 := by simp [h1]
        have h4 : (if (x == c) = true then 1 else 0) = 0 := by simp [h2]
        rw [h3, h4]
        omega
theorem idxR_lt {l : List Nat} {at_ r : Nat} (hr : r ≤ l.length) (ha : at_ ≤ l.length) (hne : r ≠ at_) : idxR at_ r < l.length := by unfold idxR; split <;> omega
theorem idxR_inj {at_ r r' : Nat} (h : r ≠ at_) (h' : r' ≠ at_) : idxR at_ r < idxR at_ r' ↔ r < r' := by unfold idxR; split <;> split <;> omega
theorem toP_lt {l : List Nat} {at_ r r' : Nat} (ha : at_ ≤ l.length) (hr : r ≤ l.length) (hr' : r' ≤ l.length) (hne : r ≠ at_) (hne' : r' ≠ at_)
    (h : ch l (idxR at_ r) < ch l (idxR at_ r') ∨ ch l (idxR at_ r) = ch l (idxR at_ r') ∧ r < r') : toP l at_ r < toP l at_ r' := by
  unfold toP
  have hk := idxR_lt hr ha hne
  have hk' := idxR_lt hr' ha hne'
  rcases h with h | ⟨h, hlt⟩
  · have h1 := count_less_le l h
    have h2 := count_take_ltB l hk (Nat.le_refl _)
    rw [List.take_length] at h2
    omega
  · have h2 := count_take_ltB l ((idxR_inj hne hne').2 hlt) (by omega)
    rw [← h]
    omega
theorem toP_order {l : List Nat} {at_ r r' : Nat} (ha : at_ ≤ l.length) (hr : r ≤ l.length) (hr' : r' ≤ l.length) (hne : r ≠ at_) (hne' : r' ≠ at_) (h : toP l at_ r < toP l at_ r') :
    ch l (idxR at_ r) < ch l (idxR at_ r') ∨ ch l (idxR at_ r) = ch l (idxR at_ r') ∧ r < r' := by
  rcases Nat.lt_trichotomy (ch l (idxR at_ r)) (ch l (idxR at_ r')) with e | e | e
  · exact .inl e
  · refine .inr ⟨e, ?_⟩
    rcases Nat.lt_trichotomy r r' with q | q | q
    · exact q
    · subst q; omega
    · have := toP_lt ha hr' hr hne' hne (.inr ⟨e.symm, q⟩)
      omega
  · have := toP_lt ha hr' hr hne' hne (.inl e)
    omega
theorem toP_inj {l : List Nat} {at_ r r' : Nat} (ha : at_ ≤ l.length) (hr : r ≤ l.length) (hr' : r' ≤ l.length) (hne : r ≠ at_) (hne' : r' ≠ at_) (h : toP l at_ r = toP l at_ r') : r = r' := by
  rcases Nat.lt_trichotomy r r' with q | q | q
  · exfalso
    rcases Nat.lt_trichotomy (ch l (idxR at_ r)) (ch l (idxR at_ r')) with e | e | e
    · have := toP_lt ha hr hr' hne hne' (.inl e); omega
    · have := toP_lt ha hr hr' hne hne' (.inr ⟨e, q⟩); omega
    · have := toP_lt ha hr' hr hne' hne (.inl e); omega
  · exact q
  · exfalso
    rcases Nat.lt_trichotomy (ch l (idxR at_ r)) (ch l (idxR at_ r')) with e | e | e
    · have := toP_lt ha hr hr' hne hne' (.inl e); omega
    · have := toP_lt ha hr' hr hne' hne (.inr ⟨e.symm, q⟩); omega
    · have := toP_lt ha hr' hr hne' hne (.inl e); omega
theorem toP_le {l : List Nat} {at_ r : Nat} (ha : at_ ≤ l.length) (hr : r ≤ l.length) (hne : r ≠ at_) : toP l at_ r ≤ l.length := by
  unfold toP
  have hk := idxR_lt hr ha hne
  have h1 := count_less_le l (show ch l (idxR at_ r) < ch l (idxR at_ r) + 1 from Nat.lt_succ_self _)
  have h2 := count_take_ltB l hk (Nat.le_refl _)
  rw [List.take_length] at h2
  have h3 : l.countP (fun x => decide (x < ch l (idxR at_ r) + 1)) ≤ l.length := List.countP_le_length
  omega
/-! The rank of a suffix, by counting -/
theorem idx_count {A : List Nat} {R : Nat → Nat → Prop} [∀ a b, Decidable (R a b)] (hs : A.Pairwise R) (hirr : ∀ a, ¬ R a a) (hasym : ∀ a b, R a b → ¬ R b a) {q : Nat} (hq : q ∈ A) : A.idxOf q = A.countP fun a => decide (R a q) := by
  induction A with
  | nil => cases hq
  | cons x A ih =>
    rw [List.pairwise_cons] at hs
    rw [List.idxOf_cons, List.countP_cons]
    by_cases e : x = q
    · subst e
      have : A.countP (fun a => decide (R a x)) = 0 := by
        rw [List.countP_eq_zero]
        intro a ha
        simp [hasym _ _ (hs.1 a ha)]
      simp [this, hirr]
    · have hq' : q ∈ A := by
        rcases List.mem_cons.1 hq with h | h
        · exact absurd h.symm e
        · exact h
      have e' : (x == q) = false := by simp [e]
      rw [e', ih hs.2 hq']
      simp [hs.1 q hq']
theorem IsSA1.idx {s A : List Nat} (h : IsSA1 s A) {q : Nat} (hq : q ≤ s.length) : A.idxOf q = (List.range (s.length + 1)).countP fun a => lexlt (s.drop a) (s.drop q) := by
  have hm : q ∈ A := h.perm.symm.subset (by simp; omega)
  rw [idx_count (R := fun a b => lexlt (s.drop a) (s.drop b) = true) h.sorted (fun a => by simp [lexlt_irrefl]) (fun a b h1 => by simp [lexlt_asymm _ _ h1]) hm]
  rw [h.perm.countP_eq]
  congr 1
  funext a
  simp
theorem IsSA1.nd {s A : List Nat} (h : IsSA1 s A) : A.Nodup := (List.Perm.nodup_iff h.perm).2 List.nodup_range
theorem IsSA1.len {s A : List Nat} (h : IsSA1 s A) : A.length = s.length + 1 := by have := h.perm.length_eq; simpa using this
theorem IsSA1.idx_lt {s A : List Nat} (h : IsSA1 s A) {q : Nat} (hq : q ≤ s.length) : A.idxOf q < s.length + 1 := by
  rw [← h.len]
  exact List.idxOf_lt_length_of_mem (h.perm.symm.subset (by simp; omega))
theorem IsSA1.get_idx {s A : List Nat} (h : IsSA1 s A) {q : Nat} (hq : q ≤ s.length) : A[A.idxOf q]? = some q := by
  have hl : A.idxOf q < A.length := by rw [h.len]; exact h.idx_lt hq
  rw [List.getElem?_eq_getElem hl, List.getElem_idxOf]
theorem IsSA1.idx_get {s A : List Nat} (h : IsSA1 s A) {r q : Nat} (hr : A[r]? = some q) : A.idxOf q = r := by
  have hq : q ≤ s.length := by have := h.perm.subset (List.mem_of_getElem? hr); simp at this; omega
  have h1 := h.get_idx hq
  exact nodup_at h.nd h1 hr
theorem IsSA1.take_idx {s A : List Nat} (h : IsSA1 s A) {q : Nat} (hq : q ≤ s.length) : A.take (A.idxOf q) = A.filter fun a => lexlt (s.drop a) (s.drop q) := by
  have hg := h.get_idx hq
  have hl : A.idxOf q < A.length := by rw [h.len]; exact h.idx_lt hq
  have e : A = A.take (A.idxOf q) ++ q :: A.drop (A.idxOf q + 1) := by
    have := List.take_append_drop (A.idxOf q) A
    rw [List.drop_eq_getElem_cons hl, List.getElem_idxOf] at this
    exact this.symm
  have hs := h.sorted
  rw [e, List.pairwise_append, List.pairwise_cons] at hs
  have e2 := congrArg (List.filter fun a => lexlt (s.drop a) (s.drop q)) e
  rw [List.filter_append, List.filter_cons, if_neg (by simp [lexlt_irrefl])] at e2
  rw [e2]
  have h1 : (A.take (A.idxOf q)).filter (fun a => lexlt (s.drop a) (s.drop q)) = A.take (A.idxOf q) := by
    rw [List.filter_eq_self]
    intro a ha
    exact hs.2.2 a ha q (List.mem_cons_self ..)
  have h2 : (A.drop (A.idxOf q + 1)).filter (fun a => lexlt (s.drop a) (s.drop q)) = [] := by
    rw [List.filter_eq_nil_iff]
    intro a ha
    simp [lexlt_asymm _ _ (hs.2.1.1 a ha)]
  rw [h1, h2, List.append_nil]
theorem range_tail (n : Nat) : (List.range (n + 1)).filter (fun p => decide (p ≠ 0)) = (List.range n).map (· + 1) := by
  rw [List.range_succ_eq_map, List.filter_cons, if_neg (by simp), List.filter_map, List.filter_eq_self.2]
  intro a _
  simp
theorem map_ch (s : List Nat) : (List.range s.length).map (ch s) = s := by
  apply List.ext_getElem?
  intro i
  by_cases hi : i < s.length
  · rw [List.getElem?_map, List.getElem?_range hi, ch_some s i hi]; rfl
  · rw [List.getElem?_eq_none (by simpa using hi), List.getElem?_eq_none (by omega)]
/-- The same bytes, in another order. -/
theorem fwdN_perm {s A : List Nat} (h : IsSA1 s A) : (fwdN s A).Perm s := by
  unfold fwdN
  refine ((h.perm.filter _).map _).trans ?_
  rw [range_tail, List.map_map]
  have : (fun p => ch s (p - 1)) ∘ (fun x : Nat => x + 1) = ch s := by funext a; simp
  rw [this, map_ch]
theorem fwdN_length {s A : List Nat} (h : IsSA1 s A) : (fwdN s A).length = s.length := (fwdN_perm h).length_eq
theorem filter_swap {α : Type} (p q : α → Bool) (A : List α) : (A.filter fun a => p a && q a) = A.filter fun a => q a && p a := by
  congr 1
  funext a
  exact Bool.and_comm _ _
theorem filter_take {α : Type} (p : α → Bool) (A : List α) (r : Nat) : (A.filter p).take ((A.take r).filter p).length = (A.take r).filter p := by
  have : A.filter p = (A.take r).filter p ++ (A.drop r).filter p := by rw [← List.filter_append, List.take_append_drop]
  rw [this, List.take_left]
theorem filter_ne_length {A : List Nat} (hA : A.Nodup) (r : Nat) (hr : r ≤ A.length) (h0 : 0 ∈ A) : ((A.take r).filter fun p => decide (p ≠ 0)).length = idxR (A.idxOf 0) r := by
  have h1 : ∀ l : List Nat, (l.filter fun p => decide (p ≠ 0)).length + l.count 0 = l.length := by
    intro l
    induction l with
    | nil => rfl
    | cons x l ih =>
      rw [List.filter_cons, List.count_cons, List.length_cons, ← ih]
      by_cases e : x = 0
      · subst e; simp; omega
      · have e2 : (x == 0) = false := by simpa using e
        rw [if_pos (by simpa using e), e2, List.length_cons]
        simp
        omega
  have h2 := h1 (A.take r)
  rw [List.length_take, Nat.min_eq_left hr] at h2
  have hnd : (A.take r).Nodup := hA.sublist (List.take_sublist _ _)
  unfold idxR
  have hi : A.idxOf 0 < A.length := List.idxOf_lt_length_of_mem h0
  have hg : A[A.idxOf 0]? = some 0 := by rw [List.getElem?_eq_getElem hi, List.getElem_idxOf]
  by_cases c : A.idxOf 0 < r
  · rw [if_pos c]
    have hm : 0 ∈ A.take r := List.mem_of_getElem? (i := A.idxOf 0) (by rw [List.getElem?_take, if_pos c]; exact hg)
    have : (A.take r).count 0 = 1 := by rw [hnd.count, if_pos hm]
    omega
  · rw [if_neg c]
    have hm : 0 ∉ A.take r := by
      intro hm
      obtain ⟨k, hk⟩ := List.mem_iff_getElem?.1 hm
      rw [List.getElem?_take] at hk
      split at hk
      · have := nodup_at hA hk hg
        omega
      · cases hk
    have := List.count_eq_zero.2 hm
    omega
theorem fwdN_take {s A : List Nat} (h : IsSA1 s A) (r : Nat) (hr : r ≤ A.length) : (fwdN s A).take (idxR (A.idxOf 0) r) = ((A.take r).filter fun p => decide (p ≠ 0)).map fun p => ch s (p - 1) := by
  have h0 : 0 ∈ A := h.perm.symm.subset (by simp)
  unfold fwdN
  rw [← List.map_take, ← filter_ne_length h.nd r hr h0, filter_take]
theorem fwdN_at {s A : List Nat} (h : IsSA1 s A) {r p : Nat} (hr : A[r]? = some p) (hp : p ≠ 0) : ch (fwdN s A) (idxR (A.idxOf 0) r) = ch s (p - 1) := by
  have hl : r < A.length := (List.getElem?_eq_some_iff.1 hr).1
  have h0 : 0 ∈ A := h.perm.symm.subset (by simp)
  have h1 := fwdN_take h (r + 1) hl
  have e : A.take (r + 1) = A.take r ++ [p] := by rw [List.take_add_one, hr]; rfl
  have hne : r ≠ A.idxOf 0 := by
    intro e
    have hg : A[A.idxOf 0]? = some 0 := h.get_idx (Nat.zero_le _)
    rw [← e, hr] at hg
    cases hg
    exact hp rfl
  have e2 : idxR (A.idxOf 0) (r + 1) = idxR (A.idxOf 0) r + 1 := by unfold idxR; split <;> split <;> omega
  rw [e, List.filter_append, List.map_append, ← fwdN_take h r (by omega), e2, List.filter_cons, if_pos (by simpa using hp)] at h1
  have hk : idxR (A.idxOf 0) r < (fwdN s A).length := by
    rw [fwdN_length h]
    have := h.len
    have := h.idx_lt (Nat.zero_le s.length)
    unfold idxR
    split <;> omega
  rw [take_succ_ch _ _ hk] at h1
  have := List.append_cancel_left h1
  simpa using this
theorem IsSA1.lf {s A : List Nat} (h : IsSA1 s A) {q : Nat} (hq : q < s.length) : toP (fwdN s A) (A.idxOf 0) (A.idxOf (q + 1)) = A.idxOf q := by
  have hg := h.get_idx (q := q + 1) hq
  unfold toP
  rw [fwdN_at h hg (by omega), Nat.add_sub_cancel, fwdN_take h _ (by rw [h.len]; exact Nat.le_of_lt (h.idx_lt hq)), (fwdN_perm h).countP_eq, h.take_idx (q := q + 1) hq, h.idx (Nat.le_of_lt hq)]
  have e1 : s.countP (fun x => decide (x < ch s q)) = (List.range s.length).countP fun a => decide (ch s a < ch s q) := by
    have := congrArg (List.countP fun x => decide (x < ch s q)) (map_ch s)
    rw [List.countP_map] at this
    exact this.symm
  have e2 : (((A.filter fun a => lexlt (s.drop a) (s.drop (q + 1))).filter fun p => decide (p ≠ 0)).map fun p => ch s (p - 1)).count (ch s q) = (List.range s.length).countP fun a => lexlt (s.drop (a + 1)) (s.drop (q + 1)) && (ch s a == ch s q) := by
    rw [((((h.perm.filter _).filter _).map _).count_eq (ch s q) : _), List.filter_filter, filter_swap, ← List.filter_filter, range_tail, List.filter_map, List.map_map, List.count_eq_countP, List.countP_map, List.countP_filter]
    congr 1
    funext a
    simp [Bool.and_comm]
  rw [e1, e2, List.range_succ, List.countP_append]
  have e3 : (List.range s.length).countP (fun a => lexlt (s.drop a) (s.drop q)) = (List.range s.length).countP (fun a => decide (ch s a < ch s q)) + (List.range s.length).countP (fun a => lexlt (s.drop (a + 1)) (s.drop (q + 1)) && (ch s a == ch s q)) := by
    have : ∀ l : List Nat, (∀ a ∈ l, a < s.length) → l.countP (fun a => lexlt (s.drop a) (s.drop q)) = l.countP (fun a => decide (ch s a < ch s q)) + l.countP (fun a => lexlt (s.drop (a + 1)) (s.drop (q + 1)) && (ch s a == ch s q)) := by
      intro l hl
      induction l with
      | nil => rfl
      | cons a l ih =>
        rw [List.countP_cons, List.countP_cons, List.countP_cons, ih fun x hx => hl x (List.mem_cons_of_mem _ hx)]
        have ha := hl a (List.mem_cons_self ..)
        rw [drop_ch s a ha, drop_ch s q hq]
        simp only [lexlt]
        by_cases c1 : ch s a < ch s q
        · have : ¬ ch s a = ch s q := by omega
          simp [c1, this]
          omega
        · by_cases c2 : ch s a = ch s q
          · simp [c1, c2]
            omega
          · simp [c1, c2]
    exact this _ fun a ha => by simpa using ha
  rw [e3]
  have e4 : [s.length].countP (fun a => lexlt (s.drop a) (s.drop q)) = 1 := by
    rw [List.countP_cons, List.countP_nil, List.drop_length, drop_ch s q hq]
    rfl
  rw [e4]
  omega
/-- There and back. -/
theorem fwd_row {s A : List Nat} (h : IsSA1 s A) : ∀ j, j ≤ s.length → rowP (fwdN s A) (A.idxOf 0) j = A.idxOf (s.length - j)
  | 0, _ => by
    rw [Nat.sub_zero, h.idx (Nat.le_refl _)]
    symm
    rw [rowP, List.countP_eq_zero]
    intro a _
    rw [List.drop_length, lexlt_nil]
    simp
  | j + 1, hj => by
    rw [rowP, fwd_row h j (by omega)]
    have := h.lf (q := s.length - (j + 1)) (by omega)
    rwa [show s.length - (j + 1) + 1 = s.length - j from by omega] at this
theorem fwd_good {s A : List Nat} (h : IsSA1 s A) : GoodB (fwdN s A) (A.idxOf 0) := by
  rw [GoodB, fwdN_length h]
  refine ⟨by have := h.idx_lt (Nat.zero_le s.length); omega, fun j hj e => ?_, ?_⟩
  · rw [fwd_row h j (by omega)] at e
    have h1 := h.get_idx (q := s.length - j) (by omega)
    rw [e, h.get_idx (Nat.zero_le _)] at h1
    simp only [Option.some.injEq] at h1
    omega
  · rw [fwd_row h _ (Nat.le_refl _), Nat.sub_self]
theorem fwd_back {s A : List Nat} (h : IsSA1 s A) : invP (fwdN s A) (A.idxOf 0) = s := by
  apply List.ext_getElem?
  intro i
  by_cases hi : i < s.length
  · unfold invP
    rw [List.getElem?_map, fwdN_length h, List.getElem?_range hi, ch_some s i hi, Option.map_some, fwd_row h _ (by omega)]
    have e : s.length - (s.length - 1 - i) = i + 1 := by omega
    rw [e, fwdN_at h (h.get_idx hi) (by omega)]
    rfl
  · rw [List.getElem?_eq_none (by rw [invP_length, fwdN_length h]; omega), List.getElem?_eq_none (by omega)]
section
variable {l : List Nat} {at_ : Nat}
theorem GoodB.row_le (h : GoodB l at_) : ∀ j, j ≤ l.length → rowP l at_ j ≤ l.length
  | 0, _ => Nat.zero_le _
  | j + 1, hj => toP_le h.1 (h.row_le j (by omega)) (h.2.1 j (by omega))
theorem GoodB.row_inj (h : GoodB l at_) : ∀ j k, j ≤ l.length → k ≤ l.length → rowP l at_ j = rowP l at_ k → j = k
  | 0, 0, _, _, _ => rfl
  | 0, k + 1, _, _, e => by rw [rowP, rowP, toP] at e; omega
  | j + 1, 0, _, _, e => by rw [rowP, rowP, toP] at e; omega
  | j + 1, k + 1, hj, hk, e => by
    rw [rowP, rowP] at e
    rw [h.row_inj j k (by omega) (by omega) (toP_inj h.1 (h.row_le j (by omega)) (h.row_le k (by omega)) (h.2.1 j (by omega)) (h.2.1 k (by omega)) e)]
theorem invP_drop {j : Nat} (h : j < l.length) : (invP l at_).drop (l.length - (j + 1)) = ch l (idxR at_ (rowP l at_ j)) :: (invP l at_).drop (l.length - j) := by
  rw [drop_ch _ _ (by rw [invP_length]; omega), show l.length - (j + 1) + 1 = l.length - j from by omega]
  congr 1
  unfold invP ch
  rw [List.getD_eq_getElem?_getD, List.getElem?_map, List.getElem?_range (by omega)]
  simp only [Option.map_some, Option.getD_some]
  rw [show l.length - 1 - (l.length - (j + 1)) = j from by omega]
theorem GoodB.order (h : GoodB l at_) : ∀ j k, j ≤ l.length → k ≤ l.length → rowP l at_ j < rowP l at_ k → lexlt ((invP l at_).drop (l.length - j)) ((invP l at_).drop (l.length - k)) = true
  | j, 0, _, _, e => by rw [rowP] at e; omega
  | 0, k + 1, _, hk, _ => by
    rw [invP_drop (by omega), Nat.sub_zero, List.drop_of_length_le (by rw [invP_length]; exact Nat.le_refl _)]
    rfl
  | j + 1, k + 1, hj, hk, e => by
    rw [rowP, rowP] at e
    rw [invP_drop (by omega), invP_drop (by omega), lexlt_cons]
    rcases toP_order h.1 (h.row_le j (by omega)) (h.row_le k (by omega)) (h.2.1 j (by omega)) (h.2.1 k (by omega)) e with q | ⟨q, q2⟩
    · exact .inl q
    · exact .inr ⟨q, h.order j k (by omega) (by omega) q2⟩
theorem GoodB.idx (h : GoodB l at_) {A : List Nat} (hA : IsSA1 (invP l at_) A) {j : Nat} (hj : j ≤ l.length) : A.idxOf (l.length - j) = rowP l at_ j := by
  rw [hA.idx (by rw [invP_length]; omega), invP_length]
  have hrev : (List.range (l.length + 1)).Perm ((List.range (l.length + 1)).map fun k => l.length - k) := by
    refine (List.perm_ext_iff_of_nodup List.nodup_range ?_).2 ?_
    · rw [List.Nodup, List.pairwise_map]
      refine List.Pairwise.imp_of_mem ?_ List.nodup_range
      intro a b ha hb hne
      simp at ha hb
      omega
    · intro a
      simp only [List.mem_range, List.mem_map]
      constructor
      · intro ha; exact ⟨l.length - a, by omega, by omega⟩
      · rintro ⟨k, hk, rfl⟩; omega
  have hrow : ((List.range (l.length + 1)).map (rowP l at_)).Perm (List.range (l.length + 1)) := by
    have hnd : ((List.range (l.length + 1)).map (rowP l at_)).Nodup := by
      rw [List.Nodup, List.pairwise_map]
      refine List.Pairwise.imp_of_mem ?_ List.nodup_range
      intro a b ha hb hne e
      simp at ha hb
      exact hne (h.row_inj a b (by omega) (by omega) e)
    refine (List.perm_ext_iff_of_nodup hnd List.nodup_range).2 ?_
    have hsub : (List.range (l.length + 1)).map (rowP l at_) ⊆ List.range (l.length + 1) := by
      intro x hx
      obtain ⟨k, hk, rfl⟩ := List.mem_map.1 hx
      simp at hk ⊢
      have := h.row_le k (by omega)
      omega
    have hfull := full_of_len hnd List.nodup_range hsub (by simp)
    exact fun a => ⟨fun x => hsub x, fun x => hfull x⟩
  rw [hrev.countP_eq, List.countP_map]
  have e1 : (List.range (l.length + 1)).countP ((fun a => lexlt ((invP l at_).drop a) ((invP l at_).drop (l.length - j))) ∘ fun k => l.length - k) = (List.range (l.length + 1)).countP ((fun x => decide (x < rowP l at_ j)) ∘ rowP l at_) := by
    apply List.countP_congr
    intro k hk
    simp only [List.mem_range] at hk
    simp only [Function.comp_apply, decide_eq_true_eq]
    constructor
    · intro e
      rcases Nat.lt_trichotomy (rowP l at_ k) (rowP l at_ j) with q | q | q
      · exact q
      · rw [h.row_inj k j (by omega) hj q, lexlt_irrefl] at e; cases e
      · have := h.order j k hj (by omega) q
        rw [lexlt_asymm _ _ this] at e
        cases e
    · exact h.order k j (by omega) hj
  rw [e1, ← List.countP_map, hrow.countP_eq]
  have : ∀ n m, m ≤ n → (List.range n).countP (fun x => decide (x < m)) = m := by
    intro n
    induction n with
    | zero => intro m hm; simp; omega
    | succ n ih =>
      intro m hm
      rw [List.range_succ, List.countP_append, List.countP_cons, List.countP_nil]
      by_cases c : m ≤ n
      · rw [ih m c]; simp; omega
      · have : m = n + 1 := by omega
        subst this
        have h1 : (List.range n).countP (fun x => decide (x < n + 1)) = n := by
          rw [List.countP_eq_length.2]
          · simp
          · intro a ha; simp at ha ⊢; omega
        rw [h1]
        simp
  exact this _ _ (by have := h.row_le j hj; omega)
theorem GoodB.fwd (h : GoodB l at_) {A : List Nat} (hA : IsSA1 (invP l at_) A) : fwdN (invP l at_) A = l ∧ A.idxOf 0 = at_ := by
  have h0 : A.idxOf 0 = at_ := by have := h.idx hA (Nat.le_refl _); rw [Nat.sub_self] at this; rw [this]; exact h.2.2
  refine ⟨?_, h0⟩
  have hl : (fwdN (invP l at_) A).length = l.length := by rw [fwdN_length hA, invP_length]
  apply List.ext_getElem?
  intro i
  by_cases hi : i < l.length
  · rw [ch_some _ i (by omega), ch_some l i hi]
    congr 1
    -- the row of that place
    obtain ⟨r, hr, hne, rfl⟩ : ∃ r, r ≤ l.length ∧ r ≠ at_ ∧ idxR at_ r = i := by
      by_cases c : i < at_
      · exact ⟨i, by omega, by omega, by unfold idxR; rw [if_neg (by omega)]⟩
      · exact ⟨i + 1, by omega, by omega, by unfold idxR; rw [if_pos (by omega)]; rfl⟩
    have hAl := hA.len
    rw [invP_length] at hAl
    have hg : A[r]? = some (ch A r) := ch_some A r (by omega)
    have hx : ch A r ≤ l.length := by have := hA.perm.subset (List.mem_of_getElem? hg); rw [invP_length] at this; simp at this; omega
    have hidx := hA.idx_get hg
    have hj := h.idx hA (j := l.length - ch A r) (by omega)
    rw [show l.length - (l.length - ch A r) = ch A r from by omega, hidx] at hj
    have hnz : ch A r ≠ 0 := by
      intro e
      rw [e, Nat.sub_zero, h.2.2] at hj
      exact hne hj
    have h1 := fwdN_at hA hg hnz
    rw [h0] at h1
    rw [h1]
    have h2 := invP_drop (l := l) (at_ := at_) (j := l.length - ch A r) (by omega)
    rw [drop_ch _ _ (by rw [invP_length]; omega)] at h2
    have h3 := (List.cons.inj h2).1
    rw [show l.length - (l.length - ch A r + 1) = ch A r - 1 from by omega, ← hj] at h3
    exact h3
  · rw [List.getElem?_eq_none (by omega), List.getElem?_eq_none (by omega)]
end
end Go.Proofs.Ythgbkncanoknkaa
/-
  Contracts of the package bwt: next.
-/
set_option linter.unusedVariables false
set_option linter.unusedSimpArgs false
namespace Go.Proofs.Ythgbkncanoknkaa
open Go.RowKit
set_option maxRecDepth 100000
theorem zero_arr {t : TypeId} {v : Value} (h : (Try.prog.info? t).bind (·.zero) = some v) (w : World) : (zeroValue t).run Try.prog w = .ok v w := by
  cases hi : Try.prog.info? t with
  | none => rw [hi] at h; cases h
  | some i =>
    rw [hi] at h
    simp only [Option.bind_some] at h
    unfold zeroValue typeInfo
    simp [hi, h]
@[go_sem] theorem zero257 (w : World) : (zeroValue 152).run Try.prog w = .ok (.agg (arrN 257 fun _ => 0)) w := zero_arr (by kernel_rfl) w
theorem countP_bound (p : Nat → Bool) (l : List Nat) (n : Nat) (h : l.length ≤ n) : l.countP p ≤ n := Nat.le_trans List.countP_le_length h
theorem count_bound (x : Nat) (l : List Nat) (n : Nat) (h : l.length ≤ n) : l.count x ≤ n := Nat.le_trans List.count_le_length h
/-- The counts, place by place. -/
def nx1 (s : List Nat) (k : Nat) : Int := (s.countP fun x => x + 1 == k : Nat)
def nx2 (s : List Nat) (c k : Nat) : Int := if k ≤ c then (s.countP (fun x => decide (x < k)) : Nat) else nx1 s k
def nx3 (s : List Nat) (j k : Nat) : Int := ((s.countP (fun x => decide (x < k)) + (s.take j).count k : Nat) : Int)
theorem nx1_step (s : List Nat) (i : Nat) (h : i < s.length) : (fun j => if j = ch s i + 1 then nx1 (s.take i) (ch s i + 1) + 1 else nx1 (s.take i) j) = nx1 (s.take (i + 1)) := by
  funext j
  unfold nx1
  rw [take_succ_ch s i h, List.countP_append, List.countP_cons, List.countP_nil]
  by_cases e : j = ch s i + 1
  · subst e; simp
  · have : (ch s i + 1 == j) = false := by simp; omega
    rw [if_neg e, this]
    simp
theorem nx2_zero (s : List Nat) : nx2 s 0 = nx1 s := by
  funext k
  unfold nx2
  split
  · have : k = 0 := by omega
    subst this
    unfold nx1
    simp
  · rfl
theorem countP_succ (s : List Nat) (c : Nat) : s.countP (fun x => decide (x < c + 1)) = (s.countP fun x => x + 1 == c + 1) + s.countP (fun x => decide (x < c)) := by
  induction s with
  | nil => rfl
  | cons x s ih =>
    rw [List.countP_cons, List.countP_cons, List.countP_cons, ih]
    by_cases h1 : x < c
    · have h2 : ¬ x = c := by omega
      have h3 : x < c + 1 := by omega
      simp [h1, h2, h3]
      omega
    · by_cases h2 : x = c
      · subst h2; simp; omega
      · have h3 : ¬ x < c + 1 := by omega
        simp [h1, h2, h3]
theorem nx2_step (s : List Nat) (c : Nat) : (fun j => if j = c + 1 then nx2 s c (c + 1) + nx2 s c c else nx2 s c j) = nx2 s (c + 1) := by
  funext j
  unfold nx2
  by_cases e : j = c + 1
  · subst e
    rw [if_pos rfl, if_neg (by omega), if_pos (Nat.le_refl _), if_pos (Nat.le_refl _)]
    unfold nx1
    rw [countP_succ]
    omega
  · rw [if_neg e]
    by_cases h : j ≤ c
    · rw [if_pos h, if_pos (by omega)]
    · rw [if_neg h, if_neg (by omega)]
theorem nx3_zero (s : List Nat) (k : Nat) (hk : k ≤ 256) : nx2 s 256 k = nx3 s 0 k := by
  unfold nx2 nx3
  rw [if_pos hk]
  simp
theorem nx3_step (s : List Nat) (j : Nat) (h : j < s.length) : (fun k => if k = ch s j then nx3 s j (ch s j) + 1 else nx3 s j k) = nx3 s (j + 1) := by
  funext k
  unfold nx3
  rw [take_succ_ch s j h, List.count_append]
  by_cases e : k = ch s j
  · subst e; simp; omega
  · have : [ch s j].count k = 0 := by rw [List.count_eq_zero]; simpa using e
    rw [if_neg e, this]
    simp
theorem idxR_succ (at_ r : Nat) (h : r ≠ at_) : idxR at_ (r + 1) = idxR at_ r + 1 := by unfold idxR; split <;> split <;> omega
theorem idxR_same (at_ : Nat) : idxR at_ (at_ + 1) = idxR at_ at_ := by unfold idxR; split <;> split <;> omega
def NextOut (s : List Nat) (at_ n : Nat) (w : World) (e : Ending) (w' : World) : Prop :=
  ∃ v c, e = .returned v ∧ RowC 3 1 v (n + 1) (iv (mkI (fun r => if r = at_ then -1 else (toP s at_ r : Int)) (n + 1))) c ∧ St w.heap.size w w' [c]
set_option maxHeartbeats 4000000 in
theorem next_any (l : List UInt8) (v : Value) (at_ : Nat) (w : World) (hn : l.length ≤ 1000000) (ha : at_ ≤ l.length) (hb : Rd w 1 v l.length (bv l)) :
    Calls Try.prog 95 #[v, .int .i64 (at_ : Int)] w (NextOut (nb l) at_ l.length w) := by
  obtain ⟨i0, i0a, i0b, i0c, i0d⟩ := info_parts infoInt
  obtain ⟨ao, cap, rfl⟩ := hb.shape
  have hnl : (l.length : Int) ≤ 1000000 := by omega
  have hS := (St.init w).alloc (.cells (arrN 257 fun _ => 0) 152)
  have HB := Lib.hid hb
  have hat : ∀ wx, Below w.heap.size w wx → ∀ i, i < l.length → ∃ ad, ao = some ad ∧ wx.cell? (ad.add i) = some (.int .u8 (ch (nb l) i : Int)) := by
    intro wx hwx i hi
    have := (hb.keep hwx).at (bv_get l i _ (List.getElem?_eq_getElem hi))
    rw [nb_at l i _ (List.getElem?_eq_getElem hi)]
    exact this
  have HAT := Lib.hid hat
  have hle : ∀ i, ch (nb l) i ≤ 255 := by
    intro i
    rcases Nat.lt_or_ge i (nb l).length with q | q
    · exact nb_le l _ (ch_mem _ i q)
    · unfold ch; rw [List.getD_eq_getElem?_getD, List.getElem?_eq_none q]; simp
  have HLE := Lib.hid hle
  have hsl : (nb l).length = l.length := nb_length l
  generalize hs : nb l = s at *
  have HSL := Lib.hid hsl
  have hai : (at_ : Int) ≤ (l.length : Int) := by omega
  clear hb hat hle hsl hs
  go_enter Try.func95, Try.ntmps95
  go_wp2_with fail
  go_loopg [14] l.length (fun m s14 wr => ∃ i : Nat, i + m = l.length ∧ s14 = .int .i64 (i : Int) ∧ St w.heap.size w wr [[(w.heap.size, .cells (arrN 257 (nx1 (s.take i))) 152 (0, 0))]])
  case atStart => exact ⟨0, by omega, rfl, hS⟩
  case round =>
    clear hS
    obtain ⟨i, hi, rfl, hS⟩ := hrel
    cases gk with
    | succ m =>
      have hil : i < l.length := by omega
      have hii : (i : Int) < (l.length : Int) := by omega
      obtain ⟨ad, rfl, hc⟩ := HAT.out wr hS.below i hil
      have hx := HLE.out i
      have hxi : ((ch s i : Nat) : Int) + 1 < 257 := by omega
      have hld := hS.cell 0 rfl (List.mem_singleton.2 rfl) (ch s i + 1)
      rw [arrN_get _ _ _ (by omega)] at hld
      have hfr := hS.free 0 rfl (List.mem_singleton.2 rfl) (ch s i + 1)
      have hbd : nx1 (s.take i) (ch s i + 1) ≤ 1000000 := by
        unfold nx1
        have := countP_bound (fun x => x + 1 == ch s i + 1) (s.take i) 1000000 (by rw [List.length_take, HSL.out]; omega)
        omega
      have hb0 : 0 ≤ nx1 (s.take i) (ch s i + 1) := by unfold nx1; omega
      have HST := Lib.hid (hS.store 0 rfl (ch s i + 1) (.int .i64 (nx1 (s.take i) (ch s i + 1) + 1)))
      rw [arrN_set, nx1_step s i (by rw [HSL.out]; exact hil)] at HST
      generalize nx1 (s.take i) (ch s i + 1) = z at *
      go_wp2_with fail
      go_roundg m
      case measure => omega
      case rel => exact ⟨i + 1, by omega, by go_num, HST.out⟩
    | zero =>
      obtain rfl : i = l.length := by omega
      have hz : ¬ (l.length : Int) < (l.length : Int) := by omega
      rw [List.take_of_length_le (by rw [HSL.out]; exact Nat.le_refl _), ← nx2_zero] at hS
      clear hi
      go_wp2_with fail
      go_loopg [26] 256 (fun m s26 wr => ∃ c : Nat, c + m = 256 ∧ s26 = .int .i64 (c : Int) ∧ St w.heap.size w wr [[(w.heap.size, .cells (arrN 257 (nx2 s c)) 152 (0, 0))]])
      case atStart => exact ⟨0, by omega, rfl, hS⟩
      case round =>
        clear hS
        obtain ⟨c, hc, rfl, hS⟩ := hrel
        cases gk with
        | succ m =>
          have hci : (c : Int) < 256 := by omega
          have hb2 : ∀ k, 0 ≤ nx2 s c k ∧ nx2 s c k ≤ 1000000 := by
            intro k
            unfold nx2 nx1
            have := countP_bound (fun x => x + 1 == k) s 1000000 (by rw [HSL.out]; exact hn)
            have := countP_bound (fun x => decide (x < k)) s 1000000 (by rw [HSL.out]; exact hn)
            split <;> omega
          obtain ⟨b1, b2⟩ := hb2 c
          obtain ⟨b3, b4⟩ := hb2 (c + 1)
          have hl1 := hS.cell 0 rfl (List.mem_singleton.2 rfl) (c + 1)
          rw [arrN_get _ _ _ (by omega)] at hl1
          have hl2 := hS.cell 0 rfl (List.mem_singleton.2 rfl) c
          rw [arrN_get _ _ _ (by omega)] at hl2
          have hfr := hS.free 0 rfl (List.mem_singleton.2 rfl) (c + 1)
          have HST := Lib.hid (hS.drew.store 0 rfl (c + 1) (.int .i64 (nx2 s c (c + 1) + nx2 s c c)))
          rw [arrN_set, nx2_step s c] at HST
          generalize nx2 s c c = z at *
          generalize nx2 s c (c + 1) = y at *
          clear hb2
          go_wp2_with (first | ((with_reducible refine wpStill_plain ?_ ?_ (fun _ _ => ?_)); rfl; rfl) | (with_reducible refine wpStill_nil ?_) | ((with_reducible refine wp_draw_tail (id := 10) 9 mixed ?_ (fun _ hK => ?_)); kernel_rfl; simp only [List.take_succ_cons, List.take_zero, List.drop_succ_cons, List.drop_zero] at hK ⊢))
          go_roundg m
          case measure => omega
          case rel => exact ⟨c + 1, by omega, by go_num, HST.out⟩
        | zero =>
          obtain rfl : c = 256 := by omega
          have hz : ¬ (256 : Int) < 256 := by omega
          rw [arrN_congr (g := nx3 s (idxR at_ 0)) (fun k hk => by rw [nx3_zero s k (by omega)]; unfold idxR; rw [if_neg (Nat.not_lt_zero _)])] at hS
          clear hc
          go_wp2_with (at_make; (refine wpList_mk (n := (l.length + 1)) 80 i0 (.int .i64 0) _ _ rfl rfl _ _ _ _ rfl rfl Try.underlying80 i0a i0b i0c i0d rfl ?_ ?_ ?_ ?_ hS ?_); omega; omega; omega; (unfold maxLen; omega); intro g cl w1 hr hS1)
          have HQ : Hid (RowC 3 1 (.slice (some ⟨g, 0, none⟩) (l.length + 1) (l.length + 1)) (l.length + 1) (iv (mkI (fun q => if q < 0 then (if q = at_ then -1 else (toP s at_ q : Int)) else 0) (l.length + 1))) cl ∧ St w.heap.size w w1 [cl, [(w.heap.size, .cells (arrN 257 (nx3 s (idxR at_ 0))) 152 (0, 0))]]) := Lib.hid ⟨by
            rw [mkI_congr _ (fun _ => 0) _ (fun j _ => if_neg (by omega)), mkI_const, iv_replicate]
            exact hr, hS1⟩
          clear hr hS1 hS
          go_wp2_with fail
          go_loopg [45] (l.length + 1) (fun m s45 wr => ∃ r : Nat, r + m = l.length + 1 ∧ s45 = .int .i64 (r : Int) ∧ ∃ c, Hid (RowC 3 1 (.slice (some ⟨g, 0, none⟩) (l.length + 1) (l.length + 1)) (l.length + 1) (iv (mkI (fun q => if q < r then (if q = at_ then -1 else (toP s at_ q : Int)) else 0) (l.length + 1))) c ∧ St w.heap.size w wr [c, [(w.heap.size, .cells (arrN 257 (nx3 s (idxR at_ r))) 152 (0, 0))]]))
          case atStart => exact ⟨0, by omega, rfl, cl, HQ⟩
          case round =>
            clear HQ
            obtain ⟨r, hr0, rfl, c, HQ⟩ := hrel
            have hro := HQ.out.1
            have hS := HQ.out.2
            cases gk with
            | zero =>
              have hrl : r = l.length + 1 := by omega
              have hz : ¬ (r : Int) < (l.length : Int) + 1 := by omega
              rw [hrl, mkI_congr _ (fun q => if q = at_ then -1 else (toP s at_ q : Int)) _ (fun q hq => if_pos hq)] at hro
              have HE := Lib.hid (And.intro hro (hS.pick [0] (by decide) [c] rfl))
              clear hro hS hr0 hrl
              go_wp2_with fail
              go_ret
              exact ⟨_, c, rfl, HE.out⟩
            | succ m =>
              have hri : (r : Int) < (l.length : Int) + 1 := by omega
              have hlr := hro.cellAt hS 0 rfl (iv_get _ r _ (mkI_get _ _ r (by omega)))
              have hfr := hro.freeAt hS 0 rfl r
              rw [if_neg (Nat.lt_irrefl r)] at hlr
              have NEW : ∀ z : Int, (if r = at_ then -1 else (toP s at_ r : Int)) = z → (mkI (fun q => if q < r then (if q = at_ then -1 else (toP s at_ q : Int)) else 0) (l.length + 1)).set r z = mkI (fun q => if q < r + 1 then (if q = at_ then -1 else (toP s at_ q : Int)) else 0) (l.length + 1) := by
                intro z hz
                rw [mkI_set]
                refine mkI_congr _ _ _ fun q hq => ?_
                by_cases e : q = r
                · subst e; rw [if_pos rfl, if_pos (Nat.lt_succ_self _), hz]
                · rw [if_neg e]
                  by_cases h2 : q < r
                  · rw [if_pos h2, if_pos (show q < r + 1 by omega)]
                  · rw [if_neg h2, if_neg (show ¬ q < r + 1 by omega)]
              by_cases hra : r = at_
              · have HF : Hid (∃ c', RowC 3 1 (.slice (some ⟨g, 0, none⟩) (l.length + 1) (l.length + 1)) (l.length + 1) (iv (mkI (fun q => if q < r + 1 then (if q = at_ then -1 else (toP s at_ q : Int)) else 0) (l.length + 1))) c' ∧ St w.heap.size w (wr.setCell ⟨g, r, none⟩ (.int .i64 (-1))) [c', [(w.heap.size, .cells (arrN 257 (nx3 s (idxR at_ (r + 1)))) 152 (0, 0))]]) := Lib.hid (by
                  obtain ⟨c', h1, h2⟩ := hro.store hS 0 rfl rfl r (.int .i64 (-1))
                  rw [iv_set, NEW (-1) (if_pos hra)] at h1
                  refine ⟨c', h1, ?_⟩
                  rw [show idxR at_ (r + 1) = idxR at_ r from by rw [hra]; exact idxR_same at_]
                  exact h2)
                have q1 : ¬ at_ < r := by omega
                have q2 : ((r : Int) == (at_ : Int)) = true := by rw [hra]; simp
                clear NEW HQ hro hS hra
                go_wp2_with fail
                go_roundg m
                case measure => omega
                case rel =>
                  obtain ⟨c', hx⟩ := HF.out
                  exact ⟨r + 1, by omega, by go_num, c', Lib.hid hx⟩
              · have q2 : ((r : Int) == (at_ : Int)) = false := by simp; omega
                have hkl : idxR at_ r < l.length := by
                  have := idxR_lt (l := s) (at_ := at_) (r := r) (by rw [HSL.out]; omega) (by rw [HSL.out]; exact ha) hra
                  rwa [HSL.out] at this
                have hx := HLE.out (idxR at_ r)
                have hb3 : 0 ≤ nx3 s (idxR at_ r) (ch s (idxR at_ r)) ∧ nx3 s (idxR at_ r) (ch s (idxR at_ r)) ≤ 2000000 := by
                  unfold nx3
                  have := countP_bound (fun x => decide (x < ch s (idxR at_ r))) s 1000000 (by rw [HSL.out]; exact hn)
                  have := count_bound (ch s (idxR at_ r)) (s.take (idxR at_ r)) 1000000 (by rw [List.length_take, HSL.out]; omega)
                  omega
                obtain ⟨b1, b2⟩ := hb3
                have hld := hS.cell 1 rfl (List.mem_singleton.2 rfl) (ch s (idxR at_ r))
                rw [arrN_get _ _ _ (by omega)] at hld
                have hfa := hS.free 1 rfl (List.mem_singleton.2 rfl) (ch s (idxR at_ r))
                have htp : (if r = at_ then -1 else (toP s at_ r : Int)) = 1 + nx3 s (idxR at_ r) (ch s (idxR at_ r)) := by
                  rw [if_neg hra]
                  unfold toP nx3
                  omega
                have hne : ¬ g = w.heap.size ∧ ¬ w.heap.size = g := hro.apart hS 0 1 rfl rfl (by omega)
                have HF : Hid (∃ c', RowC 3 1 (.slice (some ⟨g, 0, none⟩) (l.length + 1) (l.length + 1)) (l.length + 1) (iv (mkI (fun q => if q < r + 1 then (if q = at_ then -1 else (toP s at_ q : Int)) else 0) (l.length + 1))) c' ∧ St w.heap.size w ((wr.setCell ⟨g, r, none⟩ (.int .i64 (1 + nx3 s (idxR at_ r) (ch s (idxR at_ r))))).setCell ⟨w.heap.size, ch s (idxR at_ r), none⟩ (.int .i64 (nx3 s (idxR at_ r) (ch s (idxR at_ r)) + 1))) [c', [(w.heap.size, .cells (arrN 257 (nx3 s (idxR at_ (r + 1)))) 152 (0, 0))]]) := Lib.hid (by
                  obtain ⟨c', h1, h2⟩ := hro.store hS 0 rfl rfl r (.int .i64 (1 + nx3 s (idxR at_ r) (ch s (idxR at_ r))))
                  rw [iv_set, NEW _ htp] at h1
                  refine ⟨c', h1, ?_⟩
                  have h3 := h2.store 1 rfl (ch s (idxR at_ r)) (.int .i64 (nx3 s (idxR at_ r) (ch s (idxR at_ r)) + 1))
                  rw [arrN_set, nx3_step s _ (by rw [HSL.out]; exact hkl), ← idxR_succ at_ r hra] at h3
                  exact h3)
                obtain ⟨c2, _, hS2⟩ := hro.store hS 0 rfl rfl r (.int .i64 (1 + nx3 s (idxR at_ r) (ch s (idxR at_ r))))
                obtain ⟨ad, rfl, hc⟩ := HAT.out wr hS.below (idxR at_ r) hkl
                obtain ⟨ad2, e2, hc2⟩ := HAT.out _ hS2.below (idxR at_ r) hkl
                cases e2
                have hid : (at_ < r ∧ idxR at_ r = r - 1) ∨ (¬ at_ < r ∧ idxR at_ r = r) := by unfold idxR; split <;> omega
                have hki : ((ch s (idxR at_ r) : Nat) : Int) < 257 := by omega
                clear NEW HQ hro hS hS2 hra htp
                generalize nx3 s (idxR at_ r) (ch s (idxR at_ r)) = z at *
                rcases hid with ⟨q1, q3⟩ | ⟨q1, q3⟩
                · rw [q3] at hc hc2 hld hfa hki hx HF
                  have hkl2 : (r : Int) - 1 < (l.length : Int) := by omega
                  clear q3 hkl
                  go_wp2_with fail
                  go_roundg m
                  case measure => omega
                  case rel =>
                    obtain ⟨c', hx⟩ := HF.out
                    exact ⟨r + 1, by omega, by go_num, c', Lib.hid hx⟩
                · rw [q3] at hc hc2 hld hfa hki hx HF
                  have hkl2 : (r : Int) < (l.length : Int) := by omega
                  clear q3 hkl
                  go_wp2_with fail
                  go_roundg m
                  case measure => omega
                  case rel =>
                    obtain ⟨c', hx⟩ := HF.out
                    exact ⟨r + 1, by omega, by go_num, c', Lib.hid hx⟩
end Go.Proofs.Ythgbkncanoknkaa
/-
  Contract of bwt.Back.
-/
set_option linter.unusedVariables false
set_option linter.unusedSimpArgs false
namespace Go.Proofs.Ythgbkncanoknkaa
open Go.RowKit
set_option maxRecDepth 100000
/-- Is the place a text's, with these bytes? -/
def goodI (s : List Nat) (a : Int) : Prop := 0 ≤ a ∧ GoodB s a.toNat
def BackOut (l : List UInt8) (a : Int) (w : World) (e : Ending) (w' : World) : Prop :=
  (goodI (nb l) a ∧ ∃ v c x, e = .returned (.tuple #[v, .int .i64 0]) ∧ RowC 5 1 v x.length (bv x) c ∧ nb x = invP (nb l) a.toNat ∧ St w.heap.size w w' [c]) ∨
  (¬ goodI (nb l) a ∧ e = .returned (.tuple #[.slice none 0 0, .int .i64 6]) ∧ St w.heap.size w w' [])
theorem row_le {s : List Nat} {at_ : Nat} (ha : at_ ≤ s.length) : ∀ j, (∀ i, i < j → rowP s at_ i ≠ at_) → rowP s at_ j ≤ s.length
  | 0, _ => Nat.zero_le _
  | j + 1, h => toP_le ha (row_le ha j fun i hi => h i (by omega)) (h j (by omega))
/-- Bytes by places. -/
def mkU (f : Nat → UInt8) (n : Nat) : List UInt8 := (List.range n).map f
theorem mkU_length (f : Nat → UInt8) (n : Nat) : (mkU f n).length = n := by simp [mkU]
theorem mkU_get (f : Nat → UInt8) (n i : Nat) (h : i < n) : (mkU f n)[i]? = some (f i) := by simp [mkU, h]
theorem mkU_set (f : Nat → UInt8) (n i : Nat) (v : UInt8) : (mkU f n).set i v = mkU (fun j => if j = i then v else f j) n := by
  apply List.ext_getElem?
  intro j
  rw [List.getElem?_set, mkU_length]
  by_cases hj : j < n
  · rw [mkU_get _ _ _ hj, mkU_get _ _ _ hj]
    by_cases e : i = j
    · subst e; simp [hj]
    · have e' : ¬ j = i := fun x => e x.symm
      simp [e, e']
  · rw [List.getElem?_eq_none (by rw [mkU_length]; omega), List.getElem?_eq_none (by rw [mkU_length]; omega)]
    by_cases e : i = j
    · subst e; simp [hj]
    · simp [e]
theorem mkU_congr (f g : Nat → UInt8) (n : Nat) (h : ∀ i, i < n → f i = g i) : mkU f n = mkU g n := by
  unfold mkU
  apply List.map_congr_left
  intro i hi
  exact h i (by simpa using hi)
theorem mkU_const (n : Nat) (v : UInt8) : mkU (fun _ => v) n = List.replicate n v := by
  unfold mkU
  rw [List.eq_replicate_iff]
  refine ⟨by simp, ?_⟩
  intro x hx
  obtain ⟨_, _, rfl⟩ := List.mem_map.1 hx
  rfl
theorem ch_nb (l : List UInt8) (i : Nat) : ch (nb l) i = (l.getD i 0).toNat := by
  unfold ch nb
  rw [List.getD_eq_getElem?_getD, List.getD_eq_getElem?_getD, List.getElem?_map]
  cases l[i]? <;> rfl
def invU (l : List UInt8) (at_ : Nat) (i : Nat) : UInt8 := l.getD (idxR at_ (rowP (nb l) at_ (l.length - 1 - i))) 0
theorem nb_invU (l : List UInt8) (at_ : Nat) : nb (mkU (invU l at_) l.length) = invP (nb l) at_ := by
  unfold invP nb mkU
  rw [List.map_map, List.length_map]
  apply List.map_congr_left
  intro i _
  have := ch_nb l (idxR at_ (rowP (nb l) at_ (l.length - 1 - i)))
  unfold nb at this
  rw [this]
  rfl
set_option maxHeartbeats 4000000 in
theorem back_any (l : List UInt8) (v : Value) (a : Int) (w : World) (hn : l.length ≤ 1000000) (hb : Rd w 1 v l.length (bv l)) :
    Calls Try.prog 86 #[v, .int .i64 a] w (BackOut l a w) := by
  obtain ⟨i0, i0a, i0b, i0c, i0d⟩ := info_parts infoU8
  obtain ⟨ao, cap, rfl⟩ := hb.shape
  have hnl : (l.length : Int) ≤ 1000000 := by omega
  have HB := Lib.hid hb
  have hS0 := St.init w
  clear hb
  by_cases h0 : l.length = 0
  · have hl0 : l = [] := List.eq_nil_of_length_eq_zero h0
    subst hl0
    by_cases ha : a = 0
    · subst ha
      go_enter Try.func86, Try.ntmps86
      go_wp2_with fail
      go_ret2
      exact .inl ⟨⟨Int.le_refl _, Nat.le_refl _, by intro j hj; simp [nb] at hj, rfl⟩, _, [], [], rfl, RowC.nil _ _, rfl, hS0.one_nil⟩
    · have hbad : ¬ goodI (nb []) a := by
        rintro ⟨h1, h2, _⟩
        simp [nb] at h2
        omega
      have ha1 : (a == 0) = false := by simpa using ha
      have HBAD := Lib.hid hbad
      clear hbad ha h0
      by_cases hlt : a < 1
      · go_enter Try.func86, Try.ntmps86
        go_wp2_with fail
        go_ret2
        exact .inr ⟨HBAD.out, rfl, hS0⟩
      · have hgt : 0 < a := by omega
        go_enter Try.func86, Try.ntmps86
        go_wp2_with fail
        go_ret2
        exact .inr ⟨HBAD.out, rfl, hS0⟩
  · have hl1 : ((l.length : Int) == 0) = false := by simp; exact fun e => h0 (by rw [e]; rfl)
    have hsl := nb_length l
    by_cases hlt : a < 1
    · have hbad : ¬ goodI (nb l) a := by
        rintro ⟨h1, h2, h3, _⟩
        exact h3 0 (by omega) (by rw [rowP]; omega)
      have HBAD := Lib.hid hbad
      clear hbad hsl h0
      go_enter Try.func86, Try.ntmps86
      go_wp2_with fail
      go_ret2
      exact .inr ⟨HBAD.out, rfl, hS0⟩
    · by_cases hgt : (l.length : Int) < a
      · have hbad : ¬ goodI (nb l) a := by
          rintro ⟨h1, h2, _⟩
          omega
        have HBAD := Lib.hid hbad
        clear hbad hsl h0
        go_enter Try.func86, Try.ntmps86
        go_wp2_with fail
        go_ret2
        exact .inr ⟨HBAD.out, rfl, hS0⟩
      · obtain ⟨at_, rfl⟩ : ∃ k : Nat, a = (k : Int) := ⟨a.toNat, by omega⟩
        have hal : at_ ≤ l.length := by omega
        have ha1 : 1 ≤ at_ := by omega
        go_enter Try.func86, Try.ntmps86
        go_wp2_with fail
        refine (next_any l _ at_ w hn hal HB.out).mono ?_
        rintro e w1 ⟨vt, cn, rfl, hrn, hS1⟩
        obtain ⟨aot, capt, rfl⟩ := hrn.shape
        obtain ⟨gt, rfl⟩ := hrn.head (by omega)
        have HN := Lib.hid hrn
        clear hrn
        go_wp2_with (at_make; (refine wpList_mk (n := l.length) 29 i0 (.int .u8 0) _ _ rfl rfl _ _ _ _ rfl rfl Try.underlying29 i0a i0b i0c i0d rfl ?_ ?_ ?_ ?_ hS1 ?_); omega; omega; omega; (unfold maxLen; omega); intro g cl w2 hr hS2)
        have HQ : Hid (RowC 5 1 (.slice (some ⟨g, 0, none⟩) l.length l.length) l.length (bv (mkU (fun i => if l.length ≤ i then invU l at_ i else 0) l.length)) cl ∧ St w.heap.size w w2 [cl, cn] ∧ ∀ j, j < l.length - l.length → rowP (nb l) at_ j ≠ at_) := Lib.hid ⟨by
          rw [mkU_congr _ (fun _ => 0) _ (fun j h => if_neg (by omega)), mkU_const]
          simpa [bv] using hr, hS2, fun j h => by omega⟩
        clear hr hS2 hS1 hS0 h0
        go_wp2_with fail
        go_loopg [8, 9] l.length (fun m s8 s9 wr => m ≤ l.length ∧ s9 = .int .i64 ((m : Int) - 1) ∧ ∃ row : Nat, Hid (row = rowP (nb l) at_ (l.length - m)) ∧ s8 = .int .i64 (row : Int) ∧ ∃ c, Hid (RowC 5 1 (.slice (some ⟨g, 0, none⟩) l.length l.length) l.length (bv (mkU (fun i => if m ≤ i then invU l at_ i else 0) l.length)) c ∧ St w.heap.size w wr [c, cn] ∧ ∀ j, j < l.length - m → rowP (nb l) at_ j ≠ at_))
        case atStart => exact ⟨Nat.le_refl _, rfl, 0, Lib.hid (by rw [Nat.sub_self]; rfl), rfl, cl, HQ⟩
        case round =>
          clear HQ
          obtain ⟨hm, rfl, row, HR, rfl, c, HQ⟩ := hrel
          have hS := HQ.out.2.1
          cases gk with
          | zero =>
            have hz : ¬ (0 : Int) ≤ ((0 : Nat) : Int) - 1 := by omega
            have hrow := HR.out
            rw [Nat.sub_zero] at hrow
            by_cases hra : row = at_
            · have hgood : goodI (nb l) (at_ : Int) := by
                refine ⟨by omega, ?_⟩
                rw [Int.toNat_natCast, GoodB, hsl]
                exact ⟨hal, fun j hj => HQ.out.2.2 j (by omega), by rw [← hrow]; exact hra⟩
              have HG := Lib.hid hgood
              have q1 : ((row : Int) != (at_ : Int)) = false := by rw [hra]; simp
              clear hgood hra hrow
              go_wp2_with fail
              go_ret2
              refine .inl ⟨HG.out, .slice (some ⟨g, 0, none⟩) l.length l.length, c, mkU (invU l at_) l.length, rfl, ?_, by rw [Int.toNat_natCast]; exact nb_invU l at_, hS.pick [0] (by decide) [c] rfl⟩
              have := HQ.out.1
              rw [mkU_congr _ (invU l at_) _ (fun i _ => if_pos (Nat.zero_le _))] at this
              rw [mkU_length]
              exact this
            · have hbad : ¬ goodI (nb l) (at_ : Int) := by
                rintro ⟨_, _, _, h3⟩
                rw [Int.toNat_natCast, hsl, ← hrow] at h3
                exact hra h3
              have HG := Lib.hid hbad
              have q1 : ((row : Int) != (at_ : Int)) = true := by simp; omega
              clear hbad hra hrow
              go_wp2_with fail
              go_ret2
              exact .inr ⟨HG.out, rfl, hS.pick [] (by simp) [] rfl⟩
          | succ m =>
            have e1 : ((m + 1 : Nat) : Int) - 1 = (m : Int) := by omega
            rw [e1]
            clear e1
            have hml : m < l.length := by omega
            have hm0 : (0 : Int) ≤ (m : Int) := by omega
            have hmi : (m : Int) < (l.length : Int) := by omega
            have hrow := HR.out
            have hrle : row ≤ l.length := by
              rw [hrow, ← hsl]
              refine row_le (by rw [hsl]; exact hal) _ (fun i hi => HQ.out.2.2 i ?_)
              rw [hsl] at hi
              omega
            by_cases hra : row = at_
            · have hbad : ¬ goodI (nb l) (at_ : Int) := by
                rintro ⟨_, _, h3, _⟩
                rw [Int.toNat_natCast, hsl] at h3
                exact h3 (l.length - (m + 1)) (by omega) (by rw [← hrow]; exact hra)
              have HG := Lib.hid hbad
              have q1 : ((row : Int) == (at_ : Int)) = true := by rw [hra]; simp
              clear hbad hra hrow
              go_wp2_with fail
              go_ret2
              exact .inr ⟨HG.out, rfl, hS.pick [] (by simp) [] rfl⟩
            · have q1 : ((row : Int) == (at_ : Int)) = false := by simp; omega
              have hkl : idxR at_ row < l.length := by
                have := idxR_lt (l := nb l) (at_ := at_) (r := row) (by rw [hsl]; exact hrle) (by rw [hsl]; exact hal) hra
                rwa [hsl] at this
              have hro := HQ.out.1
              have hfr := hro.freeAt hS 0 rfl m
              have hlr := hro.cellAt hS 0 rfl (bv_get _ m _ (mkU_get _ _ m hml))
              rw [if_neg (by omega)] at hlr
              obtain ⟨ad, rfl, hc⟩ := (HB.out.keep hS.below).at (bv_get l (idxR at_ row) _ (List.getElem?_eq_getElem hkl))
              have hx : l[idxR at_ row]'hkl = invU l at_ m := by
                unfold invU
                rw [show l.length - 1 - m = l.length - (m + 1) from by omega, ← hrow, List.getD_eq_getElem?_getD, List.getElem?_eq_getElem hkl]
                rfl
              rw [hx] at hc
              obtain ⟨c', h1, h2⟩ := hro.store hS 0 rfl rfl m (.int .u8 ((invU l at_ m).toNat : Int))
              have hnx := HN.out.cellAt h2 1 rfl (iv_get _ row _ (mkI_get _ _ row (by omega)))
              rw [if_neg hra] at hnx
              have htl : toP (nb l) at_ row ≤ l.length := by rw [← hsl]; exact toP_le (by rw [hsl]; exact hal) (by rw [hsl]; exact hrle) hra
              have HF : Hid (toP (nb l) at_ row = rowP (nb l) at_ (l.length - m) ∧ ∃ c', RowC 5 1 (.slice (some ⟨g, 0, none⟩) l.length l.length) l.length (bv (mkU (fun i => if m ≤ i then invU l at_ i else 0) l.length)) c' ∧ St w.heap.size w (wr.setCell ⟨g, m, none⟩ (.int .u8 ((invU l at_ m).toNat : Int))) [c', cn] ∧ ∀ j, j < l.length - m → rowP (nb l) at_ j ≠ at_) := Lib.hid (by
                refine ⟨by rw [show l.length - m = (l.length - (m + 1)) + 1 from by omega, rowP, ← hrow], c', ?_, h2, fun j hj => ?_⟩
                · rw [← bv_set, mkU_set] at h1
                  rw [mkU_congr _ _ _ (fun i hi => ?_)]
                  · exact h1
                  · by_cases e : i = m
                    · subst e; rw [if_pos rfl, if_pos (Nat.le_refl _)]
                    · rw [if_neg e]
                      by_cases h3 : m + 1 ≤ i
                      · rw [if_pos h3, if_pos (show m ≤ i by omega)]
                      · rw [if_neg h3, if_neg (show ¬ m ≤ i by omega)]
                · by_cases e : j = l.length - (m + 1)
                  · rw [e, ← hrow]; exact hra
                  · exact HQ.out.2.2 j (by omega))
              have hid : (at_ < row ∧ idxR at_ row = row - 1) ∨ (¬ at_ < row ∧ idxR at_ row = row) := by unfold idxR; split <;> omega
              have hri : (row : Int) < (l.length : Int) + 1 := by omega
              clear h1 h2 hro hS HQ hrow hra hx HR
              generalize toP (nb l) at_ row = tp at *
              generalize invU l at_ m = ux at *
              rcases hid with ⟨q2, q3⟩ | ⟨q2, q3⟩
              · rw [q3] at hc
                have hkl2 : (row : Int) - 1 < (l.length : Int) := by omega
                clear q3 hkl
                go_wp2_with fail
                go_roundg m
                case measure => omega
                case rel =>
                  obtain ⟨ht, c'', hx⟩ := HF.out
                  exact ⟨by omega, by go_num, tp, Lib.hid ht, rfl, c'', Lib.hid hx⟩
              · rw [q3] at hc
                have hkl2 : (row : Int) < (l.length : Int) := by omega
                clear q3 hkl
                go_wp2_with fail
                go_roundg m
                case measure => omega
                case rel =>
                  obtain ⟨ht, c'', hx⟩ := HF.out
                  exact ⟨by omega, by go_num, tp, Lib.hid ht, rfl, c'', Lib.hid hx⟩
end Go.Proofs.Ythgbkncanoknkaa
/-
  Contract of bwt.Forward.
-/
set_option linter.unusedVariables false
set_option linter.unusedSimpArgs false
namespace Go.Proofs.Ythgbkncanoknkaa
open Go.RowKit
set_option maxRecDepth 100000
/-- The place of the whole among the rows. -/
def atF (n : Nat) (T : List Nat) : Nat := (n :: T).idxOf 0
def FwdOut (b : List UInt8) (w : World) (e : Ending) (w' : World) : Prop :=
  ∃ (T : List Nat) (v : Value) (c : HL) (L : List UInt8), IsSA (nb b) T ∧ e = .returned (.tuple #[v, .int .i64 (atF b.length T : Int)]) ∧ RowC 5 1 v L.length (bv L) c ∧ nb L = fwdN (nb b) (b.length :: T) ∧ St w.heap.size w w' [c]
/-- How far the bytes and the place have come. -/
def fwP (s T : List Nat) (i : Nat) : List Nat := fwdN s (s.length :: T.take i)
def faP (T : List Nat) (i : Nat) : Nat := if T.idxOf 0 < i then T.idxOf 0 + 1 else 0
theorem fwP_step {s T : List Nat} {i p : Nat} (h : T[i]? = some p) : fwP s T (i + 1) = fwP s T i ++ (if p = 0 then [] else [ch s (p - 1)]) := by
  unfold fwP fwdN
  rw [List.take_add_one, h, ← List.cons_append, List.filter_append, List.map_append]
  congr 1
  by_cases e : p = 0
  · subst e; rfl
  · simp [e]
theorem fwP_zero {s T : List Nat} (h : s.length ≠ 0) : fwP s T 0 = [ch s (s.length - 1)] := by
  unfold fwP fwdN
  rw [List.take_zero, List.filter_cons, if_pos (by simpa using h)]
  rfl
theorem faP_step {s T : List Nat} {i p : Nat} (hT : IsSA s T) (h : T[i]? = some p) : faP T (i + 1) = if p = 0 then i + 1 else faP T i := by
  unfold faP
  by_cases e : p = 0
  · subst e
    have : T.idxOf 0 = i := hT.rk_of h
    rw [if_pos rfl, this, if_pos (Nat.lt_succ_self _)]
  · rw [if_neg e]
    have hne : T.idxOf 0 ≠ i := by
      intro e2
      have hl := (List.getElem?_eq_some_iff.1 h).1
      have hs : 0 < s.length := by have := hT.len; omega
      have := hT.rk_get (p := 0) hs
      unfold rk at this
      rw [e2, h] at this
      cases this
      exact e rfl
    by_cases c : T.idxOf 0 < i
    · rw [if_pos c, if_pos (by omega)]
    · rw [if_neg c, if_neg (by omega)]
theorem faP_end {s T : List Nat} (hT : IsSA s T) (h : 0 < s.length) : faP T s.length = (s.length :: T).idxOf 0 := by
  unfold faP
  have hl : T.idxOf 0 < s.length := hT.rk_lt h
  rw [if_pos hl, List.idxOf_cons]
  have : (s.length == 0) = false := beq_eq_false_iff_ne.2 (by omega)
  rw [this]
  rfl
theorem fw_snoc (L : List UInt8) (x : UInt8) : bv L ++ [Value.int .u8 (x.toNat : Int)] = bv (L ++ [x]) := by simp [bv]
theorem faP_le (T : List Nat) (i : Nat) : faP T i ≤ i := by unfold faP; split <;> omega
set_option maxHeartbeats 4000000 in
theorem forward_any (b : List UInt8) (v : Value) (w : World) (hn : b.length ≤ 1000000) (hb : Rd w 1 v b.length (bv b)) :
    Calls Try.prog 56 #[v] w (FwdOut b w) := by
  obtain ⟨i0, i0a, i0b, i0c, i0d⟩ := info_parts infoU8
  obtain ⟨ao, cap, rfl⟩ := hb.shape
  have hnl : (b.length : Int) ≤ 1000000 := by omega
  have HB := Lib.hid hb
  have hS0 := St.init w
  clear hb
  by_cases h0 : b.length = 0
  · have hl0 : b = [] := List.eq_nil_of_length_eq_zero h0
    subst hl0
    go_enter Try.func56, Try.ntmps56
    go_wp2_with fail
    go_ret2
    exact ⟨[], _, [], [], ⟨List.Perm.refl _, List.Pairwise.nil⟩, rfl, RowC.nil _ _, rfl, hS0.one_nil⟩
  · have hl1 : ((b.length : Int) == 0) = false := by simp; exact fun e => h0 (by rw [e]; rfl)
    have hsl := nb_length b
    have hbl : (b.length : Int) - 1 < (b.length : Int) := by omega
    have hb0 : 0 < b.length := by omega
    have hlast : b[b.length - 1]? = some (b.getD (b.length - 1) 0) := by
      rw [List.getD_eq_getElem?_getD, List.getElem?_eq_getElem (show b.length - 1 < b.length by omega)]
      rfl
    obtain ⟨ad, rfl, hc⟩ := HB.out.at (bv_get b _ _ hlast)
    have hS1 := hS0.alloc (.cells #[.int .u8 ((b.getD (b.length - 1) 0).toNat : Int)] 5)
    have hone : RowC 5 1 (.slice (some ⟨w.heap.size, 0, none⟩) 1 1) 1 (bv [b.getD (b.length - 1) 0]) [(w.heap.size, .cells #[.int .u8 ((b.getD (b.length - 1) 0).toNat : Int)] 5 (0, 0))] := RowC.fresh w.heap.size (bv [b.getD (b.length - 1) 0]) rfl (Nat.le_refl 1) (by simp [maxLen]) rfl rfl
    have H1 := Lib.hid (And.intro hS1 hone)
    have H0 := Lib.hid h0
    clear hS1 hone hlast h0 hS0
    go_enter Try.func56, Try.ntmps56
    go_wp2_with fail
    refine (sort_any b _ _ hn (HB.out.keep H1.out.1.below)).mono ?_
    rintro e w2 ⟨v2, T, c2, rfl, hr2, hTl, hS2, hsa⟩
    obtain ⟨ao2, cap2, rfl⟩ := hr2.shape
    have hS3 := H1.out.1.join hS2
    have HT := Lib.hid (And.intro hr2 (And.intro hTl hsa))
    have HQ : Hid (RowC 5 1 (.slice (some ⟨w.heap.size, 0, none⟩) 1 1) [b.getD (b.length - 1) 0].length (bv [b.getD (b.length - 1) 0]) [(w.heap.size, .cells #[.int .u8 ((b.getD (b.length - 1) 0).toNat : Int)] 5 (0, 0))] ∧ nb [b.getD (b.length - 1) 0] = fwP (nb b) T 0) := Lib.hid ⟨H1.out.2, by
      rw [fwP_zero (by rw [hsl]; exact H0.out), hsl, ch_nb]
      rfl⟩
    clear hr2 hTl hS2 hsa hc
    generalize b.getD (b.length - 1) 0 = x0 at *
    go_wp2_with fail
    go_loopg [4, 5, 21] b.length (fun m s4 s5 s21 wr => ∃ i : Nat, i + m = b.length ∧ s21 = .int .i64 (i : Int) ∧ s5 = .int .i64 (faP T i : Int) ∧ ∃ (L : List UInt8) (c : List (Nat × Obj)), RowC 5 1 s4 L.length (bv L) c ∧ Hid (nb L = fwP (nb b) T i) ∧ L.length ≤ i + 1 ∧ St w.heap.size w wr [c2, c])
    case atStart => exact ⟨0, by omega, rfl, rfl, [x0], _, HQ.out.1, Lib.hid HQ.out.2, by simp, hS3⟩
    case round =>
      clear hS3 HQ
      obtain ⟨i, hi, rfl, rfl, L, c, hr, HL, hLl, hS⟩ := hrel
      obtain ⟨ao3, cap3, rfl⟩ := hr.shape
      cases gk with
      | zero =>
        have hib : i = b.length := by omega
        have hz : ¬ (i : Int) < (b.length : Int) := by omega
        have HI := Lib.hid hib
        clear hi hib
        go_wp2_with fail
        go_ret2
        refine ⟨T, .slice ao3 L.length cap3, c, L, HT.out.2.2, ?_, hr, ?_, hS.pick [1] (by decide) [c] rfl⟩
        · have : faP T (nb b).length = atF (nb b).length T := faP_end HT.out.2.2 (by rw [hsl]; exact hb0)
          rw [hsl] at this
          rw [← this, HI.out]
          rfl
        · rw [HL.out, fwP, HI.out, hsl, List.take_of_length_le (by rw [HT.out.2.1]; exact Nat.le_refl _)]
      | succ m =>
        have hib : i < b.length := by omega
        have hii : (i : Int) < (b.length : Int) := by omega
        have hTi := ch_some T i (by rw [HT.out.2.1]; exact hib)
        have hpl : ch T i < b.length := by have := HT.out.2.2.lt hTi; rwa [nb_length] at this
        obtain ⟨g2, rfl⟩ := HT.out.1.head (by omega)
        have hcT := HT.out.1.cellAt hS 0 rfl (iv_get _ i _ (tI_get T i (by rw [HT.out.2.1]; exact hib)))
        have hst := fwP_step (s := nb b) hTi
        have hfa := faP_step HT.out.2.2 hTi
        have hle := faP_le T i
        generalize ch T i = p at *
        by_cases hp : p = 0
        · have q1 : ((p : Int) == 0) = true := by rw [hp]; rfl
          rw [if_pos hp] at hst hfa
          have HST := Lib.hid (And.intro hst hfa)
          clear hst hfa hTi hp
          go_wp2_with fail
          go_roundg m
          case measure => omega
          case rel => exact ⟨i + 1, by omega, by go_num, by rw [HST.out.2]; go_num, L, c, hr, Lib.hid (by rw [HST.out.1, List.append_nil]; exact HL.out), by omega, hS⟩
        · have q1 : ((p : Int) == 0) = false := by simp; exact hp
          rw [if_neg hp] at hst hfa
          have hpb : b[p - 1]? = some (b.getD (p - 1) 0) := by
            rw [List.getD_eq_getElem?_getD, List.getElem?_eq_getElem (show p - 1 < b.length by omega)]
            rfl
          obtain ⟨ad', e', hc⟩ := (HB.out.keep hS.below).at (bv_get b _ _ hpb)
          cases e'
          rw [ch_nb] at hst
          have HST := Lib.hid (And.intro hst hfa)
          have hpi : (p : Int) - 1 < (b.length : Int) := by omega
          have hp1 : 1 ≤ p := by omega
          clear hst hfa hTi hp hpb
          generalize b.getD (p - 1) 0 = x at *
          go_wp2_with (at_builtin; (refine wpList_app1 1 29 i0 (.int .u8 0) _ _ _ rfl rfl rfl rfl Try.underlying29 i0a i0b i0c i0d rfl hS rfl hr rfl ?_ ?_ ?_); (unfold maxLen; omega); omega; intro v1 c1 w3 hr1 hS4)
          go_roundg m
          case measure => omega
          case rel =>
            rw [fw_snoc] at hr1
            exact ⟨i + 1, by omega, by go_num, by rw [HST.out.2], L ++ [x], c1, by simpa using hr1, Lib.hid (by rw [HST.out.1, ← HL.out]; simp [nb]), by simp; omega, hS4⟩
end Go.Proofs.Ythgbkncanoknkaa
/-
  Contracts of the package zeros: run, Encode.
-/
set_option linter.unusedVariables false
set_option linter.unusedSimpArgs false
namespace Go.Proofs.Ythgbkncanoknkaa
open Go.RowKit
set_option maxRecDepth 100000
section
variable {B : Nat} {w0 w : World} {F : List HL} {c : HL}
set_option maxHeartbeats 1000000 in
theorem run_any (v : Value) (n N : Nat) (xs : List Int) (hS : St B w0 w (c :: F)) (hr : RowC 3 1 v n (iv xs) c) (hb : n + N ≤ 1099511627776) :
    Calls Try.prog 65 #[v, .int .i64 (N : Int)] w fun e w' => ∃ v' c', e = .returned v' ∧ RowC 3 1 v' (n + (runL N).length) (iv (xs ++ runL N)) c' ∧ St B w0 w' (c' :: F) := by
  obtain ⟨i0, i0a, i0b, i0c, i0d⟩ := info_parts infoInt
  go_enter Try.func65, Try.ntmps65
  go_wp2_with fail
  go_loopg [0, 1] N (fun m s0 s1 wr => s1 = .int .i64 (m : Int) ∧ ∃ ys c k, Hid (ys ++ runL m = xs ++ runL N ∧ k + (runL m).length = n + (runL N).length ∧ k + m ≤ n + N) ∧ RowC 3 1 s0 k (iv ys) c ∧ St B w0 wr (c :: F))
  case atStart => exact ⟨rfl, xs, c, n, ⟨rfl, rfl, Nat.le_refl _⟩, hr, hS⟩
  case round =>
    clear hS hr
    obtain ⟨rfl, ys, c, k, HK, hr, hS⟩ := hrel
    obtain ⟨ao, cap, rfl⟩ := hr.shape
    rcases Nat.eq_zero_or_pos gk with rfl | hpos
    · have hk := HK.out
      rw [runL_zero, List.append_nil] at hk
      obtain ⟨rfl, hk2, _⟩ := hk
      simp only [List.length_nil, Nat.add_zero] at hk2
      subst hk2
      clear HK
      go_wp2_with fail
      go_ret
      exact ⟨_, c, rfl, hr, hS⟩
    · have hk := HK.out.2.2
      have hpos' : (0 : Int) < gk := by omega
      have hg : (gk : Int) ≤ 1099511627776 := by omega
      go_wp2_with (at_builtin; (refine wpList_app1 0 80 i0 (.int .i64 0) _ _ _ rfl rfl rfl rfl Try.underlying80 i0a i0b i0c i0d rfl hS rfl hr rfl ?_ ?_ ?_); (unfold maxLen; omega); omega; intro v1 c1 w1 hr1 hs1)
      go_roundg ((gk - 1) / 2)
      case measure => omega
      case rel =>
        have h := HK.out
        rw [runL_pos hpos] at h
        refine ⟨?_, ys ++ [1 - ((gk % 2 : Nat) : Int)], c1, k + 1, ⟨?_, ?_, ?_⟩, ?_, hs1⟩
        · go_num
        · rw [List.append_assoc]; exact h.1
        · have := h.2.1; simp only [List.length_cons] at this; omega
        · omega
        · rw [iv_append]
          have e : (2 - (gk : Int) % 2 - 1) = 1 - ((gk % 2 : Nat) : Int) := by omega
          rw [← e]
          exact hr1
theorem encode_any (v : Value) (bs : List UInt8) (w : World) (h : Rd w 1 v bs.length (bv bs)) (hn : bs.length ≤ 1099511600000) :
    Calls Try.prog 57 #[v] w fun e w' => ∃ v' c', e = .returned v' ∧ RowC 3 1 v' (enc bs 0).length (iv (enc bs 0)) c' ∧ St w.heap.size w w' [c'] := by
  obtain ⟨i0, i0a, i0b, i0c, i0d⟩ := info_parts infoInt
  obtain ⟨ao, cap, rfl⟩ := h.shape
  have hS := (St.init w).one_nil
  have hnl : (bs.length : Int) ≤ 1099511600000 := by omega
  go_enter Try.func57, Try.ntmps57
  go_wp2_with fail
  go_loopg [3, 4, 9] bs.length (fun m s3 s4 s9 wr => ∃ i k : Nat, i + m = bs.length ∧ s9 = .int .i64 (i : Int) ∧ s4 = .int .i64 (k : Int) ∧ ∃ ys c, Hid (ys ++ enc (bs.drop i) k = enc bs 0 ∧ ys.length + k ≤ i) ∧ RowC 3 1 s3 ys.length (iv ys) c ∧ St w.heap.size w wr [c])
  case atStart => exact ⟨0, 0, by omega, rfl, rfl, [], [], ⟨rfl, by simp⟩, RowC.nil _ _, hS⟩
  case round =>
    clear hS
    obtain ⟨i, k, hi, rfl, rfl, ys, c, HK, hr, hS⟩ := hrel
    have hki := HK.out.2
    have hki' : (k : Int) ≤ 1099511600000 := by omega
    cases gk with
    | zero =>
      obtain rfl : i = bs.length := by omega
      clear hi
      have hk := HK.out.1
      rw [List.drop_length, enc, ← List.append_assoc] at hk
      have HQ := Lib.hid hk
      clear hk
      go_wp2_with fail
      refine (run_any _ _ k ys hS hr (by omega)).mono ?_
      rintro e w1 ⟨v1, c1, rfl, hr1, hS1⟩
      have hrl := runL_le k
      rw [← List.length_append] at hr1
      have hll : (ys ++ runL k).length ≤ 1099511600000 := by simp; omega
      go_wp2_with (at_builtin; (refine wpList_app1 0 80 i0 (.int .i64 0) _ _ _ rfl rfl rfl rfl Try.underlying80 i0a i0b i0c i0d rfl hS1 rfl hr1 rfl ?_ ?_ ?_); (unfold maxLen; omega); omega; intro v2 c2 w2 hr2 hs2)
      go_ret
      refine ⟨_, c2, rfl, ?_, hs2⟩
      rw [← HQ.out]
      simpa [iv, Nat.add_assoc] using hr2
    | succ m =>
      have hlt : i < bs.length := by omega
      obtain ⟨b, hb⟩ : ∃ b, bs[i]? = some b := ⟨_, List.getElem?_eq_getElem hlt⟩
      obtain ⟨ad, rfl, hcell⟩ := (h.keep hS.below).at (bv_get bs i b hb)
      have hb0 : (b.toNat : Int) ≤ 255 := by have := b.toNat_lt; omega
      have hd : bs.drop i = b :: bs.drop (i + 1) := by rw [List.drop_eq_getElem_cons hlt]; congr 1; exact (List.getElem?_eq_some_iff.1 hb).2
      have hk := HK.out.1
      rw [hd, enc] at hk
      have HQ := Lib.hid hk
      clear hk hd hb
      by_cases hz : b = 0
      · subst hz
        rw [if_pos rfl] at HQ
        go_wp2_with fail
        go_roundg m
        case measure => omega
        case rel => exact ⟨i + 1, k + 1, by omega, by go_num, by go_num, ys, c, ⟨HQ.out, by omega⟩, hr, hS⟩
      · rw [if_neg hz] at HQ
        have hz' : ¬ (b.toNat : Int) = 0 := by
          intro e
          exact hz (UInt8.toNat_inj.1 (by simpa using (show b.toNat = 0 by omega)))
        go_wp2_with fail
        refine (run_any _ _ k ys hS hr (by omega)).mono ?_
        rintro e w1 ⟨v1, c1, rfl, hr1, hS1⟩
        have hrl := runL_le k
        rw [← List.length_append] at hr1
        have hll : (ys ++ runL k).length ≤ 1099511600000 := by simp; omega
        go_wp2_with (at_builtin; (refine wpList_app1 0 80 i0 (.int .i64 0) _ _ _ rfl rfl rfl rfl Try.underlying80 i0a i0b i0c i0d rfl hS1 rfl hr1 rfl ?_ ?_ ?_); (unfold maxLen; omega); omega; intro v2 c2 w2 hr2 hs2)
        go_roundg m
        case measure => omega
        case rel =>
          refine ⟨i + 1, 0, by omega, by go_num, by go_num, ys ++ runL k ++ [(b.toNat : Int) + 1], c2, ⟨?_, by simp; omega⟩, ?_, hs2⟩
          · rw [List.append_assoc, List.append_assoc]; exact HQ.out
          · simpa [iv, Nat.add_assoc] using hr2
end
end Go.Proofs.Ythgbkncanoknkaa
/-
  Contracts of the package codes: counts, firsts.
-/
set_option linter.unusedVariables false
set_option linter.unusedSimpArgs false
namespace Go.Proofs.Ythgbkncanoknkaa
open Go.RowKit
set_option maxRecDepth 100000
/-- An array of sixteen numbers. -/
def arrI (f : Nat → Int) : Array Value := ((List.range 16).map fun k => Value.int .i64 (f k)).toArray
theorem arrI_size (f : Nat → Int) : (arrI f).size = 16 := by simp [arrI]
theorem arrI_get (f : Nat → Int) (k : Nat) (h : k < 16) : (arrI f)[k]? = some (.int .i64 (f k)) := by simp [arrI, h]
theorem arrI_set (f : Nat → Int) (k : Nat) (v : Int) : (arrI f).setIfInBounds k (.int .i64 v) = arrI (fun j => if j = k then v else f j) := by
  apply Array.ext_getElem?
  intro j
  rw [Array.getElem?_setIfInBounds]
  by_cases h : k = j
  · subst h
    by_cases hk : k < 16
    · rw [if_pos rfl, if_pos (by rw [arrI_size]; exact hk), arrI_get _ _ hk]; simp
    · rw [if_pos rfl, if_neg (by rw [arrI_size]; exact hk)]
      simp [arrI, hk]
  · rw [if_neg h]
    by_cases hj : j < 16
    · rw [arrI_get _ _ hj, arrI_get _ _ hj, if_neg (fun e => h e.symm)]
    · simp [arrI, hj]
theorem arrI_congr {f g : Nat → Int} (h : ∀ k, k < 16 → f k = g k) : arrI f = arrI g := by
  apply Array.ext_getElem?
  intro j
  by_cases hj : j < 16
  · rw [arrI_get _ _ hj, arrI_get _ _ hj, h j hj]
  · simp [arrI, hj]
theorem arrI_all (f : Nat → Int) : (arrI f).all (·.oneCell') = true := by
  simp [arrI, Value.oneCell']
theorem h16 (f : Nat → Int) : (Try.prog.info? 122).map (·.size) = some (arrI f).size := by
  rw [arrI_size]
  kernel_rfl
theorem room_step (r p : Nat) (h : r ≤ 16384000000) (hp : p ≤ 2 ^ 14) : Value.int .i64 (wrap64 (32768 - (r : Int) - wrap64 (p : Int))) = .int .i64 (32768 - ((r + p : Nat) : Int)) := by
  rw [IntWalk.wrap64_in (p : Int) (by omega), IntWalk.wrap64_in _ (by omega)]
  congr 1
  omega
set_option maxHeartbeats 2000000 in
theorem counts_any (v : Value) (l : List Int) (w : World) (h : Rd w 1 v l.length (iv l)) (hn : l.length ≤ 1000000) :
    Calls Try.prog 80 #[v] w fun e w' => ∃ f, e = .returned (.tuple #[.agg (arrI f), .bool (okLens l)]) ∧ (okLens l = true → arrI f = arrI fun k => (cntP l k : Int)) ∧ St w.heap.size w w' [] := by
  obtain ⟨ao, cap, rfl⟩ := h.shape
  have hnl : (l.length : Int) ≤ 1000000 := by omega
  have hz : (#[.int .i64 0, .int .i64 0, .int .i64 0, .int .i64 0, .int .i64 0, .int .i64 0, .int .i64 0, .int .i64 0, .int .i64 0, .int .i64 0, .int .i64 0, .int .i64 0, .int .i64 0, .int .i64 0, .int .i64 0, .int .i64 0] : Array Value) = arrI (fun _ => 0) := rfl
  have hS := ((St.init w).alloc (.cells (arrI fun _ => 0) 122)).alloc (.cells (arrI fun _ => 0) 122)
  go_enter Try.func80, Try.ntmps80
  go_wp2_with fail
  clear hz
  go_loopg [5, 10] l.length (fun m s5 s10 wr => ∃ i : Nat, i + m = l.length ∧ s10 = .int .i64 (i : Int) ∧ s5 = .int .i64 (32768 - (kraftP (l.take i) : Int)) ∧ Hid ((l.take i).all (fun k => decide (0 ≤ k ∧ k ≤ 15)) = true) ∧ St w.heap.size w wr [[(w.heap.size + 1, .cells (arrI fun k => ((l.take i).count (k : Int) : Int)) 122 (0, 0))], [(w.heap.size, .cells (arrI fun _ => 0) 122 (0, 0))]])
  case atStart => exact ⟨0, by omega, rfl, rfl, Lib.hid rfl, by simpa using hS⟩
  case round =>
    clear hS
    obtain ⟨i, hi, rfl, rfl, HV, hS⟩ := hrel
    cases gk with
    | zero =>
      obtain rfl : i = l.length := by omega
      clear hi
      have hkl := kraftP_le l
      rw [List.take_length] at *
      have hfr := hS.free 0 rfl (List.mem_singleton.2 rfl) 0
      have hld := hS.cell 0 rfl (List.mem_singleton.2 rfl) 0
      rw [arrI_get _ _ (by omega)] at hld
      have hst := hS.store 0 rfl 0 (.int .i64 0)
      rw [arrI_set] at hst
      have hcnt : arrI (fun j => if j = 0 then 0 else (l.count (j : Int) : Int)) = arrI (fun j => (cntP l j : Int)) := by
        refine arrI_congr fun j hj => ?_
        unfold cntP
        split <;> rfl
      rw [hcnt] at hst
      clear hcnt
      have hok : okLens l = (decide ((0 : Int) ≤ 32768 - (kraftP l : Int)) && decide ((l.length : Int) ≤ 300)) := by
        have e1 : decide ((0 : Int) ≤ 32768 - (kraftP l : Int)) = decide (kraftP l ≤ 32768) := by rw [decide_eq_decide]; omega
        have e2 : decide ((l.length : Int) ≤ 300) = decide (l.length ≤ 300) := by rw [decide_eq_decide]; omega
        unfold okLens
        rw [HV.out, Bool.and_true, e1, e2, Bool.and_comm]
      have HB := Lib.hid hok
      clear hok
      replace hst : St w.heap.size w (wr.setCell ⟨w.heap.size + 1, 0, none⟩ (.int .i64 0)) [[(w.heap.size + 1, .cells (arrI fun j => (cntP l j : Int)) 122 (0, 0))], [(w.heap.size, .cells (arrI fun _ => 0) 122 (0, 0))]] := hst
      have hroom : (32768 - (kraftP l : Int)) ≤ 32768 := by omega
      by_cases q1 : (0 : Int) ≤ 32768 - (kraftP l : Int)
      · go_wp2_with (first | (refine wpList_loadRow 0 122 _ rfl rfl rfl Try.underlying122 rfl (h16 _) hst rfl ?_) | (refine wpList_storeRow 1 122 _ _ rfl rfl rfl rfl (h16 _) (by rw [arrI_size, arrI_size]) (arrI_all _) hst rfl ?_; intro w2 hS2))
        ((try simp only [Exit.inBlock, Exit.then]); refine bodyPost_ret (results_cell_two rfl _ _ _ _ _ 1 rfl hS2 rfl Try.underlying122 rfl (h16 _)) rfl ?_)
        rw [HB.out]
        exact ⟨fun j => (cntP l j : Int), by simp [q1]; omega, fun _ => rfl, hS2.pick [] (by simp) [] rfl⟩
      · go_wp2_with (first | (refine wpList_loadRow 0 122 _ rfl rfl rfl Try.underlying122 rfl (h16 _) hst rfl ?_) | (refine wpList_storeRow 1 122 _ _ rfl rfl rfl rfl (h16 _) (by rw [arrI_size, arrI_size]) (arrI_all _) hst rfl ?_; intro w2 hS2))
        ((try simp only [Exit.inBlock, Exit.then]); refine bodyPost_ret (results_cell_two rfl _ _ _ _ _ 1 rfl hS2 rfl Try.underlying122 rfl (h16 _)) rfl ?_)
        rw [HB.out]
        exact ⟨fun j => (cntP l j : Int), by simp [q1]; omega, fun _ => rfl, hS2.pick [] (by simp) [] rfl⟩
    | succ m =>
      have hlt : i < l.length := by omega
      obtain ⟨k, hk⟩ : ∃ k, l[i]? = some k := ⟨_, List.getElem?_eq_getElem hlt⟩
      obtain ⟨ad, rfl, hcell⟩ := (h.keep hS.below).at (iv_get l i k hk)
      have hkr := kraftP_take_succ l i k hk
      have hkl := kraftP_le (l.take i)
      have hcl : ∀ j : Int, (l.take i).count j ≤ 1000000 := fun j => Nat.le_trans List.count_le_length (by rw [List.length_take]; omega)
      have htk : l.take (i + 1) = l.take i ++ [k] := by rw [List.take_add_one, hk]; rfl
      have HT := Lib.hid htk
      have hmem : k ∈ l := List.mem_of_getElem? hk
      have hll : (l.take i).length ≤ 1000000 := by rw [List.length_take]; omega
      clear htk hk
      by_cases q1 : k < 0
      · have hbad : okLens l = false := by
          simp only [okLens, Bool.and_eq_false_iff]
          right
          rw [List.all_eq_false]
          exact ⟨k, hmem, by simp; omega⟩
        have HB := Lib.hid hbad
        clear hbad hkr hkl hcl HT hll
        go_wp2_with (first | (refine wpList_loadRow 0 122 _ rfl rfl rfl Try.underlying122 rfl (h16 _) hS rfl ?_) | (refine wpList_storeRow 1 122 _ _ rfl rfl rfl rfl (h16 _) (by rw [arrI_size, arrI_size]) (arrI_all _) hS rfl ?_; intro w2 hS2))
        ((try simp only [Exit.inBlock, Exit.then]); refine bodyPost_ret (results_cell_two rfl _ _ _ _ _ 1 rfl hS2 rfl Try.underlying122 rfl (h16 _)) rfl ?_)
        rw [HB.out]
        exact ⟨_, rfl, fun e => (by cases e), hS2.pick [] (by simp) [] rfl⟩
      by_cases q2 : 15 < k
      · have hbad : okLens l = false := by
          simp only [okLens, Bool.and_eq_false_iff]
          right
          rw [List.all_eq_false]
          exact ⟨k, hmem, by simp; omega⟩
        have HB := Lib.hid hbad
        clear hbad hkr hkl hcl HT hll
        go_wp2_with (first | (refine wpList_loadRow 0 122 _ rfl rfl rfl Try.underlying122 rfl (h16 _) hS rfl ?_) | (refine wpList_storeRow 1 122 _ _ rfl rfl rfl rfl (h16 _) (by rw [arrI_size, arrI_size]) (arrI_all _) hS rfl ?_; intro w2 hS2))
        ((try simp only [Exit.inBlock, Exit.then]); refine bodyPost_ret (results_cell_two rfl _ _ _ _ _ 1 rfl hS2 rfl Try.underlying122 rfl (h16 _)) rfl ?_)
        rw [HB.out]
        exact ⟨_, rfl, fun e => (by cases e), hS2.pick [] (by simp) [] rfl⟩
      obtain ⟨K, rfl⟩ := Int.eq_ofNat_of_zero_le (show 0 ≤ k by omega)
      have hK : K < 16 := by omega
      have hcK := hcl (K : Int)
      have hld := hS.cell 0 rfl (List.mem_singleton.2 rfl) K
      rw [arrI_get _ _ hK] at hld
      have hfr := hS.free 0 rfl (List.mem_singleton.2 rfl) K
      have hst := hS.store 0 rfl K (.int .i64 (((l.take i).count (K : Int) : Int) + 1))
      rw [arrI_set] at hst
      have hcnt : arrI (fun j => if j = K then (((l.take i).count (K : Int) : Int) + 1) else ((l.take i).count (j : Int) : Int)) = arrI (fun j => ((l.take (i + 1)).count (j : Int) : Int)) := by
        refine arrI_congr fun j hj => ?_
        rw [HT.out, List.count_append]
        by_cases hjk : j = K
        · subst hjk; simp
        · have : ((K : Int) == (j : Int)) = false := by simp; omega
          rw [if_neg hjk]
          simp [List.count_cons, this]
      rw [hcnt] at hst
      have hcK' : ((l.take i).count (K : Int) : Int) ≤ 1000000 := by omega
      have HV2 : Hid ((l.take (i + 1)).all (fun k => decide (0 ≤ k ∧ k ≤ 15)) = true) := Lib.hid (by
        rw [HT.out, List.all_append, HV.out]
        simp
        omega)
      clear hcnt hcK hcl
      generalize (l.take i).count (K : Int) = c at *
      have hc0 : (0 : Int) ≤ c := by omega
      have HH := Lib.hid hst
      clear hst
      have hkr16 : kraftP (l.take i) ≤ 16384000000 := by omega
      have HKR := Lib.hid hkr
      clear hkr hkl
      by_cases q3 : K = 0
      · subst q3
        go_wp2_with fail
        go_roundg m
        case measure => omega
        case rel => exact ⟨i + 1, by omega, by go_num, by rw [HKR.out]; simp, HV2, HH.out⟩
      · have q4 : (0 : Int) < (K : Int) := by omega
        have hp : 2 ^ (15 - K) ≤ 2 ^ 14 := Nat.pow_le_pow_right (by omega) (by omega)
        have HP := Lib.hid hp
        clear hp
        go_wp2_with fail
        go_roundg m
        case measure => omega
        case rel =>
          refine ⟨i + 1, by omega, by go_num, ?_, HV2, HH.out⟩
          have e1 : ((2 : Int) ^ (15 - K)) = ((2 ^ (15 - K) : Nat) : Int) := by simp
          have e2 := HKR.out
          rw [if_pos (by omega), Int.toNat_natCast] at e2
          have e3 := HP.out
          rw [e1, e2]
          exact room_step _ _ hkr16 e3
end Go.Proofs.Ythgbkncanoknkaa
/-
  Contracts of the package codes: firsts, Of.
-/
set_option linter.unusedVariables false
set_option linter.unusedSimpArgs false
namespace Go.Proofs.Ythgbkncanoknkaa
open Go.RowKit
set_option maxRecDepth 100000
theorem results_cell_one {P : Program} {B : Nat} {w0 w : World} {L : List HL} {fn : Func} {p : Tmp} {ty : TypeId} (h : fn.results = #[.cell p ty]) (tmps : Array Value) (g : Nat) (t : TypeId) (cs : Array Value) (d : TypeDesc) (i : Nat)
    (hp : tmps.getD p undef = .pointer (some ⟨g, 0, none⟩)) (hS : St B w0 w L) (hi : L[i]? = some [(g, .cells cs t (0, 0))])
    (hu : P.underlying ty = some d) (hd : (match d with | .struct _ | .array _ _ => true | _ => false) = true) (hz : (P.info? ty).map (·.size) = some cs.size) :
    (results fn tmps).run P w = .ok (.agg cs) w := by
  have hp' : tmps[p]?.getD undef = .pointer (some ⟨g, 0, none⟩) := by simpa using hp
  simp [results, h, hp', asAddr, run_loadVar_row w g t ty cs (0, 0) d (hS.heap i hi) hu hd hz]
theorem fstP_small (l : List Int) (hk : kraftP l ≤ 32768) (k : Nat) (h : k ≤ 15) : endP l k ≤ 32768 ∧ fstP l k ≤ 32768 ∧ cntP l k ≤ 32768 := by
  have h1 := endP_le l hk k h
  have h2 : 2 ^ k ≤ 2 ^ 15 := Nat.pow_le_pow_right (by omega) h
  have h3 : endP l k = fstP l k + cntP l k := rfl
  omega
set_option maxHeartbeats 1000000 in
theorem firsts_any (l : List Int) (w : World) (hk : kraftP l ≤ 32768) :
    Calls Try.prog 81 #[.agg (arrI fun k => (cntP l k : Int))] w fun e w' => e = .returned (.agg (arrI fun k => (fstP l k : Int))) ∧ St w.heap.size w w' [] := by
  have hz : (#[.int .i64 0, .int .i64 0, .int .i64 0, .int .i64 0, .int .i64 0, .int .i64 0, .int .i64 0, .int .i64 0, .int .i64 0, .int .i64 0, .int .i64 0, .int .i64 0, .int .i64 0, .int .i64 0, .int .i64 0, .int .i64 0] : Array Value) = arrI (fun _ => 0) := rfl
  have hS := (((St.init w).alloc (.cells (arrI fun k => (cntP l k : Int)) 122)).alloc (.cells (arrI fun _ => 0) 122)).alloc (.cells (arrI fun _ => 0) 122)
  go_enter Try.func81, Try.ntmps81
  go_wp2_with fail
  clear hz
  go_loopg [4] 15 (fun m s4 wr => ∃ i : Nat, i + m = 15 ∧ s4 = .int .i64 ((i : Int) + 1) ∧ St w.heap.size w wr [[(w.heap.size + 2, .cells (arrI fun k => if k ≤ i then (fstP l k : Int) else 0) 122 (0, 0))], [(w.heap.size + 1, .cells (arrI fun _ => 0) 122 (0, 0))], [(w.heap.size, .cells (arrI fun k => (cntP l k : Int)) 122 (0, 0))]])
  case atStart =>
    refine ⟨0, by omega, rfl, ?_⟩
    rw [show (arrI fun k => if k ≤ 0 then (fstP l k : Int) else 0) = arrI fun _ => 0 from arrI_congr fun k _ => by split <;> simp_all [fstP]]
    simpa using hS
  case round =>
    clear hS
    obtain ⟨i, hi, rfl, hS⟩ := hrel
    cases gk with
    | zero =>
      obtain rfl : i = 15 := by omega
      clear hi
      rw [show (arrI fun k => if k ≤ 15 then (fstP l k : Int) else 0) = arrI fun k => (fstP l k : Int) from arrI_congr fun k _ => by rw [if_pos (by omega)]] at hS
      go_wp2_with (first | (refine wpList_loadRow 0 122 _ rfl rfl rfl Try.underlying122 rfl (h16 _) hS rfl ?_) | (refine wpList_storeRow 1 122 _ _ rfl rfl rfl rfl (h16 _) (by rw [arrI_size, arrI_size]) (arrI_all _) hS rfl ?_; intro w2 hS2))
      ((try simp only [Exit.inBlock, Exit.then]); refine bodyPost_ret (results_cell_one rfl _ _ _ _ _ 1 rfl hS2 rfl Try.underlying122 rfl (h16 _)) rfl ?_)
      exact ⟨rfl, hS2.pick [] (by simp) [] rfl⟩
    | succ m =>
      have hi15 : i < 15 := by omega
      have h0 := hS.cell 0 rfl (List.mem_singleton.2 rfl) i
      rw [arrI_get _ _ (by omega), if_pos (Nat.le_refl _)] at h0
      have h1 := hS.cell 2 rfl (List.mem_singleton.2 rfl) i
      rw [arrI_get _ _ (by omega)] at h1
      have hf := hS.free 0 rfl (List.mem_singleton.2 rfl) (i + 1)
      have h2 := hS.cell 0 rfl (List.mem_singleton.2 rfl) (i + 1)
      rw [arrI_get _ _ (by omega), if_neg (by omega)] at h2
      have hsm := fstP_small l hk i (by omega)
      have hst := hS.drew.store 0 rfl (i + 1) (.int .i64 (((fstP l i : Int) + cntP l i) * 2))
      rw [arrI_set, show (arrI fun j => if j = i + 1 then ((fstP l i : Int) + cntP l i) * 2 else if j ≤ i then (fstP l j : Int) else 0) = arrI fun k => if k ≤ i + 1 then (fstP l k : Int) else 0 from arrI_congr fun k _ => by
        by_cases e : k = i + 1
        · subst e; rw [if_pos rfl, if_pos (Nat.le_refl _), fstP]; simp
        · rw [if_neg e]
          by_cases e2 : k ≤ i
          · rw [if_pos e2, if_pos (by omega)]
          · rw [if_neg e2, if_neg (by omega)]] at hst
      have b1 : (fstP l i : Int) ≤ 32768 := by omega
      have b2 : (cntP l i : Int) ≤ 32768 := by omega
      have HS := Lib.hid hst
      clear hst
      go_wp2_with (first | ((with_reducible refine wpStill_plain ?_ ?_ (fun _ _ => ?_)); rfl; rfl) | (with_reducible refine wpStill_nil ?_) | ((with_reducible refine wp_draw_tail (id := 5) 12 mixed ?_ (fun _ hK => ?_)); kernel_rfl; simp only [List.take_succ_cons, List.take_zero, List.drop_succ_cons, List.drop_zero] at hK ⊢))
      go_roundg m
      case measure => omega
      case rel => exact ⟨i + 1, by omega, by go_num, HS.out⟩
theorem infoCode : (Try.prog.info? 117).map (fun i => (i.zero, i.size, i.bytes)) = some (some (.agg #[.int .u32 0, .int .i64 0]), 2, 16) := by kernel_rfl
/-- The cells of a symbol's code. -/
def codeCell (l : List Int) (s : Nat) : List Value := if 0 < l.getD s 0 then [.int .u32 (codeP l s : Int), .int .i64 (l.getD s 0)] else [.int .u32 0, .int .i64 0]
theorem codeCell_len (l : List Int) (s : Nat) : (codeCell l s).length = 2 := by unfold codeCell; split <;> rfl
def codesV (l : List Int) : List Value := rowsOf (codeCell l) l.length
def codesTo (l : List Int) (i : Nat) : List Value := rowsOf (fun s => if s < i then codeCell l s else [.int .u32 0, .int .i64 0]) l.length
theorem codesTo_all (l : List Int) : codesTo l l.length = codesV l := rowsOf_congr _ _ _ fun i hi => by simp [hi]
theorem codesTo_len (l : List Int) (i : Nat) : (codesTo l i).length = l.length * 2 := rowsOf_length _ _ 2 fun k => by split <;> simp [codeCell_len]
theorem codesTo_set (l : List Int) (i K : Nat) (h : l[i]? = some (K : Int)) (hK : 0 < K) : ((codesTo l i).set (i * 2) (.int .u32 (codeP l i : Int))).set (i * 2 + 1) (.int .i64 (K : Int)) = codesTo l (i + 1) := by
  unfold codesTo
  rw [rowsOf_set2 _ _ _ _ _ (fun k => by split <;> simp [codeCell_len]) (List.getElem?_eq_some_iff.1 h).1]
  apply rowsOf_congr
  intro k hk
  have hd : l.getD i 0 = (K : Int) := by rw [List.getD_eq_getElem?_getD, h]; rfl
  by_cases e : k = i
  · subst e
    rw [if_pos rfl, if_pos (by omega)]
    unfold codeCell
    rw [hd, if_pos (by omega)]
  · rw [if_neg e]
    by_cases e2 : k < i
    · rw [if_pos e2, if_pos (by omega)]
    · rw [if_neg e2, if_neg (by omega)]
theorem codesTo_none (l : List Int) (i : Nat) (h : l[i]? = some 0) : codesTo l i = codesTo l (i + 1) := by
  apply rowsOf_congr
  intro k hk
  have hd : l.getD i 0 = 0 := by rw [List.getD_eq_getElem?_getD, h]; rfl
  by_cases e : k = i
  · subst e
    rw [if_neg (by omega), if_pos (by omega)]
    unfold codeCell
    rw [hd, if_neg (by omega)]
  · by_cases e2 : k < i
    · rw [if_pos e2, if_pos (by omega)]
    · rw [if_neg e2, if_neg (by omega)]
theorem of_bad (v : Value) (l : List Int) (w : World) (h : Rd w 1 v l.length (iv l)) (hn : l.length ≤ 1000000) (hb : okLens l = false) :
    Calls Try.prog 74 #[v] w fun e w' => e = .returned (.tuple #[.slice none 0 0, .int .i64 10]) ∧ St w.heap.size w w' [] := by
  have HB := Lib.hid hb
  clear hb
  go_enter Try.func74, Try.ntmps74
  go_wp2_with fail
  refine (counts_any v l w h hn).mono ?_
  rintro e w1 ⟨f, rfl, _, hS1⟩
  rw [HB.out]
  have hS2 := hS1.alloc (.cells (arrI fun _ => 0) 122)
  have hz : (#[.int .i64 0, .int .i64 0, .int .i64 0, .int .i64 0, .int .i64 0, .int .i64 0, .int .i64 0, .int .i64 0, .int .i64 0, .int .i64 0, .int .i64 0, .int .i64 0, .int .i64 0, .int .i64 0, .int .i64 0, .int .i64 0] : Array Value) = arrI (fun _ => 0) := rfl
  go_wp2_with (first | (refine wpList_storeRow 0 122 _ _ rfl rfl rfl rfl (h16 _) (by rw [arrI_size, arrI_size]) (arrI_all _) hS2 rfl ?_; intro w2 hS3))
  go_ret2
  exact ⟨rfl, hS3.pick [] (by simp) [] rfl⟩
theorem cntP_take_succ (l : List Int) (i K k : Nat) (h : l[i]? = some (K : Int)) (hK : 0 < K) : cntP (l.take (i + 1)) k = cntP (l.take i) k + (if k = K then 1 else 0) := by
  unfold cntP
  by_cases e : k = 0
  · subst e; rw [if_pos rfl, if_pos rfl, if_neg (by omega)]
  · rw [if_neg e, if_neg e, List.take_add_one, h, List.count_append]
    by_cases e2 : k = K
    · subst e2; simp
    · have : ((K : Int) == (k : Int)) = false := by simp; omega
      rw [if_neg e2]
      simp [List.count_cons, this]
theorem cntP_take_zero (l : List Int) (i k : Nat) (h : l[i]? = some 0) : cntP (l.take (i + 1)) k = cntP (l.take i) k := by
  unfold cntP
  by_cases e : k = 0
  · rw [if_pos e, if_pos e]
  · rw [if_neg e, if_neg e, List.take_add_one, h, List.count_append]
    have : ((0 : Int) == (k : Int)) = false := by simp; omega
    simp [List.count_cons, this]
set_option maxHeartbeats 2000000 in
theorem of_ok (v : Value) (l : List Int) (w : World) (h : Rd w 1 v l.length (iv l)) (hn : l.length ≤ 300) (hok : okLens l = true) :
    Calls Try.prog 74 #[v] w fun e w' => ∃ u c, e = .returned (.tuple #[u, .int .i64 0]) ∧ RowC 117 2 u l.length (codesV l) c ∧ St w.heap.size w w' [c] := by
  obtain ⟨i0, i0a, i0b, i0c, i0d⟩ := info_parts infoCode
  have hok2 := (okLens_iff l).1 hok
  have hk := hok2.2.1
  have hall := hok2.2.2
  have HOK := Lib.hid hok
  have HALL := Lib.hid hall
  obtain ⟨ao, cap, rfl⟩ := h.shape
  have hnl : (l.length : Int) ≤ 300 := by omega
  clear hok hok2 hall
  have hz : (#[.int .i64 0, .int .i64 0, .int .i64 0, .int .i64 0, .int .i64 0, .int .i64 0, .int .i64 0, .int .i64 0, .int .i64 0, .int .i64 0, .int .i64 0, .int .i64 0, .int .i64 0, .int .i64 0, .int .i64 0, .int .i64 0] : Array Value) = arrI (fun _ => 0) := rfl
  go_enter Try.func74, Try.ntmps74
  go_wp2_with fail
  refine (counts_any _ l w h (by omega)).mono ?_
  rintro e w1 ⟨f, rfl, hf, hS1⟩
  rw [HOK.out]
  replace hf := hf HOK.out
  rw [hf]
  clear hf
  have hS2 := hS1.alloc (.cells (arrI fun _ => 0) 122)
  go_wp2_with (first | (refine wpList_storeRow 0 122 _ _ rfl rfl rfl rfl (h16 _) (by rw [arrI_size, arrI_size]) (arrI_all _) hS2 rfl ?_; intro w2 hS3) | (refine wpList_loadRow 0 122 _ rfl rfl rfl Try.underlying122 rfl (h16 _) hS3 rfl ?_))
  refine (firsts_any l _ hk).mono ?_
  rintro e w3 ⟨rfl, hS4⟩
  have hS5 := (hS3.mono hS4.below).alloc (.cells (arrI fun _ => 0) 122)
  clear hS2 hS3 hS4
  go_wp2_with (first | (refine wpList_storeRow 0 122 _ _ rfl rfl rfl rfl (h16 _) (by rw [arrI_size, arrI_size]) (arrI_all _) hS5 rfl ?_; intro w4 hS6) | ((refine wpList_mkN (n := l.length) 113 i0 (.agg #[.int .u32 0, .int .i64 0]) [.int .u32 0, .int .i64 0] _ _ rfl rfl _ _ _ _ rfl rfl Try.underlying113 i0a i0b i0c i0d rfl rfl (by omega) ?_ ?_ ?_ ?_ hS6 ?_); omega; omega; omega; (unfold maxLen; omega); intro g cC w5 hrC hS7))
  have e0 : (List.replicate l.length [Value.int .u32 0, Value.int .i64 0]).flatten = codesTo l 0 := by
    rw [rowsOf_replicate]
    exact rowsOf_congr _ _ _ fun k _ => by simp
  have e1 : (arrI fun k => (fstP l k : Int)) = arrI fun k => ((fstP l k + cntP (l.take 0) k : Nat) : Int) := arrI_congr fun k _ => by simp [cntP]
  have E := Lib.hid (And.intro e0 e1)
  clear e0 e1 hS5 hS6 hS1 hz
  go_loopg [24] l.length (fun m s24 wr => ∃ i : Nat, i + m = l.length ∧ s24 = .int .i64 (i : Int) ∧ ∃ cC, RowC 117 2 (.slice (some ⟨g, 0, none⟩) l.length l.length) l.length (codesTo l i) cC ∧ St w.heap.size w wr [cC, [(w3.heap.size, .cells (arrI fun k => ((fstP l k + cntP (l.take i) k : Nat) : Int)) 122 (0, 0))]])
  case atStart =>
    refine ⟨0, by omega, rfl, cC, by rw [← E.out.1]; exact hrC, ?_⟩
    rw [← E.out.2]
    exact hS7.pick [0, 1] (by decide) _ rfl
  case round =>
    clear hrC hS7
    obtain ⟨i, hi, rfl, cC, hrC, hS⟩ := hrel
    cases gk with
    | zero =>
      obtain rfl : i = l.length := by omega
      clear hi
      rw [codesTo_all] at hrC
      go_wp2_with fail
      go_ret2
      exact ⟨_, cC, rfl, hrC, hS.pick [0] (by decide) _ rfl⟩
    | succ m =>
      have hlt : i < l.length := by omega
      obtain ⟨k, hk⟩ : ∃ k, l[i]? = some k := ⟨_, List.getElem?_eq_getElem hlt⟩
      obtain ⟨ad, rfl, hcell⟩ := (h.st hS).at (iv_get l i k hk)
      have hk0 := HALL.out k (List.mem_of_getElem? hk)
      obtain ⟨K, rfl⟩ := Int.eq_ofNat_of_zero_le hk0.1
      have HK := Lib.hid hk
      clear hk
      cases K with
      | zero =>
        go_wp2_with fail
        go_roundg m
        case measure => omega
        case rel =>
          have hk := HK.out
          refine ⟨i + 1, by omega, by go_num, cC, by rw [← codesTo_none l i hk]; exact hrC, ?_⟩
          rw [show (arrI fun k => ((fstP l k + cntP (l.take (i + 1)) k : Nat) : Int)) = arrI fun k => ((fstP l k + cntP (l.take i) k : Nat) : Int) from arrI_congr fun k _ => by rw [cntP_take_zero l i k hk]]
          exact hS
      | succ K =>
        have hK : K + 1 ≤ 15 := by omega
        have hsm := fstP_small l (by assumption) (K + 1) hK
        have hcl : cntP (l.take i) (K + 1) ≤ 300 := by unfold cntP; rw [if_neg (by omega)]; exact Nat.le_trans List.count_le_length (by rw [List.length_take]; omega)
        have hap := hrC.apart hS 0 1 rfl rfl (by omega)
        have hgp := hap.1
        have hpg := hap.2
        have hld := hS.cell 1 rfl (List.mem_singleton.2 rfl) (K + 1)
        rw [arrI_get _ _ (by omega)] at hld
        have hf1 := hrC.freeAt hS 0 rfl (i * 2)
        have hf2 := hrC.freeAt hS 0 rfl (i * 2 + 1)
        have hfr := hS.free 1 rfl (List.mem_singleton.2 rfl) (K + 1)
        obtain ⟨u1, hu1⟩ : ∃ u, (codesTo l i)[i * 2]? = some u := ⟨_, List.getElem?_eq_getElem (by rw [codesTo_len]; omega)⟩
        obtain ⟨u2, hu2⟩ : ∃ u, (codesTo l i)[i * 2 + 1]? = some u := ⟨_, List.getElem?_eq_getElem (by rw [codesTo_len]; omega)⟩
        have hl1 := hrC.cellAt hS 0 rfl hu1
        have hl2 := hrC.cellAt hS 0 rfl hu2
        clear hap hu1 hu2
        have b1 : ((fstP l (K + 1) + cntP (l.take i) (K + 1) : Nat) : Int) ≤ 40000 := by omega
        have b0 : (0 : Int) ≤ ((fstP l (K + 1) + cntP (l.take i) (K + 1) : Nat) : Int) := by omega
        have hcode : fstP l (K + 1) + cntP (l.take i) (K + 1) = codeP l i := by
          rw [codeP_eq l i (K + 1) HK.out, cntP, if_neg (by omega)]
        have HC := Lib.hid hcode
        clear hcode hsm hcl
        generalize hN : ((fstP l (K + 1) + cntP (l.take i) (K + 1) : Nat) : Int) = N at *
        have HN := Lib.hid hN
        clear hN
        go_wp2_with fail
        go_roundg m
        case measure => omega
        case rel =>
          obtain ⟨c1, hr1, hS1⟩ := hrC.store hS 0 rfl rfl (i * 2) (.int .u32 N)
          obtain ⟨c2, hr2, hS2⟩ := hr1.store hS1 0 rfl rfl (i * 2 + 1) (.int .i64 ((K + 1 : Nat) : Int))
          have hS3 := hS2.store 1 rfl (K + 1) (.int .i64 (N + 1))
          rw [arrI_set, ← HN.out] at hS3
          rw [← HN.out, HC.out, codesTo_set l i (K + 1) HK.out (by omega)] at hr2
          refine ⟨i + 1, by omega, by go_num, c2, hr2, ?_⟩
          rw [← HN.out]
          rw [show (arrI fun j => if j = K + 1 then ((fstP l (K + 1) + cntP (l.take i) (K + 1) : Nat) : Int) + 1 else ((fstP l j + cntP (l.take i) j : Nat) : Int)) = arrI fun k => ((fstP l k + cntP (l.take (i + 1)) k : Nat) : Int) from arrI_congr fun j _ => by
            rw [cntP_take_succ l i (K + 1) j HK.out (by omega)]
            by_cases e : j = K + 1
            · subst e; simp; omega
            · simp [e]] at hS3
          exact hS3
end Go.Proofs.Ythgbkncanoknkaa
/-
  Contracts of bits.Reader.
-/
set_option linter.unusedVariables false
set_option linter.unusedSimpArgs false
namespace Go.Proofs.Ythgbkncanoknkaa
open Go.RowKit
set_option maxRecDepth 100000
section
variable {B : Nat} {w0 w : World} {F : List HL} {c : HL}
theorem bread_any (sv : Value) (bs : List UInt8) (h : Rd w 1 sv bs.length (bv bs)) (hn : bs.length ≤ 140737488355328) :
    Calls Try.prog 82 #[sv] w fun e w' => ∃ p c, e = .returned (.pointer (some ⟨p, 0, none⟩)) ∧ RdC p bs 0 c ∧ St w.heap.size w w' [c] := by
  go_enter Try.func82, Try.ntmps82
  go_wp2_with ((go_at_call 38; refine (clone_any sv bs.length bs w h hn).mono ?_; rintro e w1 ⟨v1, c1, rfl, hr1, hs1⟩); obtain ⟨ao, cap, rfl⟩ := hr1.shape)
  go_ret
  exact ⟨w1.heap.size, _, rfl, ⟨_, c1, rfl, hr1, by omega⟩, (hs1.alloc _).merge⟩
theorem left_any (p : Nat) (bs : List UInt8) (at_ : Nat) (hS : St B w0 w (c :: F)) (hc : RdC p bs at_ c) (hn : bs.length ≤ 140737488355328) :
    Calls Try.prog 93 #[.pointer (some ⟨p, 0, none⟩)] w fun e w' => e = .returned (.int .i64 (8 * (bs.length : Int) - at_)) ∧ Drew w w' := by
  obtain ⟨sv, rc, rfl, hr, hl⟩ := hc
  obtain ⟨ao, cap, rfl⟩ := hr.shape
  have h0 : w.cell? ⟨p, 0, none⟩ = some (.slice ao bs.length cap) := hS.cell 0 rfl (List.mem_append.2 (.inl (List.mem_singleton.2 rfl))) 0
  have h1 : w.cell? ⟨p, 1, none⟩ = some (.int .i64 (at_ : Int)) := hS.cell 0 rfl (List.mem_append.2 (.inl (List.mem_singleton.2 rfl))) 1
  clear hr
  go_enter Try.func93, Try.ntmps93
  go_wp2_with (first | ((with_reducible refine wpStill_plain ?_ ?_ (fun _ _ => ?_)); rfl; rfl) | (with_reducible refine wpStill_nil ?_) | ((with_reducible refine wp_draw_all (id := 3) mixed ?_ (fun _ _ => ?_)); kernel_rfl))
  go_ret
  exact ⟨rfl, Drew.one _⟩
theorem left_n (p : Nat) (bs : List UInt8) (at_ n : Nat) (he : at_ + n = 8 * bs.length) (hS : St B w0 w (c :: F)) (hc : RdC p bs at_ c) (hn : bs.length ≤ 140737488355328) :
    Calls Try.prog 93 #[.pointer (some ⟨p, 0, none⟩)] w fun e w' => e = .returned (.int .i64 (n : Int)) ∧ Drew w w' := by
  have e : (n : Int) = 8 * (bs.length : Int) - at_ := by omega
  rw [e]
  exact left_any p bs at_ hS hc hn
theorem left_nil (w : World) : Calls Try.prog 93 #[.pointer none] w fun e w' => e = .returned (.int .i64 0) ∧ w = w' := by
  go_enter Try.func93, Try.ntmps93
  go_wp2
  go_ret
  exact ⟨rfl, rfl⟩
theorem get_bad (p : Nat) (bs : List UInt8) (at_ : Nat) (k : Int) (hS : St B w0 w (c :: F)) (hc : RdC p bs at_ c) (hn : bs.length ≤ 140737488355328) (hk : k < 0 ∨ 64 < k ∨ 8 * (bs.length : Int) - at_ < k) :
    Calls Try.prog 83 #[.pointer (some ⟨p, 0, none⟩), .int .i64 k] w fun e w' => e = .returned (.tuple #[.int .u64 0, .bool false]) ∧ Drew w w' := by
  have hle := hc
  obtain ⟨_, _, _, _, hle⟩ := hle
  by_cases h1 : k < 0
  · go_enter Try.func83, Try.ntmps83
    go_wp2
    go_ret2
    exact ⟨rfl, Drew.refl _⟩
  · have g1 : decide (k < 0) = false := by simp; omega
    by_cases h2 : 64 < k
    · have g2 : decide (64 < k) = true := by simp; omega
      go_enter Try.func83, Try.ntmps83
      go_wp2
      go_ret2
      exact ⟨rfl, Drew.refl _⟩
    · have g2 : decide (64 < k) = false := by simp; omega
      have g3 : decide (8 * (bs.length : Int) - at_ < k) = true := by simp; omega
      go_enter Try.func83, Try.ntmps83
      go_wp2_with (go_at_call 93; refine (left_any p bs at_ hS hc hn).mono ?_; rintro e w1 ⟨rfl, n, rfl⟩)
      go_ret2
      exact ⟨rfl, Drew.mk _ _⟩
theorem get_nil (k : Int) (w : World) : Calls Try.prog 83 #[.pointer none, .int .i64 k] w fun e w' => e = .returned (.tuple #[.int .u64 0, .bool false]) ∧ w = w' := by
  go_enter Try.func83, Try.ntmps83
  go_wp2
  go_ret2
  exact ⟨rfl, rfl⟩
/-- One more bit behind a number. -/
theorem get_step (V : Nat) (b : UInt8) (s : Nat) (hs : s ≤ 7) (hV : V < 9223372036854775808) :
    bits .or .u64 ((V : Int) * 2) (IntKind.u64.wrap (bits .and .u8 ((b.toNat : Int) / 2 ^ s) 1)) = ((2 * V + (b.toNat.testBit s).toNat : Nat) : Int) := by
  have e1 : ((b.toNat : Int) / 2 ^ s) = ((b.toNat / 2 ^ s : Nat) : Int) := by simp
  have hle : b.toNat / 2 ^ s ≤ b.toNat := Nat.div_le_self _ _
  have hb := b.toNat_lt
  have hbit : b.toNat.testBit s = decide (b.toNat / 2 ^ s % 2 = 1) := Nat.testBit_eq_decide_div_mod_eq
  rw [e1, hbit]
  generalize b.toNat / 2 ^ s = q at *
  have e2 : bits .and .u8 (q : Int) 1 = ((q % 2 : Nat) : Int) := by
    have := u8_and_nat q 1 (by omega) (by omega)
    rw [Nat.and_one_is_mod] at this
    exact this
  have e5 : IntKind.u64.wrap ((q % 2 : Nat) : Int) = ((q % 2 : Nat) : Int) := by simp [IntKind.wrap, IntKind.bits, IntKind.signed]; omega
  have e3 : ((V : Int) * 2) = ((2 * V : Nat) : Int) := by omega
  have hq : q % 2 < 2 := Nat.mod_lt _ (by omega)
  rw [e2, e5, e3, u64_or_nat _ _ (by omega) (by omega)]
  have e4 : 2 * V ||| q % 2 = 2 * V + q % 2 := by
    have := Nat.two_pow_add_eq_or_of_lt (i := 1) (b := q % 2) (by omega) V
    simp at this
    exact this.symm
  rw [e4]
  by_cases h : q % 2 = 1 <;> simp [h] <;> omega
theorem valOf_take_succ (l : List Bool) (j : Nat) (x : Bool) (h : l[j]? = some x) : valOf (l.take (j + 1)) = 2 * valOf (l.take j) + x.toNat := by
  have hlt : j < l.length := (List.getElem?_eq_some_iff.1 h).1
  rw [List.take_add_one, h]
  simp [valOf_snoc]
theorem valOf_take_lt (l : List Bool) (j : Nat) (h : j ≤ 63) : valOf (l.take j) < 9223372036854775808 := by
  have h1 := valOf_lt (l.take j)
  have h2 : 2 ^ (l.take j).length ≤ 2 ^ 63 := Nat.pow_le_pow_right (by omega) (by rw [List.length_take]; omega)
  omega
set_option maxHeartbeats 1000000 in
theorem get_any (p : Nat) (bs : List UInt8) (at_ : Nat) (k : Int) (hS : St B w0 w (c :: F)) (hc : RdC p bs at_ c) (hn : bs.length ≤ 140737488355328) (hk0 : 0 ≤ k) (hk : k ≤ 64) (hk2 : k ≤ 8 * (bs.length : Int) - at_) :
    Calls Try.prog 83 #[.pointer (some ⟨p, 0, none⟩), .int .i64 k] w fun e w' => e = .returned (.tuple #[.int .u64 (valOf (((bitsB bs).drop at_).take k.toNat) : Int), .bool true]) ∧ ∃ c', RdC p bs (at_ + k.toNat) c' ∧ St B w0 w' (c' :: F) := by
  have hle := hc
  obtain ⟨_, _, _, _, hle⟩ := hle
  have g1 : decide (k < 0) = false := by simp; omega
  have g2 : decide (64 < k) = false := by simp; omega
  have g3 : decide (8 * (bs.length : Int) - at_ < k) = false := by simp; omega
  have HS := Lib.hid hS
  have HC := Lib.hid hc
  clear hS hc
  go_enter Try.func83, Try.ntmps83
  go_wp2_with (go_at_call 93; refine (left_any p bs at_ HS.out HC.out hn).mono ?_; rintro e w1 ⟨rfl, n, rfl⟩)
  go_loopg [6, 24] (k.toNat) (fun m s6 s24 wr => ∃ j : Nat, (j : Int) + m = k ∧ s24 = .int .i64 (j : Int) ∧ s6 = .int .u64 (valOf (((bitsB bs).drop at_).take j) : Int) ∧ ∃ c, RdC p bs (at_ + j) c ∧ St B w0 wr (c :: F))
  case atStart => exact ⟨0, by rw [Int.toNat_of_nonneg hk0]; simp, rfl, rfl, c, HC.out, HS.out.drewN _⟩
  case round =>
    clear HS HC
    obtain ⟨j, hj, rfl, rfl, c, ⟨sv, rc, rfl, hr, hl⟩, hS⟩ := hrel
    have hjk : (j : Int) ≤ k := by omega
    cases gk with
    | zero =>
      have e : k = (j : Int) := by omega
      subst e
      clear hj
      have HQ := Lib.hid (And.intro hr hl)
      clear hr hl
      go_wp2
      go_ret2
      exact ⟨by simp, _, ⟨sv, rc, rfl, HQ.out.1, HQ.out.2⟩, hS⟩
    | succ m =>
      have hlt : (j : Int) < k := by omega
      obtain ⟨b, hb1, hb2⟩ := bitsB_at (cs := bs) (k := at_ + j) (by omega)
      have hV := valOf_take_lt ((bitsB bs).drop at_) j (by omega)
      have hnext := valOf_take_succ ((bitsB bs).drop at_) j _ (by rw [List.getElem?_drop]; exact hb2)
      have hx := get_step (valOf (((bitsB bs).drop at_).take j)) b (7 - (at_ + j) % 8) (by omega) hV
      rw [← hnext] at hx
      generalize valOf (((bitsB bs).drop at_).take j) = V at *
      have hVi : (V : Int) ≤ 9223372036854775807 := by omega
      obtain ⟨g, cap, cur, rfl, _⟩ := hr.form (by omega)
      have hS2 := hS.split
      have hap := hr.apart hS2 1 0 rfl rfl (by omega)
      have hgp := hap.1
      have hpg := hap.2
      have h0 : wr.cell? ⟨p, 0, none⟩ = some (.slice (some ⟨g, 0, none⟩) bs.length cap) := hS2.cell 0 rfl (List.mem_singleton.2 rfl) 0
      have h1 : wr.cell? ⟨p, 1, none⟩ = some (.int .i64 ((at_ + j : Nat) : Int)) := hS2.cell 0 rfl (List.mem_singleton.2 rfl) 1
      have f1 : wr.frozen? ⟨p, 1, none⟩ = false := hS2.free 0 rfl (List.mem_singleton.2 rfl) 1
      have h2 := hr.cellAt hS2 1 rfl (bv_get _ _ _ hb1)
      have hix : ((at_ : Int) + j) / 8 < bs.length := by omega
      have hax : (at_ : Int) + j ≤ 1125899906842624 := by omega
      have HX := Lib.hid hx
      have HL := Lib.hid hl
      clear hx hnext hb1 hb2 hap hl hV
      go_wp2_with (first | ((with_reducible refine wpStill_plain ?_ ?_ (fun _ _ => ?_)); rfl; rfl) | (with_reducible refine wpStill_nil ?_) | ((with_reducible refine wp_draw_all (id := 6) mixed ?_ (fun _ _ => ?_)); kernel_rfl))
      go_roundg m
      case measure => omega
      case rel =>
        have hS3 := ((hS2.store 0 rfl 1 (.int .i64 ((at_ : Int) + j + 1))).drew).merge
        have hl := HL.out
        refine ⟨j + 1, by omega, by go_num, by rw [HX.out], _, ⟨.slice (some ⟨g, 0, none⟩) bs.length cap, rc, ?_, hr, by omega⟩, hS3⟩
        simp only [List.set_cons_zero, List.setIfInBounds_toArray, List.set_cons_succ]
        rw [show (((at_ + (j + 1) : Nat)) : Int) = (at_ : Int) + j + 1 from by omega]
end
end Go.Proofs.Ythgbkncanoknkaa
/-
  Contract of codes.Write.
-/
set_option linter.unusedVariables false
set_option linter.unusedSimpArgs false
namespace Go.Proofs.Ythgbkncanoknkaa
open Go.RowKit
set_option maxRecDepth 100000
/-- The bits of a symbol. -/
def symBits (l : List Int) (s : Int) : List Bool := bitsOf (codeP l s.toNat) (l.getD s.toNat 0).toNat
def symOk (l : List Int) (s : Int) : Bool := decide (0 ≤ s) && decide (s < (l.length : Int)) && !(l.getD s.toNat 0 == 0)
theorem symBits_le (l : List Int) (hall : ∀ k ∈ l, 0 ≤ k ∧ k ≤ 15) (s : Int) : (symBits l s).length ≤ 15 := by
  unfold symBits
  rw [bitsOf_length, List.getD_eq_getElem?_getD]
  cases h : l[s.toNat]? with
  | none => simp
  | some k => have := hall k (List.mem_of_getElem? h); simp; omega
theorem symsBits_le (l : List Int) (hall : ∀ k ∈ l, 0 ≤ k ∧ k ≤ 15) (xs : List Int) : (xs.flatMap (symBits l)).length ≤ 15 * xs.length := by
  induction xs with
  | nil => simp
  | cons x xs ih =>
    have := symBits_le l hall x
    simp only [List.flatMap_cons, List.length_append, List.length_cons]
    omega
theorem symOk_at (l : List Int) (hall : ∀ k ∈ l, 0 ≤ k ∧ k ≤ 15) (s : Int) (h : symOk l s = true) : ∃ S K : Nat, s = (S : Int) ∧ S < l.length ∧ l[S]? = some (K : Int) ∧ 0 < K ∧ K ≤ 15 := by
  simp only [symOk, Bool.and_eq_true, decide_eq_true_eq, Bool.not_eq_true', beq_eq_false_iff_ne] at h
  obtain ⟨⟨h1, h2⟩, h3⟩ := h
  obtain ⟨S, rfl⟩ := Int.eq_ofNat_of_zero_le h1
  have hS : S < l.length := by omega
  rw [Int.toNat_natCast, List.getD_eq_getElem?_getD, List.getElem?_eq_getElem hS] at h3
  have h4 := hall l[S] (List.getElem_mem _)
  obtain ⟨K, hK⟩ := Int.eq_ofNat_of_zero_le h4.1
  have h5 : l[S] ≠ 0 := h3
  exact ⟨S, K, rfl, hS, by rw [List.getElem?_eq_getElem hS, hK], by omega, by omega⟩
theorem codesV_at (l : List Int) (S K : Nat) (h : l[S]? = some (K : Int)) : (codesV l)[S * 2]? = some (.int .u32 (if 0 < K then (codeP l S : Int) else 0)) ∧ (codesV l)[S * 2 + 1]? = some (.int .i64 (K : Int)) := by
  have hS : S < l.length := (List.getElem?_eq_some_iff.1 h).1
  have h0 := rowsOf_get (codeCell l) l.length 2 (by omega) (codeCell_len l) S 0 hS (by omega)
  have h1 := rowsOf_get (codeCell l) l.length 2 (by omega) (codeCell_len l) S 1 hS (by omega)
  have hd : l.getD S 0 = (K : Int) := by rw [List.getD_eq_getElem?_getD, h]; rfl
  have hcc : codeCell l S = if 0 < (K : Int) then [.int .u32 (codeP l S : Int), .int .i64 (K : Int)] else [.int .u32 0, .int .i64 0] := by unfold codeCell; rw [hd]
  rw [hcc] at h0 h1
  unfold codesV
  rw [show S * 2 = S * 2 + 0 from rfl, h0, show S * 2 + 0 + 1 = S * 2 + 1 from rfl, h1]
  by_cases e : 0 < K
  · have e2 : (0 : Int) < (K : Int) := by omega
    simp [e, e2]
  · have e2 : K = 0 := by omega
    subst e2
    simp
def wrErr (l xs : List Int) : Int := if xs.all (symOk l) then 0 else 7
def wrBits (l xs : List Int) (bits : List Bool) : List Bool := if xs.all (symOk l) then bits ++ xs.flatMap (symBits l) else bits
section
variable {B : Nat} {w0 w : World} {F : List HL} {c : HL}
theorem write_bad (p : Nat) (bits : List Bool) (v vx : Value) (l : List Int) (hS : St B w0 w (c :: F)) (h : Rd w 1 v l.length (iv l)) (hn : l.length ≤ 1000000) (hb : okLens l = false) :
    Calls Try.prog 61 #[.pointer (some ⟨p, 0, none⟩), v, vx] w fun e w' => e = .returned (.int .i64 10) ∧ St B w0 w' (c :: F) := by
  go_enter Try.func61, Try.ntmps61
  go_wp2_with fail
  refine (of_bad v l w h hn hb).mono ?_
  rintro e w1 ⟨rfl, hS1⟩
  go_wp2_with fail
  go_ret
  exact ⟨rfl, hS.mono hS1.below⟩
set_option maxHeartbeats 2000000 in
theorem write_any (p : Nat) (bits : List Bool) (v vx : Value) (l xs : List Int) (hS : St B w0 w (c :: F)) (hc : WrC p bits c) (h : Rd w 1 v l.length (iv l)) (hx : Rd w 1 vx xs.length (iv xs)) (hn : l.length ≤ 300) (hok : okLens l = true) (hxl : xs.length ≤ 1000000) (hbl : bits.length ≤ 1000000) 
    (hapx : ∀ w' c', St B w0 w' (c' :: F) → Rd w' 1 vx xs.length (iv xs)) :
    Calls Try.prog 61 #[.pointer (some ⟨p, 0, none⟩), v, vx] w fun e w' => e = .returned (.int .i64 (wrErr l xs)) ∧ ∃ c', WrC p (wrBits l xs bits) c' ∧ St B w0 w' (c' :: F) := by
  have hok2 := (okLens_iff l).1 hok
  have HALL := Lib.hid hok2.2.2
  obtain ⟨ao, cap, rfl⟩ := hx.shape
  have hxn : (xs.length : Int) ≤ 1000000 := by omega
  have HX := Lib.hid hapx
  have HC := Lib.hid hc
  have hxp := hx.cap
  clear hok2 hapx hc
  go_enter Try.func61, Try.ntmps61
  go_wp2_with fail
  refine (of_ok v l w h hn hok).mono ?_
  rintro e w1 ⟨u, cC, rfl, hrC, hS1⟩
  replace hS := (hS.join hS1).swap
  obtain ⟨aou, capu, rfl⟩ := hrC.shape
  go_wp2_with fail
  clear hS1
  have HR := Lib.hid (And.intro hS hrC)
  have HH := Lib.hid hx
  clear h hx
  go_loopg [23] xs.length (fun m s23 wr => ∃ i : Nat, i + m = xs.length ∧ s23 = .int .i64 (i : Int) ∧ Hid ((xs.take i).all (symOk l) = true) ∧ w1 = wr)
  case atStart => exact ⟨0, by omega, rfl, Lib.hid rfl, rfl⟩
  case round =>
    obtain ⟨i, hi, rfl, HV, rfl⟩ := hrel
    cases gk with
    | zero =>
      obtain rfl : i = xs.length := by omega
      have hv := HV.out
      rw [List.take_length] at hv
      have HV2 := Lib.hid hv
      clear hv hi HV
      go_wp2_with fail
      go_loopg [46] xs.length (fun m s46 wr => ∃ i : Nat, i + m = xs.length ∧ s46 = .int .i64 (i : Int) ∧ ∃ c', WrC p (bits ++ (xs.take i).flatMap (symBits l)) c' ∧ St B w0 wr (c' :: cC :: F))
      case atStart => exact ⟨0, by omega, rfl, c, by simpa using HC.out, HR.out.1⟩
      case round =>
        obtain ⟨i, hi, rfl, c2, hc2, hS2⟩ := hrel
        cases gk with
        | zero =>
          obtain rfl : i = xs.length := by omega
          rw [List.take_length] at hc2
          go_wp2_with fail
          go_ret
          exact ⟨by unfold wrErr; rw [HV2.out]; rfl, c2, by unfold wrBits; rw [HV2.out]; exact hc2, hS2.swap.tl⟩
        | succ m =>
          have hlt : i < xs.length := by omega
          obtain ⟨x, hk⟩ : ∃ x, xs[i]? = some x := ⟨_, List.getElem?_eq_getElem hlt⟩
          obtain ⟨ad, rfl, hcell⟩ := (HX.out _ _ hS2.swap.tl).at (iv_get xs i x hk)
          have hso : symOk l x = true := List.all_eq_true.1 HV2.out x (List.mem_of_getElem? hk)
          obtain ⟨S, K, rfl, hS1, hSK, hK0, hK15⟩ := symOk_at l HALL.out x hso
          have hcv := codesV_at l S K hSK
          obtain ⟨g, capg, cur, e, _⟩ := HR.out.2.form (by omega)
          simp only [Value.slice.injEq, true_and] at e
          obtain ⟨rfl, rfl⟩ := e
          have hl1 := HR.out.2.cellAt hS2 1 rfl hcv.1
          have hl2 := HR.out.2.cellAt hS2 1 rfl hcv.2
          rw [if_pos hK0] at hl1
          have htk : (xs.take (i + 1)).flatMap (symBits l) = (xs.take i).flatMap (symBits l) ++ bitsOf (codeP l S) K := by
            rw [List.take_add_one, hk, List.flatMap_append]
            congr 1
            simp only [Option.toList_some, List.flatMap_cons, List.flatMap_nil, List.append_nil, symBits, Int.toNat_natCast]
            rw [List.getD_eq_getElem?_getD, hSK]
            simp
          have hbits : (bits ++ (xs.take i).flatMap (symBits l)).length ≤ 16000000 := by
            have h1 := symsBits_le l HALL.out (xs.take i)
            have h2 : (xs.take i).length ≤ xs.length := List.length_take_le' _ _
            rw [List.length_append]
            omega
          have hcr := codeP_range l S K hSK (by omega)
          have hcs := fstP_small l ((okLens_iff l).1 hok).2.1 K hK15
          have hc32 : (codeP l S : Int) ≤ 32768 := by omega
          have HT := Lib.hid (And.intro htk hbits)
          clear hcv hso hk hSK htk hcr hcs hbits
          go_wp2_with (first | ((with_reducible refine wpStill_plain ?_ ?_ (fun _ _ => ?_)); rfl; rfl) | (with_reducible refine wpStill_nil ?_) | ((with_reducible refine wp_draw_tail (id := 13) 12 mixed ?_ (fun _ hK => ?_)); kernel_rfl; simp only [List.take_succ_cons, List.take_zero, List.drop_succ_cons, List.drop_zero] at hK ⊢))
          refine (put_any p _ (codeP l S : Int) (K : Int) hS2.drew hc2 (by omega) (by omega) (by omega) (by omega) (by have := HT.out.2; omega)).mono ?_
          rintro e w5 ⟨rfl, c5, hc5, hS5⟩
          rw [Int.toNat_natCast, Int.toNat_natCast, List.append_assoc, ← HT.out.1] at hc5
          go_wp2_with fail
          go_roundg m
          case measure => omega
          case rel => exact ⟨i + 1, by omega, by go_num, c5, hc5, hS5⟩
    | succ m =>
      have hlt : i < xs.length := by omega
      obtain ⟨x, hk⟩ : ∃ x, xs[i]? = some x := ⟨_, List.getElem?_eq_getElem hlt⟩
      obtain ⟨ad, rfl, hcell⟩ := (HX.out _ _ HR.out.1.swap.tl).at (iv_get xs i x hk)
      have htk : xs.take (i + 1) = xs.take i ++ [x] := by rw [List.take_add_one, hk]; rfl
      cases hso : symOk l x with
      | false =>
        have hall : xs.all (symOk l) = false := by
          rw [List.all_eq_false]
          exact ⟨x, List.mem_of_getElem? hk, by simp [hso]⟩
        have HA := Lib.hid hall
        clear hk htk hall
        by_cases q1 : x < 0
        · clear hso
          go_wp2_with fail
          go_ret
          exact ⟨by unfold wrErr; rw [HA.out]; rfl, c, by unfold wrBits; rw [HA.out]; exact HC.out, HR.out.1.swap.tl⟩
        by_cases q2 : (l.length : Int) ≤ x
        · clear hso
          go_wp2_with fail
          go_ret
          exact ⟨by unfold wrErr; rw [HA.out]; rfl, c, by unfold wrBits; rw [HA.out]; exact HC.out, HR.out.1.swap.tl⟩
        obtain ⟨S, rfl⟩ := Int.eq_ofNat_of_zero_le (show 0 ≤ x by omega)
        have hSl : S < l.length := by omega
        have hS0 : l[S]? = some ((0 : Nat) : Int) := by
          have h1 : l[S]? = some l[S] := List.getElem?_eq_getElem hSl
          simp only [symOk, Int.toNat_natCast, List.getD_eq_getElem?_getD, h1, Option.getD_some] at hso
          have h2 : l[S] = 0 := by
            refine Classical.byContradiction fun hne => ?_
            have h3 : (l[S] == 0) = false := by simpa using hne
            rw [h3] at hso
            simp at hso
            omega
          rw [h1, h2]
          rfl
        have hcv := codesV_at l S 0 hS0
        obtain ⟨g, capg, cur, e, _⟩ := HR.out.2.form (by omega)
        simp only [Value.slice.injEq, true_and] at e
        obtain ⟨rfl, rfl⟩ := e
        have hl2 := HR.out.2.cellAt HR.out.1 1 rfl hcv.2
        clear hso hcv hS0
        go_wp2_with fail
        go_ret
        exact ⟨by unfold wrErr; rw [HA.out]; rfl, c, by unfold wrBits; rw [HA.out]; exact HC.out, HR.out.1.swap.tl⟩
      | true =>
        have HV3 : Hid ((xs.take (i + 1)).all (symOk l) = true) := Lib.hid (by rw [htk, List.all_append, HV.out]; simp [hso])
        obtain ⟨S, K, rfl, hS1, hSK, hK0, hK15⟩ := symOk_at l HALL.out x hso
        have hcv := codesV_at l S K hSK
        obtain ⟨g, capg, cur, e, _⟩ := HR.out.2.form (by omega)
        simp only [Value.slice.injEq, true_and] at e
        obtain ⟨rfl, rfl⟩ := e
        have hl2 := HR.out.2.cellAt HR.out.1 1 rfl hcv.2
        have q1 : decide ((S : Int) < 0) = false := by simp <;> omega
        have q2 : decide (l.length ≤ S) = false := by simp <;> omega
        have q3 : ((K : Int) == 0) = false := by simp <;> omega
        clear hso hcv hSK hk htk
        go_wp2_with fail
        go_roundg m
        case measure => omega
        case rel => exact ⟨i + 1, by omega, by go_num, HV3, rfl⟩
end
end Go.Proofs.Ythgbkncanoknkaa
