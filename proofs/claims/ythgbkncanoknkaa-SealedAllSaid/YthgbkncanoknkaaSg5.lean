/-
  Texts joined: PureSais, PureSaisB, PureSaisC, Suf.
-/
import Derived.Test.YthgbkncanoknkaaSg2
import Derived.Test.YthgbkncanoknkaaSg1
import Derived.Test.YthgbkncanoknkaaSg4
/-
  Induced sorting of suffixes, plain: kinds, buckets, the three passes over the order's array, and that what comes out is in order by whatever keys go with them.
-/
set_option linter.unusedVariables false
set_option linter.unusedSimpArgs false
namespace Go.Proofs.Ythgbkncanoknkaa

/-! Lists in the order of a dictionary -/
def lexlt : List Nat → List Nat → Bool
  | _, [] => false
  | [], _ :: _ => true
  | a :: as_, b :: bs => decide (a < b) || (a == b && lexlt as_ bs)
theorem lexlt_cons (a b : Nat) (as_ bs : List Nat) : lexlt (a :: as_) (b :: bs) = true ↔ a < b ∨ (a = b ∧ lexlt as_ bs = true) := by simp [lexlt]
theorem lexlt_nil (l : List Nat) : lexlt l [] = false := by cases l <;> rfl
theorem lexlt_irrefl : ∀ l, lexlt l l = false
  | [] => rfl
  | a :: l => by simp [lexlt, lexlt_irrefl l]
theorem lexlt_trans : ∀ a b c, lexlt a b = true → lexlt b c = true → lexlt a c = true
  | a, b, [], _, h => by rw [lexlt_nil] at h; cases h
  | a, [], c :: cs, h, _ => by rw [lexlt_nil] at h; cases h
  | [], b :: bs, c :: cs, _, _ => rfl
  | a :: as_, b :: bs, c :: cs, h1, h2 => by
    rw [lexlt_cons] at h1 h2 ⊢
    rcases h1 with h1 | ⟨rfl, h1⟩ <;> rcases h2 with h2 | ⟨rfl, h2⟩
    · exact .inl (by omega)
    · exact .inl h1
    · exact .inl h2
    · exact .inr ⟨rfl, lexlt_trans _ _ _ h1 h2⟩
theorem lexlt_total : ∀ a b, lexlt a b = true ∨ a = b ∨ lexlt b a = true
  | [], [] => .inr (.inl rfl)
  | [], _ :: _ => .inl rfl
  | _ :: _, [] => .inr (.inr rfl)
  | a :: as_, b :: bs => by
    rw [lexlt_cons, lexlt_cons]
    rcases Nat.lt_trichotomy a b with h | rfl | h
    · exact .inl (.inl h)
    · rcases lexlt_total as_ bs with h | rfl | h
      · exact .inl (.inr ⟨rfl, h⟩)
      · exact .inr (.inl rfl)
      · exact .inr (.inr (.inr ⟨rfl, h⟩))
    · exact .inr (.inr (.inl h))
theorem lexlt_asymm (a b : List Nat) (h : lexlt a b = true) : lexlt b a = false := by
  cases h2 : lexlt b a with
  | false => rfl
  | true => have := lexlt_trans _ _ _ h h2; rw [lexlt_irrefl] at this; cases this
/-- a is not behind b. -/
def lexle (a b : List Nat) : Prop := lexlt b a = false
theorem lexle_refl (a : List Nat) : lexle a a := lexlt_irrefl a
theorem lexle_nil (a : List Nat) : lexle [] a := lexlt_nil a
theorem lexle_of_lt {a b : List Nat} (h : lexlt a b = true) : lexle a b := lexlt_asymm a b h
theorem lexle_iff (a b : List Nat) : lexle a b ↔ a = b ∨ lexlt a b = true := by
  constructor
  · intro h
    rcases lexlt_total a b with h1 | h1 | h1
    · exact .inr h1
    · exact .inl h1
    · rw [show lexlt b a = false from h] at h1; cases h1
  · rintro (rfl | h)
    · exact lexle_refl _
    · exact lexle_of_lt h
theorem lexle_head {a b : Nat} (h : a < b) (as_ bs : List Nat) : lexle (a :: as_) (b :: bs) := lexle_of_lt ((lexlt_cons _ _ _ _).2 (.inl h))
theorem lexle_cons {a : Nat} {as_ bs : List Nat} (h : lexle as_ bs) : lexle (a :: as_) (a :: bs) := by
  unfold lexle at *
  cases h2 : lexlt (a :: bs) (a :: as_) with
  | false => rfl
  | true =>
    rw [lexlt_cons, h] at h2
    rcases h2 with h2 | ⟨_, h2⟩
    · omega
    · cases h2

/-! Kinds and buckets -/
def ch (s : List Nat) (i : Nat) : Nat := s.getD i 0
def smF (s : List Nat) : Nat → Nat → Bool
  | 0, _ => false
  | d + 1, i => decide (ch s i < ch s (i + 1)) || (ch s i == ch s (i + 1) && smF s d (i + 1))
/-- The suffix is less than the next one. -/
def sm (s : List Nat) (i : Nat) : Bool := smF s (s.length - 1 - i) i
theorem sm_last (s : List Nat) (i : Nat) (h : s.length ≤ i + 1) : sm s i = false := by
  unfold sm
  rw [show s.length - 1 - i = 0 from by omega]
  rfl
theorem sm_step (s : List Nat) (i : Nat) (h : i + 1 < s.length) : sm s i = (decide (ch s i < ch s (i + 1)) || (ch s i == ch s (i + 1) && sm s (i + 1))) := by
  unfold sm
  rw [show s.length - 1 - i = (s.length - 1 - (i + 1)) + 1 from by omega, smF]
theorem sm_true (s : List Nat) (i : Nat) (h : sm s i = true) : i + 1 < s.length ∧ (ch s i < ch s (i + 1) ∨ ch s i = ch s (i + 1) ∧ sm s (i + 1) = true) := by
  have h1 : i + 1 < s.length := by
    rcases Nat.lt_or_ge (i + 1) s.length with h1 | h1
    · exact h1
    · rw [sm_last s i h1] at h; cases h
  refine ⟨h1, ?_⟩
  rw [sm_step s i h1] at h
  simpa using h
theorem sm_false (s : List Nat) (i : Nat) (h : sm s i = false) (h1 : i + 1 < s.length) : ch s (i + 1) < ch s i ∨ ch s (i + 1) = ch s i ∧ sm s (i + 1) = false := by
  rw [sm_step s i h1] at h
  simp at h
  rcases Nat.lt_or_ge (ch s (i + 1)) (ch s i) with h2 | h2
  · exact .inl h2
  · have : ch s (i + 1) = ch s i := by omega
    exact .inr ⟨this, h.2 this.symm⟩
/-- A mark: small, behind one that is not. -/
def lms (s : List Nat) (i : Nat) : Bool := decide (1 ≤ i) && sm s i && !sm s (i - 1)
theorem lms_sm {s : List Nat} {i : Nat} (h : lms s i = true) : sm s i = true := by simp [lms] at h; exact h.1.2
theorem lms_succ (s : List Nat) (i : Nat) : lms s (i + 1) = (sm s (i + 1) && !sm s i) := by simp [lms]
def Lpos (s : List Nat) (c : Nat) : List Nat := (List.range s.length).filter fun i => ch s i == c && !sm s i
def Spos (s : List Nat) (c : Nat) : List Nat := (List.range s.length).filter fun i => ch s i == c && sm s i
theorem mem_Lpos (s : List Nat) (c i : Nat) : i ∈ Lpos s c ↔ i < s.length ∧ ch s i = c ∧ sm s i = false := by simp [Lpos]
theorem mem_Spos (s : List Nat) (c i : Nat) : i ∈ Spos s c ↔ i < s.length ∧ ch s i = c ∧ sm s i = true := by simp [Spos]
/-- Where the bucket of a number begins, and its small ones. -/
def gB (s : List Nat) : Nat → Nat
  | 0 => 0
  | c + 1 => gB s c + (Lpos s c).length + (Spos s c).length
def lB (s : List Nat) (c : Nat) : Nat := gB s c + (Lpos s c).length
theorem gB_succ (s : List Nat) (c : Nat) : gB s (c + 1) = lB s c + (Spos s c).length := rfl
theorem gB_le_lB (s : List Nat) (c : Nat) : gB s c ≤ lB s c := by unfold lB; omega
theorem lB_le_gB (s : List Nat) (c : Nat) : lB s c ≤ gB s (c + 1) := by rw [gB_succ]; omega
theorem gB_mono (s : List Nat) {a b : Nat} (h : a ≤ b) : gB s a ≤ gB s b := by
  induction b with
  | zero => have : a = 0 := by omega
            subst this; exact Nat.le_refl _
  | succ b ih =>
    by_cases e : a = b + 1
    · subst e; exact Nat.le_refl _
    · have h1 := ih (by omega)
      have h2 := gB_le_lB s b
      have h3 := lB_le_gB s b
      omega
theorem filter_parts (l : List Nat) (p q r : Nat → Bool) (t : Nat → Bool) (h : ∀ x, (t x).toNat = (p x).toNat + (q x).toNat + (r x).toNat) : (l.filter t).length = (l.filter p).length + (l.filter q).length + (l.filter r).length := by
  induction l with
  | nil => rfl
  | cons x l ih =>
    have hx := h x
    simp only [List.filter_cons]
    revert hx
    cases t x <;> cases p x <;> cases q x <;> cases r x <;> intro hx <;> simp only [Bool.toNat_true, Bool.toNat_false, if_true, if_false, Bool.false_eq_true, List.length_cons] at hx ⊢ <;> omega
theorem gB_eq (s : List Nat) (c : Nat) : gB s c = ((List.range s.length).filter fun i => decide (ch s i < c)).length := by
  induction c with
  | zero => rw [List.filter_eq_nil_iff.2 (by intro a _; simp)]; rfl
  | succ c ih =>
    rw [gB, ih, Lpos, Spos]
    symm
    apply filter_parts
    intro x
    by_cases h1 : ch s x < c
    · have h2 : ch s x < c + 1 := by omega
      have h3 : (ch s x == c) = false := by simp; omega
      simp [h1, h2, h3]
    · by_cases h2 : ch s x = c
      · cases hs : sm s x <;> simp [h2, hs]
      · have h3 : ¬ ch s x < c + 1 := by omega
        have h4 : (ch s x == c) = false := by simpa using h2
        simp [h1, h3, h4]
theorem ch_mem (s : List Nat) (i : Nat) (h : i < s.length) : ch s i ∈ s := by
  unfold ch
  rw [List.getD_eq_getElem?_getD, List.getElem?_eq_getElem h]
  exact List.getElem_mem _
theorem gB_total (s : List Nat) (mx : Nat) (h : ∀ x ∈ s, x ≤ mx) : gB s (mx + 1) = s.length := by
  rw [gB_eq, List.filter_eq_self.2, List.length_range]
  intro i hi
  have := h _ (ch_mem s i (by simpa using hi))
  simp; omega
/-- The bucket of a place. -/
theorem bucket (s : List Nat) (i : Nat) : ∀ m, i < gB s m → ∃ c, c < m ∧ gB s c ≤ i ∧ i < gB s (c + 1)
  | 0, h => by simp [gB] at h
  | m + 1, h => by
    by_cases h1 : i < gB s m
    · obtain ⟨c, h2, h3⟩ := bucket s i m h1
      exact ⟨c, by omega, h3⟩
    · exact ⟨m, by omega, by omega, h⟩
theorem bucket_unique (s : List Nat) {i c d : Nat} (h1 : gB s c ≤ i) (h2 : i < gB s (c + 1)) (h3 : gB s d ≤ i) (h4 : i < gB s (d + 1)) : c = d := by
  rcases Nat.lt_trichotomy c d with h | h | h
  · have := gB_mono s (show c + 1 ≤ d from h); omega
  · exact h
  · have := gB_mono s (show d + 1 ≤ c from h); omega
theorem nodup_at {l : List Nat} (h : l.Nodup) {i j x : Nat} (hi : l[i]? = some x) (hj : l[j]? = some x) : i = j :=
  (List.getElem?_inj (List.getElem?_eq_some_iff.1 hi).1 h).1 (hi.trans hj.symm)
theorem full_of_len {l m : List Nat} (hl : l.Nodup) (hm : m.Nodup) (hsub : l ⊆ m) (hlen : m.length ≤ l.length) : m ⊆ l := by
  intro x hx
  refine Classical.byContradiction fun hn => ?_
  have h1 : (x :: l).Nodup := List.nodup_cons.2 ⟨hn, hl⟩
  have h2 : (x :: l) ⊆ m := by
    intro y hy
    rcases List.mem_cons.1 hy with rfl | hy
    · exact hx
    · exact hsub hy
  have := h1.length_le_of_subset h2
  simp at this
  omega
theorem Lpos_nodup (s : List Nat) (c : Nat) : (Lpos s c).Nodup := List.Pairwise.filter _ List.nodup_range
theorem Spos_nodup (s : List Nat) (c : Nat) : (Spos s c).Nodup := List.Pairwise.filter _ List.nodup_range

/-! The marks are laid -/
structure MarksOk (s M : List Nat) : Prop where
  nd : M.Nodup
  mem : ∀ m, m ∈ M ↔ m < s.length ∧ lms s m = true
def ofCh (s M : List Nat) (c : Nat) : List Nat := M.filter fun m => ch s m == c
theorem mem_ofCh (s M : List Nat) (c m : Nat) : m ∈ ofCh s M c ↔ m ∈ M ∧ ch s m = c := by simp [ofCh]
theorem MarksOk.sub {s M : List Nat} (h : MarksOk s M) (c : Nat) : ofCh s M c ⊆ Spos s c := by
  intro m hm
  rw [mem_ofCh] at hm
  have := (h.mem m).1 hm.1
  exact (mem_Spos s c m).2 ⟨this.1, hm.2, lms_sm this.2⟩
theorem MarksOk.ndCh {s M : List Nat} (h : MarksOk s M) (c : Nat) : (ofCh s M c).Nodup := List.Pairwise.filter _ h.nd
theorem ofCh_take_succ (s M : List Nat) (k m c : Nat) (h : M[k]? = some m) : ofCh s (M.take (k + 1)) c = ofCh s (M.take k) c ++ (if ch s m = c then [m] else []) := by
  unfold ofCh
  rw [List.take_add_one, h, List.filter_append]
  congr 1
  by_cases e : ch s m = c <;> simp [e]
theorem ofCh_take_le (s M : List Nat) (k c : Nat) : (ofCh s (M.take k) c).length ≤ (ofCh s M c).length := ((List.take_sublist k M).filter _).length_le
structure InvM (s : List Nat) (mx : Nat) (M : List Nat) (k : Nat) (sa at_ : List Int) : Prop where
  len : sa.length = s.length
  alen : at_.length = mx + 2
  atv : ∀ c, c ≤ mx → at_[c]? = some ((lB s c + (ofCh s (M.take k) c).length : Nat) : Int)
  ms : ∀ c, c ≤ mx → ∀ (j m : Nat), (ofCh s (M.take k) c)[j]? = some m → sa[lB s c + j]? = some (m : Int)
  fr : ∀ c, c ≤ mx → ∀ j, gB s c ≤ j → j < lB s c → sa[j]? = some (-1)
  fs : ∀ c, c ≤ mx → ∀ j, lB s c + (ofCh s (M.take k) c).length ≤ j → j < gB s (c + 1) → sa[j]? = some (-1)
  rng : ∀ v ∈ sa, v < (s.length : Int)
theorem place_set {sa : List Int} {a j : Nat} {x y : Int} (h : sa[j]? = some y) (hne : a ≠ j) : (sa.set a x)[j]? = some y := by
  rw [List.getElem?_set_ne hne]; exact h
theorem InvM.step {s : List Nat} {mx : Nat} {M : List Nat} {k : Nat} {sa at_ : List Int} (h : InvM s mx M k sa at_) (hM : MarksOk s M) (hmx : ∀ x ∈ s, x ≤ mx) {m : Nat} (hm : M[k]? = some m) :
    ∃ a : Nat, at_[ch s m]? = some (a : Int) ∧ a < s.length ∧ InvM s mx M (k + 1) (sa.set a (m : Int)) (at_.set (ch s m) ((a : Int) + 1)) := by
  have hmM := (hM.mem m).1 (List.mem_of_getElem? hm)
  have hc : ch s m ≤ mx := hmx _ (ch_mem s m hmM.1)
  have hstep := ofCh_take_succ s M k m
  have hle : (ofCh s (M.take (k + 1)) (ch s m)).length ≤ (Spos s (ch s m)).length :=
    Nat.le_trans (ofCh_take_le s M (k + 1) _) ((hM.ndCh _).length_le_of_subset (hM.sub _))
  have hlen1 : (ofCh s (M.take (k + 1)) (ch s m)).length = (ofCh s (M.take k) (ch s m)).length + 1 := by rw [hstep _ hm]; simp
  have hlt : lB s (ch s m) + (ofCh s (M.take k) (ch s m)).length < gB s (ch s m + 1) := by rw [gB_succ]; omega
  have htot := gB_total s mx hmx
  have hmono := gB_mono s (show ch s m + 1 ≤ mx + 1 by omega)
  have hgl := gB_le_lB s (ch s m)
  refine ⟨_, h.atv _ hc, by omega, ?_⟩
  have other : ∀ c j, c ≤ mx → c ≠ ch s m → gB s c ≤ j → j < gB s (c + 1) → lB s (ch s m) + (ofCh s (M.take k) (ch s m)).length ≠ j := by
    intro c j _ hne h1 h2 e
    exact hne (bucket_unique s h1 h2 (show gB s (ch s m) ≤ j by omega) (by omega))
  refine ⟨by rw [List.length_set]; exact h.len, by rw [List.length_set]; exact h.alen, ?_, ?_, ?_, ?_, ?_⟩
  · intro c hcm
    by_cases e : c = ch s m
    · subst e
      rw [List.getElem?_set_self (by rw [h.alen]; omega), hlen1]
      simp; omega
    · rw [List.getElem?_set_ne (fun e2 => e e2.symm), h.atv c hcm, hstep c hm, if_neg (fun e2 => e e2.symm)]
      simp
  · intro c hcm j x hx
    rw [hstep c hm] at hx
    by_cases e : ch s m = c
    · subst e
      rw [if_pos rfl, List.getElem?_append] at hx
      split at hx
      · rename_i hj
        exact place_set (h.ms _ hcm j x hx) (by omega)
      · rename_i hj
        have hj0 : j = (ofCh s (M.take k) (ch s m)).length := by
          rcases Nat.lt_or_ge (ofCh s (M.take k) (ch s m)).length j with h1 | h1
          · rw [List.getElem?_eq_none (by simp; omega)] at hx; cases hx
          · omega
        subst hj0
        simp at hx
        subst hx
        rw [List.getElem?_set_self (by rw [h.len]; omega)]
    · rw [if_neg e, List.append_nil] at hx
      have hj := (List.getElem?_eq_some_iff.1 hx).1
      have hle2 : (ofCh s (M.take k) c).length ≤ (Spos s c).length := Nat.le_trans (ofCh_take_le s M k c) ((hM.ndCh c).length_le_of_subset (hM.sub c))
      have h2 := gB_succ s c
      have h3 := gB_le_lB s c
      exact place_set (h.ms c hcm j x hx) (other c _ hcm (fun e2 => e e2.symm) (by omega) (by omega))
  · intro c hcm j h1 h2
    have h3 := lB_le_gB s c
    by_cases e : c = ch s m
    · subst e
      exact place_set (h.fr _ hcm j h1 h2) (by omega)
    · exact place_set (h.fr c hcm j h1 h2) (other c j hcm e h1 (by omega))
  · intro c hcm j h1 h2
    have h3 := gB_le_lB s c
    rw [hstep c hm] at h1
    by_cases e : ch s m = c
    · subst e
      rw [if_pos rfl, List.length_append] at h1
      simp at h1
      exact place_set (h.fs _ hcm j (by omega) h2) (by omega)
    · rw [if_neg e, List.append_nil] at h1
      exact place_set (h.fs c hcm j h1 h2) (other c j hcm (fun e2 => e e2.symm) (by omega) h2)
  · intro v hv
    rcases List.mem_or_eq_of_mem_set hv with hv | rfl
    · exact h.rng v hv
    · exact Int.ofNat_lt.2 hmM.1
theorem InvM.init (s : List Nat) (mx : Nat) (M : List Nat) (at_ : List Int) (hmx : ∀ x ∈ s, x ≤ mx) (halen : at_.length = mx + 2) (hat : ∀ c, c ≤ mx → at_[c]? = some (lB s c : Int)) : InvM s mx M 0 (List.replicate s.length (-1)) at_ := by
  have htot := gB_total s mx hmx
  refine ⟨by simp, halen, ?_, ?_, ?_, ?_, ?_⟩
  · intro c hc; rw [hat c hc]; simp [ofCh]
  · intro c hc j m hm; simp [ofCh] at hm
  · intro c hc j h1 h2
    have h3 := lB_le_gB s c
    have h4 := gB_mono s (show c + 1 ≤ mx + 1 by omega)
    rw [List.getElem?_replicate, if_pos (by omega)]
  · intro c hc j h1 h2
    have h4 := gB_mono s (show c + 1 ≤ mx + 1 by omega)
    rw [List.getElem?_replicate, if_pos (by omega)]
  · intro v hv
    rw [List.mem_replicate] at hv
    omega

/-! The great ones follow -/
def predL (s : List Nat) (c : Nat) (v : Int) : Option Nat := if 1 ≤ v ∧ sm s (v.toNat - 1) = false ∧ ch s (v.toNat - 1) = c then some (v.toNat - 1) else none
def PL (s : List Nat) (c : Nat) (Q : List Int) : List Nat := Q.filterMap (predL s c)
theorem mem_PL (s : List Nat) (c : Nat) (Q : List Int) (p : Nat) : p ∈ PL s c Q ↔ ((p : Int) + 1) ∈ Q ∧ sm s p = false ∧ ch s p = c := by
  unfold PL
  rw [List.mem_filterMap]
  constructor
  · rintro ⟨v, hv, h⟩
    unfold predL at h
    split at h
    · rename_i h1
      simp at h
      obtain ⟨h1, h2, h3⟩ := h1
      have : v = (p : Int) + 1 := by omega
      subst this
      rw [show ((p : Int) + 1).toNat - 1 = p from by omega] at h2 h3
      exact ⟨hv, h2, h3⟩
    · cases h
  · rintro ⟨h1, h2, h3⟩
    refine ⟨_, h1, ?_⟩
    unfold predL
    rw [show ((p : Int) + 1).toNat - 1 = p from by omega, if_pos ⟨by omega, h2, h3⟩]
theorem PL_snoc (s : List Nat) (c : Nat) (Q : List Int) (v : Int) : PL s c (Q ++ [v]) = PL s c Q ++ (predL s c v).toList := by
  unfold PL
  rw [List.filterMap_append]
  congr 1
/-- What has been looked at, behind the end. -/
def seenL (s : List Nat) (i : Nat) (sa : List Int) : List Int := (s.length : Int) :: sa.take i
structure InvL (s : List Nat) (mx : Nat) (M : List Nat) (i : Nat) (sa at_ : List Int) : Prop where
  len : sa.length = s.length
  alen : at_.length = mx + 2
  atv : ∀ c, c ≤ mx → at_[c]? = some ((gB s c + (PL s c (seenL s i sa)).length : Nat) : Int)
  pl : ∀ c, c ≤ mx → ∀ (j p : Nat), (PL s c (seenL s i sa))[j]? = some p → sa[gB s c + j]? = some (p : Int)
  fr : ∀ c, c ≤ mx → ∀ j, gB s c + (PL s c (seenL s i sa)).length ≤ j → j < lB s c → sa[j]? = some (-1)
  ms : ∀ c, c ≤ mx → ∀ (j m : Nat), (ofCh s M c)[j]? = some m → sa[lB s c + j]? = some (m : Int)
  fs : ∀ c, c ≤ mx → ∀ j, lB s c + (ofCh s M c).length ≤ j → j < gB s (c + 1) → sa[j]? = some (-1)
  rng : ∀ v ∈ sa, v < (s.length : Int)
  nd : ∀ c, (PL s c (seenL s i sa)).Nodup
section
variable {s : List Nat} {mx : Nat} {M : List Nat} {i : Nat} {sa at_ : List Int}
theorem InvL.sub (h : InvL s mx M i sa at_) (c : Nat) : PL s c (seenL s i sa) ⊆ Lpos s c := by
  intro p hp
  rw [mem_PL] at hp
  refine (mem_Lpos s c p).2 ⟨?_, hp.2.2, hp.2.1⟩
  rcases List.mem_cons.1 hp.1 with h1 | h1
  · omega
  · have := h.rng _ (List.mem_of_mem_take h1); omega
theorem InvL.le (h : InvL s mx M i sa at_) (c : Nat) : (PL s c (seenL s i sa)).length ≤ (Lpos s c).length := (h.nd c).length_le_of_subset (h.sub c)
/-- What stands at a place. -/
theorem InvL.val (h : InvL s mx M i sa at_) (hM : MarksOk s M) (hmx : ∀ x ∈ s, x ≤ mx) {k : Nat} (hk : k < s.length) : ∃ c, c ≤ mx ∧ gB s c ≤ k ∧ k < gB s (c + 1) ∧
    ((∃ j p : Nat, k = gB s c + j ∧ (PL s c (seenL s i sa))[j]? = some p ∧ sa[k]? = some (p : Int)) ∨ sa[k]? = some (-1) ∨ (∃ j m : Nat, k = lB s c + j ∧ (ofCh s M c)[j]? = some m ∧ sa[k]? = some (m : Int))) := by
  obtain ⟨c, hc, h1, h2⟩ := bucket s k (mx + 1) (by rw [gB_total s mx hmx]; exact hk)
  refine ⟨c, by omega, h1, h2, ?_⟩
  by_cases g1 : k < gB s c + (PL s c (seenL s i sa)).length
  · left
    obtain ⟨p, hp⟩ : ∃ p, (PL s c (seenL s i sa))[k - gB s c]? = some p := ⟨_, List.getElem?_eq_getElem (by omega)⟩
    have := h.pl c (by omega) _ p hp
    rw [show gB s c + (k - gB s c) = k from by omega] at this
    exact ⟨k - gB s c, p, by omega, hp, this⟩
  · by_cases g2 : k < lB s c
    · exact .inr (.inl (h.fr c (by omega) k (by omega) g2))
    · by_cases g3 : k < lB s c + (ofCh s M c).length
      · right; right
        obtain ⟨p, hp⟩ : ∃ p, (ofCh s M c)[k - lB s c]? = some p := ⟨_, List.getElem?_eq_getElem (by omega)⟩
        have := h.ms c (by omega) _ p hp
        rw [show lB s c + (k - lB s c) = k from by omega] at this
        exact ⟨k - lB s c, p, by omega, hp, this⟩
      · exact .inr (.inl (h.fs c (by omega) k (by omega) h2))
/-- A place that holds a suffix: its bucket, and its kind. -/
theorem InvL.kind (h : InvL s mx M i sa at_) (hM : MarksOk s M) (hmx : ∀ x ∈ s, x ≤ mx) {k v : Nat} (hv : sa[k]? = some (v : Int)) : v < s.length ∧ ch s v ≤ mx ∧ gB s (ch s v) ≤ k ∧ k < gB s (ch s v + 1) ∧
    ((sm s v = false ∧ k < gB s (ch s v) + (PL s (ch s v) (seenL s i sa)).length ∧ (PL s (ch s v) (seenL s i sa))[k - gB s (ch s v)]? = some v) ∨ (sm s v = true ∧ lms s v = true ∧ lB s (ch s v) ≤ k ∧ (ofCh s M (ch s v))[k - lB s (ch s v)]? = some v)) := by
  have hk : k < s.length := by rw [← h.len]; exact (List.getElem?_eq_some_iff.1 hv).1
  obtain ⟨c, hc, h1, h2, h3⟩ := h.val hM hmx hk
  rcases h3 with ⟨j, p, e, hp, hx⟩ | hx | ⟨j, m, e, hm, hx⟩
  · rw [hv] at hx
    simp at hx
    obtain rfl : v = p := by omega
    have hm := (mem_Lpos s c v).1 (h.sub c (List.mem_of_getElem? hp))
    have hj := (List.getElem?_eq_some_iff.1 hp).1
    obtain ⟨h4, rfl, h6⟩ := hm
    refine ⟨h4, hc, h1, h2, .inl ⟨h6, by omega, ?_⟩⟩
    rw [show k - gB s (ch s v) = j from by omega]
    exact hp
  · rw [hv] at hx
    simp at hx
  · rw [hv] at hx
    simp at hx
    obtain rfl : v = m := by omega
    have hmm := (mem_ofCh s M c v).1 (List.mem_of_getElem? hm)
    have h4 := (hM.mem v).1 hmm.1
    obtain ⟨h5, rfl⟩ := hmm
    refine ⟨h4.1, hc, h1, h2, .inr ⟨lms_sm h4.2, h4.2, by omega, ?_⟩⟩
    rw [show k - lB s (ch s v) = j from by omega]
    exact hm
theorem InvL.inj (h : InvL s mx M i sa at_) (hM : MarksOk s M) (hmx : ∀ x ∈ s, x ≤ mx) {k l v : Nat} (hk : sa[k]? = some (v : Int)) (hl : sa[l]? = some (v : Int)) : k = l := by
  obtain ⟨_, _, a1, _, a2⟩ := h.kind hM hmx hk
  obtain ⟨_, _, b1, _, b2⟩ := h.kind hM hmx hl
  rcases a2 with ⟨a3, _, a4⟩ | ⟨a3, _, a5, a4⟩ <;> rcases b2 with ⟨b3, _, b4⟩ | ⟨b3, _, b5, b4⟩
  · have := nodup_at (h.nd _) a4 b4; omega
  · rw [a3] at b3; cases b3
  · rw [a3] at b3; cases b3
  · have := nodup_at (hM.ndCh _) a4 b4; omega
theorem seenL_succ (s : List Nat) (i : Nat) (sa : List Int) (v : Int) (hv : sa[i]? = some v) : seenL s (i + 1) sa = seenL s i sa ++ [v] := by
  unfold seenL
  rw [List.take_add_one, hv]
  rfl
theorem predL_none (s : List Nat) (c : Nat) (v : Int) (h : ¬ (1 ≤ v ∧ sm s (v.toNat - 1) = false)) : predL s c v = none := by
  unfold predL
  rw [if_neg fun e => h ⟨e.1, e.2.1⟩]
theorem predL_at (s : List Nat) (c p : Nat) (h : sm s p = false) : predL s c ((p : Int) + 1) = if ch s p = c then some p else none := by
  unfold predL
  rw [show ((p : Int) + 1).toNat - 1 = p from by omega]
  by_cases e : ch s p = c
  · rw [if_pos ⟨by omega, h, e⟩, if_pos e]
  · rw [if_neg (fun x => e x.2.2), if_neg e]
theorem InvL.skip (h : InvL s mx M i sa at_) (v : Int) (hv : sa[i]? = some v) (hn : ¬ (1 ≤ v ∧ sm s (v.toNat - 1) = false)) : InvL s mx M (i + 1) sa at_ := by
  have e : ∀ c, PL s c (seenL s (i + 1) sa) = PL s c (seenL s i sa) := by
    intro c
    rw [seenL_succ s i sa v hv, PL_snoc, predL_none s c v hn]
    simp
  exact ⟨h.len, h.alen, fun c hc => by rw [e]; exact h.atv c hc, fun c hc => by rw [e]; exact h.pl c hc, fun c hc => by rw [e]; exact h.fr c hc, h.ms, h.fs, h.rng, fun c => by rw [e]; exact h.nd c⟩
theorem InvL.step (h : InvL s mx M i sa at_) (hM : MarksOk s M) (hmx : ∀ x ∈ s, x ≤ mx) {p : Nat} (hv : sa[i]? = some ((p : Int) + 1)) (hp : sm s p = false) :
    p + 1 < s.length ∧ ∃ a : Nat, at_[ch s p]? = some (a : Int) ∧ a < s.length ∧ InvL s mx M (i + 1) (sa.set a (p : Int)) (at_.set (ch s p) ((a : Int) + 1)) := by
  have hv' : sa[i]? = some ((p + 1 : Nat) : Int) := by rw [hv]; simp
  obtain ⟨k1, k2, k3, k4, k5⟩ := h.kind hM hmx hv'
  refine ⟨k1, ?_⟩
  have hpn : p < s.length := by omega
  have hc : ch s p ≤ mx := hmx _ (ch_mem s p hpn)
  have hsf := sm_false s p hp k1
  have hnot : p ∉ PL s (ch s p) (seenL s i sa) := by
    intro hm
    rw [mem_PL] at hm
    rcases List.mem_cons.1 hm.1 with h1 | h1
    · omega
    · obtain ⟨j, hj⟩ := List.mem_iff_getElem?.1 h1
      rw [List.getElem?_take] at hj
      split at hj
      · rename_i hji
        rw [show ((p : Int) + 1) = ((p + 1 : Nat) : Int) from by simp] at hj
        have := h.inj hM hmx hj hv'
        omega
      · cases hj
  have hnd : (PL s (ch s p) (seenL s i sa) ++ [p]).Nodup := by
    rw [List.nodup_append]
    refine ⟨h.nd _, by simp, ?_⟩
    intro x hx y hy e
    simp at hy
    subst hy; subst e
    exact hnot hx
  have hle : (PL s (ch s p) (seenL s i sa)).length + 1 ≤ (Lpos s (ch s p)).length := by
    have := hnd.length_le_of_subset (l₂ := Lpos s (ch s p)) (by
      intro x hx
      rcases List.mem_append.1 hx with hx | hx
      · exact h.sub _ hx
      · simp at hx; subst hx; exact (mem_Lpos _ _ _).2 ⟨hpn, rfl, hp⟩)
    simpa using this
  have hgl : gB s (ch s p) + (PL s (ch s p) (seenL s i sa)).length < lB s (ch s p) := by unfold lB; omega
  have hlg := lB_le_gB s (ch s p)
  have htot := gB_total s mx hmx
  have hmono := gB_mono s (show ch s p + 1 ≤ mx + 1 by omega)
  have hai : i < gB s (ch s p) + (PL s (ch s p) (seenL s i sa)).length := by
    rcases hsf with h1 | ⟨h1, h2⟩
    · have := gB_mono s (show ch s (p + 1) + 1 ≤ ch s p by omega)
      omega
    · rw [h1] at k5
      rcases k5 with ⟨_, h3, _⟩ | ⟨h3, _⟩
      · exact h3
      · rw [h2] at h3; cases h3
  refine ⟨_, h.atv _ hc, by omega, ?_⟩
  have other : ∀ c j, c ≤ mx → c ≠ ch s p → gB s c ≤ j → j < gB s (c + 1) → gB s (ch s p) + (PL s (ch s p) (seenL s i sa)).length ≠ j := by
    intro c j _ hne h1 h2 e
    exact hne (bucket_unique s h1 h2 (show gB s (ch s p) ≤ j by omega) (by omega))
  have hQ : seenL s (i + 1) (sa.set (gB s (ch s p) + (PL s (ch s p) (seenL s i sa)).length) (p : Int)) = seenL s i sa ++ [(p : Int) + 1] := by
    have h1 : (sa.set (gB s (ch s p) + (PL s (ch s p) (seenL s i sa)).length) (p : Int)).take (i + 1) = sa.take (i + 1) := List.take_set_of_le (by omega)
    show (s.length : Int) :: (sa.set _ _).take (i + 1) = _
    rw [h1, List.take_add_one, hv]
    rfl
  have hPL : ∀ c, PL s c (seenL s (i + 1) (sa.set (gB s (ch s p) + (PL s (ch s p) (seenL s i sa)).length) (p : Int))) = PL s c (seenL s i sa) ++ (if ch s p = c then [p] else []) := by
    intro c
    rw [hQ, PL_snoc, predL_at s c p hp]
    by_cases e : ch s p = c <;> simp [e]
  generalize ha : gB s (ch s p) + (PL s (ch s p) (seenL s i sa)).length = a at *
  refine ⟨by rw [List.length_set]; exact h.len, by rw [List.length_set]; exact h.alen, ?_, ?_, ?_, ?_, ?_, ?_, ?_⟩
  · intro c hcm
    rw [hPL]
    by_cases e : ch s p = c
    · subst e
      rw [List.getElem?_set_self (by rw [h.alen]; omega), if_pos rfl, List.length_append]
      simp; omega
    · rw [List.getElem?_set_ne e, h.atv c hcm, if_neg e]
      simp
  · intro c hcm j x hx
    rw [hPL] at hx
    by_cases e : ch s p = c
    · subst e
      rw [if_pos rfl, List.getElem?_append] at hx
      split at hx
      · exact place_set (h.pl _ hcm j x hx) (by omega)
      · have hj0 : j = (PL s (ch s p) (seenL s i sa)).length := by
          rcases Nat.lt_or_ge (PL s (ch s p) (seenL s i sa)).length j with h1 | h1
          · rw [List.getElem?_eq_none (by simp; omega)] at hx; cases hx
          · omega
        subst hj0
        simp at hx
        subst hx
        rw [ha, List.getElem?_set_self (by rw [h.len]; omega)]
    · rw [if_neg e, List.append_nil] at hx
      have hj := (List.getElem?_eq_some_iff.1 hx).1
      have h2 := h.le c
      have h3 := lB_le_gB s c
      have h4 : lB s c = gB s c + (Lpos s c).length := rfl
      exact place_set (h.pl c hcm j x hx) (other c _ hcm (fun e2 => e e2.symm) (by omega) (by omega))
  · intro c hcm j h1 h2
    have h3 := lB_le_gB s c
    rw [hPL] at h1
    by_cases e : ch s p = c
    · subst e
      rw [if_pos rfl, List.length_append] at h1
      simp at h1
      exact place_set (h.fr _ hcm j (by omega) h2) (by omega)
    · rw [if_neg e, List.append_nil] at h1
      exact place_set (h.fr c hcm j h1 h2) (other c j hcm (fun e2 => e e2.symm) (by omega) (by omega))
  · intro c hcm j m hm
    have hj := (List.getElem?_eq_some_iff.1 hm).1
    have h2 := (hM.ndCh c).length_le_of_subset (hM.sub c)
    have h3 := gB_succ s c
    have h4 := gB_le_lB s c
    by_cases e : c = ch s p
    · subst e
      exact place_set (h.ms _ hcm j m hm) (by omega)
    · exact place_set (h.ms c hcm j m hm) (other c _ hcm e (by omega) (by omega))
  · intro c hcm j h1 h2
    have h4 := gB_le_lB s c
    by_cases e : c = ch s p
    · subst e
      exact place_set (h.fs _ hcm j h1 h2) (by omega)
    · exact place_set (h.fs c hcm j h1 h2) (other c _ hcm e (by omega) (by omega))
  · intro v hv
    rcases List.mem_or_eq_of_mem_set hv with hv | rfl
    · exact h.rng v hv
    · omega
  · intro c
    rw [hPL]
    by_cases e : ch s p = c
    · subst e; rw [if_pos rfl]; exact hnd
    · rw [if_neg e, List.append_nil]; exact h.nd c
end
/-- The last suffix is laid. -/
theorem InvL.init {s : List Nat} {mx : Nat} {M : List Nat} {sa at0 at_ : List Int} (h : InvM s mx M M.length sa at0) (hM : MarksOk s M) (hmx : ∀ x ∈ s, x ≤ mx) (hn : 1 ≤ s.length) (halen : at_.length = mx + 2) (hat : ∀ c, c ≤ mx → at_[c]? = some (gB s c : Int)) :
    gB s (ch s (s.length - 1)) < s.length ∧ InvL s mx M 0 (sa.set (gB s (ch s (s.length - 1))) ((s.length : Int) - 1)) (at_.set (ch s (s.length - 1)) ((gB s (ch s (s.length - 1)) : Int) + 1)) := by
  obtain ⟨p, hp⟩ : ∃ p, p = s.length - 1 := ⟨_, rfl⟩
  have hs : s.length = p + 1 := by omega
  rw [← hp]
  have hsp := sm_last s p (by omega)
  have hc : ch s p ≤ mx := hmx _ (ch_mem s p (by omega))
  have hmem : p ∈ Lpos s (ch s p) := (mem_Lpos _ _ _).2 ⟨by omega, rfl, hsp⟩
  have hpos : 1 ≤ (Lpos s (ch s p)).length := List.length_pos_of_mem hmem
  have hgl : gB s (ch s p) < lB s (ch s p) := by unfold lB; omega
  have hlg := lB_le_gB s (ch s p)
  have htot := gB_total s mx hmx
  have hmono := gB_mono s (show ch s p + 1 ≤ mx + 1 by omega)
  have hM' := h.ms
  rw [List.take_length] at hM'
  have hfs := h.fs
  rw [List.take_length] at hfs
  have hPL : ∀ c (X : List Int), PL s c (seenL s 0 X) = if ch s p = c then [p] else [] := by
    intro c X
    have : seenL s 0 X = [] ++ [(p : Int) + 1] := by simp [seenL, hs]
    rw [this, PL_snoc, predL_at s c p hsp]
    by_cases e : ch s p = c <;> simp [e, PL]
  have other : ∀ c j, c ≤ mx → c ≠ ch s p → gB s c ≤ j → j < gB s (c + 1) → gB s (ch s p) ≠ j := by
    intro c j _ hne h1 h2 e
    exact hne (bucket_unique s h1 h2 (show gB s (ch s p) ≤ j by omega) (by omega))
  have hv : ((s.length : Int) - 1) = (p : Int) := by omega
  rw [hv]
  refine ⟨by omega, by rw [List.length_set]; exact h.len, by rw [List.length_set]; exact halen, ?_, ?_, ?_, ?_, ?_, ?_, ?_⟩
  · intro c hcm
    rw [hPL]
    by_cases e : ch s p = c
    · subst e
      rw [List.getElem?_set_self (by rw [halen]; omega), if_pos rfl]
      simp
    · rw [List.getElem?_set_ne e, hat c hcm, if_neg e]
      simp
  · intro c hcm j x hx
    rw [hPL] at hx
    by_cases e : ch s p = c
    · subst e
      rw [if_pos rfl] at hx
      cases j with
      | zero => simp at hx; subst hx; rw [Nat.add_zero, List.getElem?_set_self (by rw [h.len]; omega)]
      | succ j => simp at hx
    · rw [if_neg e] at hx; simp at hx
  · intro c hcm j h1 h2
    have h3 := lB_le_gB s c
    rw [hPL] at h1
    by_cases e : ch s p = c
    · subst e
      rw [if_pos rfl] at h1
      simp at h1
      exact place_set (h.fr _ hcm j (by omega) h2) (by omega)
    · rw [if_neg e] at h1
      simp at h1
      exact place_set (h.fr c hcm j h1 h2) (other c j hcm (fun e2 => e e2.symm) (by omega) (by omega))
  · intro c hcm j m hm
    have hj := (List.getElem?_eq_some_iff.1 hm).1
    have h2 := (hM.ndCh c).length_le_of_subset (hM.sub c)
    have h3 := gB_succ s c
    have h4 := gB_le_lB s c
    by_cases e : c = ch s p
    · subst e
      exact place_set (hM' _ hcm j m hm) (by omega)
    · exact place_set (hM' c hcm j m hm) (other c _ hcm e (by omega) (by omega))
  · intro c hcm j h1 h2
    have h4 := gB_le_lB s c
    by_cases e : c = ch s p
    · subst e
      exact place_set (hfs _ hcm j h1 h2) (by omega)
    · exact place_set (hfs c hcm j h1 h2) (other c _ hcm e (by omega) (by omega))
  · intro v hv
    rcases List.mem_or_eq_of_mem_set hv with hv | rfl
    · exact h.rng v hv
    · omega
  · intro c
    rw [hPL]
    by_cases e : ch s p = c
    · rw [if_pos e]; simp
    · rw [if_neg e]; simp
end Go.Proofs.Ythgbkncanoknkaa
/-
  Induced sorting, plain: the small ones, and the order that comes out.
-/
set_option linter.unusedVariables false
set_option linter.unusedSimpArgs false
namespace Go.Proofs.Ythgbkncanoknkaa

/-! All great ones stand -/
section
variable {s : List Nat} {mx : Nat} {M : List Nat} {sa at_ : List Int}
theorem InvL.all (h : InvL s mx M s.length sa at_) (hM : MarksOk s M) (hmx : ∀ x ∈ s, x ≤ mx) : ∀ d p, p + d + 1 = s.length → sm s p = false → p ∈ PL s (ch s p) (seenL s s.length sa)
  | 0, p, hd, hp => by
    rw [mem_PL]
    exact ⟨by simp [seenL]; left; omega, hp, rfl⟩
  | d + 1, p, hd, hp => by
    rw [mem_PL]
    refine ⟨?_, hp, rfl⟩
    have hc := hmx _ (ch_mem s (p + 1) (by omega))
    refine List.mem_cons.2 (.inr ?_)
    rw [List.take_of_length_le (by rw [h.len]; exact Nat.le_refl _)]
    cases hs : sm s (p + 1) with
    | false =>
      have ih := InvL.all h hM hmx d (p + 1) (by omega) hs
      obtain ⟨j, hj⟩ := List.mem_iff_getElem?.1 ih
      have := h.pl _ hc j _ hj
      exact List.mem_of_getElem? (by simpa using this)
    | true =>
      have hm : p + 1 ∈ ofCh s M (ch s (p + 1)) := by
        rw [mem_ofCh, hM.mem]
        exact ⟨⟨by omega, by rw [lms_succ, hs, hp]; rfl⟩, rfl⟩
      obtain ⟨j, hj⟩ := List.mem_iff_getElem?.1 hm
      have := h.ms _ hc j _ hj
      exact List.mem_of_getElem? (by simpa using this)
/-- What the second pass leaves of the great ones. -/
structure GreatOk (s : List Nat) (mx : Nat) (sa : List Int) : Prop where
  len : sa.length = s.length
  full : ∀ p, p < s.length → sm s p = false → ∃ j : Nat, gB s (ch s p) ≤ j ∧ j < lB s (ch s p) ∧ sa[j]? = some (p : Int)
  kind : ∀ c, c ≤ mx → ∀ j, gB s c ≤ j → j < lB s c → ∃ p, p ∈ Lpos s c ∧ sa[j]? = some (p : Int)
  inj : ∀ (i j p : Nat), sa[i]? = some (p : Int) → sa[j]? = some (p : Int) → i = j
  rng : ∀ v ∈ sa, v < (s.length : Int)
theorem InvL.great (h : InvL s mx M s.length sa at_) (hM : MarksOk s M) (hmx : ∀ x ∈ s, x ≤ mx) : GreatOk s mx sa := by
  refine ⟨h.len, ?_, ?_, fun i j p h1 h2 => h.inj hM hmx h1 h2, h.rng⟩
  · intro p hp hs
    have := h.all hM hmx (s.length - 1 - p) p (by omega) hs
    obtain ⟨j, hj⟩ := List.mem_iff_getElem?.1 this
    have h1 := h.pl _ (hmx _ (ch_mem s p hp)) j _ hj
    have h2 := h.le (ch s p)
    have h3 := (List.getElem?_eq_some_iff.1 hj).1
    exact ⟨_, by omega, by unfold lB; omega, h1⟩
  · intro c hc j h1 h2
    have hsub : Lpos s c ⊆ PL s c (seenL s s.length sa) := by
      intro p hp
      rw [mem_Lpos] at hp
      have := h.all hM hmx (s.length - 1 - p) p (by omega) hp.2.2
      rw [hp.2.1] at this
      exact this
    have hle := (Lpos_nodup s c).length_le_of_subset hsub
    unfold lB at h2
    obtain ⟨p, hp⟩ : ∃ p, (PL s c (seenL s s.length sa))[j - gB s c]? = some p := ⟨_, List.getElem?_eq_getElem (by omega)⟩
    have h3 := h.pl c hc _ p hp
    rw [show gB s c + (j - gB s c) = j from by omega] at h3
    exact ⟨p, h.sub c (List.mem_of_getElem? hp), h3⟩
end

/-! The small ones follow -/
def predS (s : List Nat) (c : Nat) (v : Int) : Option Nat := if 1 ≤ v ∧ sm s (v.toNat - 1) = true ∧ ch s (v.toNat - 1) = c then some (v.toNat - 1) else none
def PS (s : List Nat) (c : Nat) (Q : List Int) : List Nat := Q.filterMap (predS s c)
theorem mem_PS (s : List Nat) (c : Nat) (Q : List Int) (p : Nat) : p ∈ PS s c Q ↔ ((p : Int) + 1) ∈ Q ∧ sm s p = true ∧ ch s p = c := by
  unfold PS
  rw [List.mem_filterMap]
  constructor
  · rintro ⟨v, hv, h⟩
    unfold predS at h
    split at h
    · rename_i h1
      simp at h
      obtain ⟨h1, h2, h3⟩ := h1
      have : v = (p : Int) + 1 := by omega
      subst this
      rw [show ((p : Int) + 1).toNat - 1 = p from by omega] at h2 h3
      exact ⟨hv, h2, h3⟩
    · cases h
  · rintro ⟨h1, h2, h3⟩
    refine ⟨_, h1, ?_⟩
    unfold predS
    rw [show ((p : Int) + 1).toNat - 1 = p from by omega, if_pos ⟨by omega, h2, h3⟩]
theorem PS_snoc (s : List Nat) (c : Nat) (Q : List Int) (v : Int) : PS s c (Q ++ [v]) = PS s c Q ++ (predS s c v).toList := by
  unfold PS
  rw [List.filterMap_append]
  congr 1
theorem predS_none (s : List Nat) (c : Nat) (v : Int) (h : ¬ (1 ≤ v ∧ sm s (v.toNat - 1) = true)) : predS s c v = none := by
  unfold predS
  rw [if_neg fun e => h ⟨e.1, e.2.1⟩]
theorem predS_at (s : List Nat) (c p : Nat) (h : sm s p = true) : predS s c ((p : Int) + 1) = if ch s p = c then some p else none := by
  unfold predS
  rw [show ((p : Int) + 1).toNat - 1 = p from by omega]
  by_cases e : ch s p = c
  · rw [if_pos ⟨by omega, h, e⟩, if_pos e]
  · rw [if_neg (fun x => e x.2.2), if_neg e]
/-- What has been looked at, from the end on. -/
def seenS (i : Nat) (sa : List Int) : List Int := (sa.drop i).reverse
theorem mem_seenS (i : Nat) (sa : List Int) (v : Int) : v ∈ seenS i sa ↔ ∃ j, i ≤ j ∧ sa[j]? = some v := by
  unfold seenS
  rw [List.mem_reverse, List.mem_iff_getElem?]
  constructor
  · rintro ⟨j, hj⟩
    rw [List.getElem?_drop] at hj
    exact ⟨i + j, by omega, hj⟩
  · rintro ⟨j, h1, h2⟩
    exact ⟨j - i, by rw [List.getElem?_drop, show i + (j - i) = j from by omega]; exact h2⟩
theorem seenS_succ (i : Nat) (sa : List Int) (v : Int) (hv : sa[i]? = some v) : seenS i sa = seenS (i + 1) sa ++ [v] := by
  unfold seenS
  obtain ⟨h, e⟩ := List.getElem?_eq_some_iff.1 hv
  rw [List.drop_eq_getElem_cons h, List.reverse_cons, e]
structure InvS (s : List Nat) (mx : Nat) (sa0 : List Int) (i : Nat) (sa at_ : List Int) : Prop where
  len : sa.length = s.length
  alen : at_.length = mx + 2
  atv : ∀ c, c ≤ mx → at_[c + 1]? = some ((gB s (c + 1) : Int) - (PS s c (seenS i sa)).length)
  ps : ∀ c, c ≤ mx → ∀ (j p : Nat), (PS s c (seenS i sa))[j]? = some p → sa[gB s (c + 1) - 1 - j]? = some (p : Int)
  lo : ∀ c, c ≤ mx → ∀ j, gB s c ≤ j → j < lB s c → sa[j]? = sa0[j]?
  rng : ∀ v ∈ sa, v < (s.length : Int)
  nd : ∀ c, (PS s c (seenS i sa)).Nodup
  comp : ∀ c, c ≤ mx → ∀ j, i ≤ j → lB s c ≤ j → j < gB s (c + 1) → gB s (c + 1) ≤ j + (PS s c (seenS i sa)).length
section
variable {s : List Nat} {mx : Nat} {i : Nat} {sa0 sa at_ : List Int}
theorem InvS.sub (h : InvS s mx sa0 i sa at_) (c : Nat) : PS s c (seenS i sa) ⊆ Spos s c := by
  intro p hp
  rw [mem_PS, mem_seenS] at hp
  obtain ⟨⟨j, _, hj⟩, h2, h3⟩ := hp
  have := h.rng _ (List.mem_of_getElem? hj)
  exact (mem_Spos s c p).2 ⟨by omega, h3, h2⟩
theorem InvS.le (h : InvS s mx sa0 i sa at_) (c : Nat) : (PS s c (seenS i sa)).length ≤ (Spos s c).length := (h.nd c).length_le_of_subset (h.sub c)
/-- A place that has been looked at, or is next. -/
theorem InvS.kind (h : InvS s mx sa0 i sa at_) (hG : GreatOk s mx sa0) (hmx : ∀ x ∈ s, x ≤ mx) {k : Nat} (hk : k < s.length) (hp : ∀ c, c ≤ mx → lB s c ≤ k → k < gB s (c + 1) → gB s (c + 1) ≤ k + (PS s c (seenS i sa)).length) :
    ∃ v : Nat, sa[k]? = some (v : Int) ∧ v < s.length ∧ gB s (ch s v) ≤ k ∧ k < gB s (ch s v + 1) ∧
      ((sm s v = false ∧ k < lB s (ch s v) ∧ sa0[k]? = some (v : Int)) ∨ (sm s v = true ∧ lB s (ch s v) ≤ k ∧ gB s (ch s v + 1) ≤ k + (PS s (ch s v) (seenS i sa)).length ∧ (PS s (ch s v) (seenS i sa))[gB s (ch s v + 1) - 1 - k]? = some v)) := by
  obtain ⟨c, hc, h1, h2⟩ := bucket s k (mx + 1) (by rw [gB_total s mx hmx]; exact hk)
  by_cases h3 : k < lB s c
  · obtain ⟨p, hp1, hp2⟩ := hG.kind c (by omega) k h1 h3
    obtain ⟨h4, rfl, h6⟩ := (mem_Lpos s c p).1 hp1
    exact ⟨p, (h.lo _ (by omega) k h1 h3).trans hp2, h4, h1, h2, .inl ⟨h6, h3, hp2⟩⟩
  · have h4 := hp c (by omega) (by omega) h2
    obtain ⟨p, hp1⟩ : ∃ p, (PS s c (seenS i sa))[gB s (c + 1) - 1 - k]? = some p := ⟨_, List.getElem?_eq_getElem (by omega)⟩
    have h5 := h.ps c (by omega) _ p hp1
    rw [show gB s (c + 1) - 1 - (gB s (c + 1) - 1 - k) = k from by omega] at h5
    obtain ⟨h6, rfl, h8⟩ := (mem_Spos s c p).1 (h.sub c (List.mem_of_getElem? hp1))
    exact ⟨p, h5, h6, h1, h2, .inr ⟨h8, by omega, h4, hp1⟩⟩
theorem InvS.inj (h : InvS s mx sa0 i sa at_) (hG : GreatOk s mx sa0) (hmx : ∀ x ∈ s, x ≤ mx) {k l v : Nat} (hv : sa[k]? = some (v : Int)) (hl : sa[l]? = some (v : Int))
    (hp : ∀ c, c ≤ mx → lB s c ≤ k → k < gB s (c + 1) → gB s (c + 1) ≤ k + (PS s c (seenS i sa)).length) (hp2 : ∀ c, c ≤ mx → lB s c ≤ l → l < gB s (c + 1) → gB s (c + 1) ≤ l + (PS s c (seenS i sa)).length) : k = l := by
  have hk : k < s.length := by rw [← h.len]; exact (List.getElem?_eq_some_iff.1 hv).1
  have hll : l < s.length := by rw [← h.len]; exact (List.getElem?_eq_some_iff.1 hl).1
  obtain ⟨u, a1, a2, a3, a4, a5⟩ := h.kind hG hmx hk hp
  obtain ⟨t, b1, b2, b3, b4, b5⟩ := h.kind hG hmx hll hp2
  rw [hv] at a1; rw [hl] at b1
  simp at a1 b1
  obtain rfl : v = u := by omega
  obtain rfl : v = t := by omega
  rcases a5 with ⟨a5, a6, a7⟩ | ⟨a5, a6, a7, a8⟩ <;> rcases b5 with ⟨b5, b6, b7⟩ | ⟨b5, b6, b7, b8⟩
  · exact hG.inj _ _ _ a7 b7
  · rw [a5] at b5; cases b5
  · rw [a5] at b5; cases b5
  · have := nodup_at (h.nd _) a8 b8; omega
/-- The next place is laid already. -/
theorem InvS.ready (h : InvS s mx sa0 (i + 1) sa at_) (hG : GreatOk s mx sa0) (hmx : ∀ x ∈ s, x ≤ mx) (hi : i < s.length) : ∀ c, c ≤ mx → lB s c ≤ i → i < gB s (c + 1) → gB s (c + 1) ≤ i + (PS s c (seenS (i + 1) sa)).length := by
  intro c hc h1 h2
  refine Classical.byContradiction fun hn => ?_
  have key : ∀ d p, p + d + 1 = s.length → p ∈ Spos s c → p ∈ PS s c (seenS (i + 1) sa) := by
    intro d
    induction d with
    | zero =>
      intro p hd hp
      have := (mem_Spos s c p).1 hp
      rw [sm_last s p (by omega)] at this
      simp at this
    | succ d ih =>
      intro p hd hp
      obtain ⟨p1, p2, p3⟩ := (mem_Spos s c p).1 hp
      obtain ⟨p4, p5⟩ := sm_true s p p3
      rw [mem_PS, mem_seenS]
      refine ⟨?_, p3, p2⟩
      have hc1 := hmx _ (ch_mem s (p + 1) p4)
      have e : ((p : Int) + 1) = ((p + 1 : Nat) : Int) := by simp
      rw [e]
      by_cases hsp : sm s (p + 1) = true
      · by_cases hcc : ch s (p + 1) = c
        · have h3 := ih (p + 1) (by omega) ((mem_Spos s c (p + 1)).2 ⟨p4, hcc, hsp⟩)
          obtain ⟨j, hj⟩ := List.mem_iff_getElem?.1 h3
          have hjl := (List.getElem?_eq_some_iff.1 hj).1
          exact ⟨_, by omega, h.ps c hc j _ hj⟩
        · have hgt : c + 1 ≤ ch s (p + 1) := by omega
          have h3 := gB_mono s hgt
          have h4 := gB_le_lB s (ch s (p + 1))
          have hmem : p + 1 ∈ Spos s (ch s (p + 1)) := (mem_Spos _ _ _).2 ⟨p4, rfl, hsp⟩
          have h5 := List.length_pos_of_mem hmem
          have h6 := gB_succ s (ch s (p + 1))
          have h7 := h.comp _ hc1 (lB s (ch s (p + 1))) (by omega) (Nat.le_refl _) (by omega)
          have h8 := full_of_len (h.nd _) (Spos_nodup s _) (h.sub (ch s (p + 1))) (by omega) hmem
          obtain ⟨j, hj⟩ := List.mem_iff_getElem?.1 h8
          have hjl := (List.getElem?_eq_some_iff.1 hj).1
          have h9 := h.le (ch s (p + 1))
          exact ⟨_, by omega, h.ps _ hc1 j _ hj⟩
      · have hsp' : sm s (p + 1) = false := by simpa using hsp
        have hgt : c + 1 ≤ ch s (p + 1) := by
          rcases p5 with p5 | ⟨_, p5⟩
          · omega
          · exact absurd p5 hsp
        obtain ⟨j, j1, j2, j3⟩ := hG.full (p + 1) p4 hsp'
        have h3 := gB_mono s hgt
        exact ⟨j, by omega, (h.lo _ hc1 j j1 j2).trans j3⟩
  have hsub : Spos s c ⊆ PS s c (seenS (i + 1) sa) := by
    intro p hp
    have := (mem_Spos s c p).1 hp
    exact key (s.length - 1 - p) p (by omega) hp
  have h3 := (Spos_nodup s c).length_le_of_subset hsub
  have h4 := gB_succ s c
  omega
theorem InvS.skip (h : InvS s mx sa0 (i + 1) sa at_) (hG : GreatOk s mx sa0) (hmx : ∀ x ∈ s, x ≤ mx) (hi : i < s.length) (v : Int) (hv : sa[i]? = some v) (hn : ¬ (1 ≤ v ∧ sm s (v.toNat - 1) = true)) : InvS s mx sa0 i sa at_ := by
  have e : ∀ c, PS s c (seenS i sa) = PS s c (seenS (i + 1) sa) := by
    intro c
    rw [seenS_succ i sa v hv, PS_snoc, predS_none s c v hn]
    simp
  have hr := h.ready hG hmx hi
  refine ⟨h.len, h.alen, fun c hc => by rw [e]; exact h.atv c hc, fun c hc => by rw [e]; exact h.ps c hc, h.lo, h.rng, fun c => by rw [e]; exact h.nd c, ?_⟩
  intro c hc j h1 h2 h3
  rw [e]
  by_cases hj : j = i
  · subst hj; exact hr c hc h2 h3
  · exact h.comp c hc j (by omega) h2 h3
theorem InvS.step (h : InvS s mx sa0 (i + 1) sa at_) (hG : GreatOk s mx sa0) (hmx : ∀ x ∈ s, x ≤ mx) {p : Nat} (hv : sa[i]? = some ((p : Int) + 1)) (hp : sm s p = true) :
    p + 1 < s.length ∧ ∃ a : Nat, at_[ch s p + 1]? = some ((a : Int) + 1) ∧ a < s.length ∧ InvS s mx sa0 i (sa.set a (p : Int)) (at_.set (ch s p + 1) (a : Int)) := by
  have hi : i < s.length := by rw [← h.len]; exact (List.getElem?_eq_some_iff.1 hv).1
  have hr := h.ready hG hmx hi
  have hv' : sa[i]? = some ((p + 1 : Nat) : Int) := by rw [hv]; simp
  obtain ⟨v, k0, k1, k3, k4, k5⟩ := h.kind hG hmx hi hr
  rw [hv'] at k0
  simp at k0
  obtain rfl : v = p + 1 := by omega
  refine ⟨k1, ?_⟩
  have hpn : p < s.length := by omega
  have hc : ch s p ≤ mx := hmx _ (ch_mem s p hpn)
  obtain ⟨_, hst⟩ := sm_true s p hp
  have hnot : p ∉ PS s (ch s p) (seenS (i + 1) sa) := by
    intro hm
    rw [mem_PS, mem_seenS] at hm
    obtain ⟨⟨j, hj1, hj2⟩, _⟩ := hm
    rw [show ((p : Int) + 1) = ((p + 1 : Nat) : Int) from by simp] at hj2
    have := h.inj hG hmx hv' hj2 hr (fun c hc h1 h2 => h.comp c hc j hj1 h1 h2)
    omega
  have hnd : (PS s (ch s p) (seenS (i + 1) sa) ++ [p]).Nodup := by
    rw [List.nodup_append]
    refine ⟨h.nd _, by simp, ?_⟩
    intro x hx y hy e
    simp at hy
    subst hy; subst e
    exact hnot hx
  have hle : (PS s (ch s p) (seenS (i + 1) sa)).length + 1 ≤ (Spos s (ch s p)).length := by
    have := hnd.length_le_of_subset (l₂ := Spos s (ch s p)) (by
      intro x hx
      rcases List.mem_append.1 hx with hx | hx
      · exact h.sub _ hx
      · simp at hx; subst hx; exact (mem_Spos _ _ _).2 ⟨hpn, rfl, hp⟩)
    simpa using this
  have hgs := gB_succ s (ch s p)
  have hgl := gB_le_lB s (ch s p)
  have htot := gB_total s mx hmx
  have hmono := gB_mono s (show ch s p + 1 ≤ mx + 1 by omega)
  obtain ⟨a, ha⟩ : ∃ a, gB s (ch s p + 1) = a + (PS s (ch s p) (seenS (i + 1) sa)).length + 1 := ⟨gB s (ch s p + 1) - (PS s (ch s p) (seenS (i + 1) sa)).length - 1, by omega⟩
  have hai : a < i := by
    rcases hst with h1 | ⟨h1, h2⟩
    · have := gB_mono s (show ch s p + 1 ≤ ch s (p + 1) by omega)
      omega
    · rw [← h1] at k5
      rcases k5 with ⟨h3, _⟩ | ⟨_, _, h3, _⟩
      · rw [h2] at h3; cases h3
      · omega
  have hal : lB s (ch s p) ≤ a := by omega
  refine ⟨a, by rw [h.atv _ hc]; congr 1; omega, by omega, ?_⟩
  have other : ∀ c j, c ≤ mx → c ≠ ch s p → gB s c ≤ j → j < gB s (c + 1) → a ≠ j := by
    intro c j _ hne h1 h2 e
    exact hne (bucket_unique s h1 h2 (show gB s (ch s p) ≤ j by omega) (by omega))
  have hQ : seenS i (sa.set a (p : Int)) = seenS (i + 1) sa ++ [(p : Int) + 1] := by
    have h1 : (sa.set a (p : Int)).drop i = sa.drop i := by
      rw [List.drop_set_of_lt hai]
    rw [← seenS_succ i sa _ hv]
    unfold seenS
    rw [h1]
  have hPS : ∀ c, PS s c (seenS i (sa.set a (p : Int))) = PS s c (seenS (i + 1) sa) ++ (if ch s p = c then [p] else []) := by
    intro c
    rw [hQ, PS_snoc, predS_at s c p hp]
    by_cases e : ch s p = c <;> simp [e]
  refine ⟨by rw [List.length_set]; exact h.len, by rw [List.length_set]; exact h.alen, ?_, ?_, ?_, ?_, ?_, ?_⟩
  · intro c hcm
    rw [hPS]
    by_cases e : ch s p = c
    · subst e
      rw [List.getElem?_set_self (by rw [h.alen]; omega), if_pos rfl, List.length_append]
      simp; omega
    · rw [List.getElem?_set_ne (by omega), h.atv c hcm, if_neg e]
      simp
  · intro c hcm j x hx
    rw [hPS] at hx
    by_cases e : ch s p = c
    · subst e
      rw [if_pos rfl, List.getElem?_append] at hx
      split at hx
      · exact place_set (h.ps _ hcm j x hx) (by omega)
      · have hj0 : j = (PS s (ch s p) (seenS (i + 1) sa)).length := by
          rcases Nat.lt_or_ge (PS s (ch s p) (seenS (i + 1) sa)).length j with h1 | h1
          · rw [List.getElem?_eq_none (by simp; omega)] at hx; cases hx
          · omega
        subst hj0
        simp at hx
        subst hx
        rw [show gB s (ch s p + 1) - 1 - (PS s (ch s p) (seenS (i + 1) sa)).length = a from by omega, List.getElem?_set_self (by rw [h.len]; omega)]
    · rw [if_neg e, List.append_nil] at hx
      have hj := (List.getElem?_eq_some_iff.1 hx).1
      have h2 := h.le c
      have h3 := gB_succ s c
      have h4 := gB_le_lB s c
      exact place_set (h.ps c hcm j x hx) (other c _ hcm (fun e2 => e e2.symm) (by omega) (by omega))
  · intro c hcm j h1 h2
    rw [← h.lo c hcm j h1 h2]
    have h3 := lB_le_gB s c
    have hne : a ≠ j := by
      by_cases e : c = ch s p
      · subst e; omega
      · exact other c j hcm e h1 (by omega)
    rw [List.getElem?_set_ne hne]
  · intro v hv
    rcases List.mem_or_eq_of_mem_set hv with hv | rfl
    · exact h.rng v hv
    · omega
  · intro c
    rw [hPS]
    by_cases e : ch s p = c
    · subst e; rw [if_pos rfl]; exact hnd
    · rw [if_neg e, List.append_nil]; exact h.nd c
  · intro c hcm j h1 h2 h3
    rw [hPS, List.length_append]
    by_cases hj : j = i
    · subst hj
      have := hr c hcm h2 h3
      omega
    · have := h.comp c hcm j (by omega) h2 h3
      omega
end
theorem InvS.init {s : List Nat} {mx : Nat} {sa at_ : List Int} (hG : GreatOk s mx sa) (hmx : ∀ x ∈ s, x ≤ mx) (halen : at_.length = mx + 2) (hat : ∀ c, c ≤ mx → at_[c + 1]? = some (gB s (c + 1) : Int)) : InvS s mx sa s.length sa at_ := by
  have e : seenS s.length sa = [] := by unfold seenS; rw [List.drop_of_length_le (by rw [hG.len]; exact Nat.le_refl _)]; rfl
  have htot := gB_total s mx hmx
  refine ⟨hG.len, halen, ?_, ?_, fun _ _ _ _ _ => rfl, hG.rng, ?_, ?_⟩
  · intro c hc; rw [hat c hc, e]; simp [PS]
  · intro c hc j p hp; rw [e] at hp; simp [PS] at hp
  · intro c; rw [e]; simp [PS]
  · intro c hc j h1 h2 h3
    have := gB_mono s (show c + 1 ≤ mx + 1 by omega)
    omega

/-! The order that comes out -/
/-- The array behind the three passes. -/
structure Induced (s : List Nat) (mx : Nat) (M : List Nat) (A : List Int) : Prop where
  out : ∃ sa0 at0 at_, InvL s mx M s.length sa0 at0 ∧ InvS s mx sa0 0 A at_
section
variable {s : List Nat} {mx : Nat} {M : List Nat} {A : List Int}
theorem Induced.kind (h : Induced s mx M A) (hM : MarksOk s M) (hmx : ∀ x ∈ s, x ≤ mx) {k : Nat} (hk : k < s.length) : ∃ v : Nat, A[k]? = some (v : Int) ∧ v < s.length := by
  obtain ⟨sa0, at0, at_, h1, h2⟩ := h.out
  obtain ⟨v, a, b, _⟩ := h2.kind (h1.great hM hmx) hmx hk (fun c hc => h2.comp c hc k (by omega))
  exact ⟨v, a, b⟩
theorem Induced.inj (h : Induced s mx M A) (hM : MarksOk s M) (hmx : ∀ x ∈ s, x ≤ mx) {k l v : Nat} (hk : A[k]? = some (v : Int)) (hl : A[l]? = some (v : Int)) : k = l := by
  obtain ⟨sa0, at0, at_, h1, h2⟩ := h.out
  exact h2.inj (h1.great hM hmx) hmx hk hl (fun c hc => h2.comp c hc k (by omega)) (fun c hc => h2.comp c hc l (by omega))
theorem Induced.len (h : Induced s mx M A) : A.length = s.length := by
  obtain ⟨sa0, at0, at_, h1, h2⟩ := h.out
  exact h2.len
/-- The order, as places. -/
theorem Induced.perm (h : Induced s mx M A) (hM : MarksOk s M) (hmx : ∀ x ∈ s, x ≤ mx) : ∃ T : List Nat, A = T.map Int.ofNat ∧ T.Perm (List.range s.length) := by
  have hnn : ∀ v ∈ A, 0 ≤ v ∧ v < (s.length : Int) := by
    intro v hv
    obtain ⟨k, hk⟩ := List.mem_iff_getElem?.1 hv
    obtain ⟨u, h1, h2⟩ := h.kind hM hmx (k := k) (by rw [← h.len]; exact (List.getElem?_eq_some_iff.1 hk).1)
    rw [hk] at h1
    simp at h1
    omega
  refine ⟨A.map Int.toNat, ?_, ?_⟩
  · rw [List.map_map]
    symm
    have : A.map (Int.ofNat ∘ Int.toNat) = A.map id := by
      apply List.map_congr_left
      intro v hv
      have := hnn v hv
      simp only [Function.comp, id]
      exact Int.toNat_of_nonneg this.1
    rw [this, List.map_id]
  · have hnd : (A.map Int.toNat).Nodup := by
      rw [List.nodup_iff_pairwise_ne, List.pairwise_iff_getElem]
      intro i j hi hj hij e
      rw [List.getElem_map, List.getElem_map] at e
      have hi' : i < A.length := by simpa using hi
      have hj' : j < A.length := by simpa using hj
      have h1 := hnn A[i] (List.getElem_mem _)
      have h2 := hnn A[j] (List.getElem_mem _)
      have h3 : A[i]? = some ((A[i].toNat : Nat) : Int) := by rw [List.getElem?_eq_getElem hi']; congr 1; omega
      have h4 : A[j]? = some ((A[i].toNat : Nat) : Int) := by rw [List.getElem?_eq_getElem hj']; congr 1; omega
      have := h.inj hM hmx h3 h4
      omega
    have hsub : A.map Int.toNat ⊆ List.range s.length := by
      intro x hx
      obtain ⟨v, hv, rfl⟩ := List.mem_map.1 hx
      have := hnn v hv
      simp
      omega
    have hfull := full_of_len hnd List.nodup_range hsub (by rw [List.length_range, List.length_map, h.len]; exact Nat.le_refl _)
    rw [List.perm_ext_iff_of_nodup hnd List.nodup_range]
    exact fun a => ⟨fun x => hsub x, fun x => hfull x⟩
/-- Keys of suffixes: K of all, K' of what follows on one. -/
def code (s : List Nat) (i : Nat) : Nat := 2 * ch s i + (sm s i).toNat
structure Keys (s M : List Nat) (K K' : Nat → List Nat) : Prop where
  cons : ∀ j, j < s.length → K j = code s j :: K' (j + 1)
  same : ∀ j, lms s j = false → K' j = K j
  nil : K' s.length = []
  head : ∀ j, j < s.length → ∃ t, K' j = code s j :: t
  marks : ∀ (i j a b : Nat), M[i]? = some a → M[j]? = some b → i < j → ch s a = ch s b → lexle (K' a) (K' b)
theorem code_lt_of_ch {s : List Nat} {u v : Nat} (h : ch s u < ch s v) : code s u < code s v := by
  unfold code
  cases sm s u <;> cases sm s v <;> simp <;> omega
theorem code_lt_of_kind {s : List Nat} {u v : Nat} (h : ch s u = ch s v) (hu : sm s u = false) (hv : sm s v = true) : code s u < code s v := by
  unfold code
  rw [hu, hv, h]
  simp
theorem filter_order (l : List Nat) (p : Nat → Bool) : ∀ (i j a b : Nat), (l.filter p)[i]? = some a → (l.filter p)[j]? = some b → i < j → ∃ (i' j' : Nat), i' < j' ∧ l[i']? = some a ∧ l[j']? = some b := by
  induction l with
  | nil => intro i j a b h; simp at h
  | cons x l ih =>
    intro i j a b h1 h2 hij
    rw [List.filter_cons] at h1 h2
    split at h1
    · rename_i hx
      rw [if_pos hx] at h2
      cases j with
      | zero => omega
      | succ j =>
        rw [List.getElem?_cons_succ] at h2
        cases i with
        | zero =>
          simp at h1
          subst h1
          obtain ⟨j', hj'⟩ := List.mem_iff_getElem?.1 ((List.filter_sublist (p := p) (l := l)).subset (List.mem_of_getElem? h2))
          exact ⟨0, j' + 1, by omega, rfl, hj'⟩
        | succ i =>
          rw [List.getElem?_cons_succ] at h1
          obtain ⟨i', j', h3, h4, h5⟩ := ih i j a b h1 h2 (by omega)
          exact ⟨i' + 1, j' + 1, by omega, h4, h5⟩
    · rename_i hx
      rw [if_neg hx] at h2
      obtain ⟨i', j', h3, h4, h5⟩ := ih i j a b h1 h2 hij
      exact ⟨i' + 1, j' + 1, by omega, h4, h5⟩
theorem filterMap_order {α β : Type} (f : α → Option β) (l : List α) : ∀ (i j : Nat) (a b : β), (l.filterMap f)[i]? = some a → (l.filterMap f)[j]? = some b → i < j → ∃ (i' j' : Nat) (x y : α), i' < j' ∧ l[i']? = some x ∧ l[j']? = some y ∧ f x = some a ∧ f y = some b := by
  induction l with
  | nil => intro i j a b h; simp at h
  | cons x l ih =>
    intro i j a b h1 h2 hij
    cases hx : f x with
    | none =>
      rw [List.filterMap_cons_none hx] at h1 h2
      obtain ⟨i', j', u, v, h3, h4, h5, h6⟩ := ih i j a b h1 h2 hij
      exact ⟨i' + 1, j' + 1, u, v, by omega, h4, h5, h6⟩
    | some y =>
      rw [List.filterMap_cons_some hx] at h1 h2
      cases j with
      | zero => omega
      | succ j =>
        rw [List.getElem?_cons_succ] at h2
        cases i with
        | zero =>
          simp at h1
          subst h1
          obtain ⟨v, hv1, hv2⟩ := List.mem_filterMap.1 (List.mem_of_getElem? h2)
          obtain ⟨j', hj'⟩ := List.mem_iff_getElem?.1 hv1
          exact ⟨0, j' + 1, x, v, by omega, rfl, hj', hx, hv2⟩
        | succ i =>
          rw [List.getElem?_cons_succ] at h1
          obtain ⟨i', j', u, v, h3, h4, h5, h6⟩ := ih i j a b h1 h2 (by omega)
          exact ⟨i' + 1, j' + 1, u, v, by omega, h4, h5, h6⟩
theorem predL_some {s : List Nat} {c : Nat} {v : Int} {p : Nat} (h : predL s c v = some p) : v = (p : Int) + 1 ∧ sm s p = false ∧ ch s p = c := by
  unfold predL at h
  split at h
  · rename_i h1
    simp at h
    obtain ⟨h1, h2, h3⟩ := h1
    have : v = (p : Int) + 1 := by omega
    subst this
    rw [show ((p : Int) + 1).toNat - 1 = p from by omega] at h2 h3
    exact ⟨rfl, h2, h3⟩
  · cases h
theorem predS_some {s : List Nat} {c : Nat} {v : Int} {p : Nat} (h : predS s c v = some p) : v = (p : Int) + 1 ∧ sm s p = true ∧ ch s p = c := by
  unfold predS at h
  split at h
  · rename_i h1
    simp at h
    obtain ⟨h1, h2, h3⟩ := h1
    have : v = (p : Int) + 1 := by omega
    subst this
    rw [show ((p : Int) + 1).toNat - 1 = p from by omega] at h2 h3
    exact ⟨rfl, h2, h3⟩
  · cases h
theorem InvL.sorted {sa at_ : List Int} (h : InvL s mx M s.length sa at_) (hM : MarksOk s M) (hmx : ∀ x ∈ s, x ≤ mx) {K K' : Nat → List Nat} (hK : Keys s M K K') :
    ∀ d (u v a b : Nat), u + d = s.length → a < b → sa[a]? = some (u : Int) → sa[b]? = some (v : Int) → lexle (K' u) (K' v) := by
  intro d
  induction d with
  | zero =>
    intro u v a b hd hab ha hb
    have := (h.kind hM hmx ha).1
    omega
  | succ d ih =>
    intro u v a b hd hab ha hb
    obtain ⟨u1, u2, u3, u4, u5⟩ := h.kind hM hmx ha
    obtain ⟨v1, v2, v3, v4, v5⟩ := h.kind hM hmx hb
    obtain ⟨tu, hu⟩ := hK.head u u1
    obtain ⟨tv, hv⟩ := hK.head v v1
    have hchs : ch s u ≤ ch s v := by
      rcases Nat.lt_or_ge (ch s v) (ch s u) with h1 | h1
      · have := gB_mono s (show ch s v + 1 ≤ ch s u from h1); omega
      · exact h1
    by_cases hc : ch s u = ch s v
    · rcases u5 with ⟨a1, a2, a3⟩ | ⟨a1, a4, a2, a3⟩ <;> rcases v5 with ⟨b1, b2, b3⟩ | ⟨b1, b4, b2, b3⟩
      · rw [hK.same u (by simp [lms, a1]), hK.same v (by simp [lms, b1]), hK.cons u u1, hK.cons v v1]
        have hcode : code s u = code s v := by unfold code; rw [a1, b1, hc]
        rw [hcode]
        apply lexle_cons
        rw [← hc] at b3
        obtain ⟨i', j', x, y, hij, hx, hy, fx, fy⟩ := filterMap_order _ _ _ _ _ _ a3 b3 (by rw [← hc] at v3; omega)
        obtain ⟨rfl, _, _⟩ := predL_some fx
        obtain ⟨rfl, _, _⟩ := predL_some fy
        unfold seenL at hx hy
        rw [List.take_of_length_le (by rw [h.len]; exact Nat.le_refl _)] at hx hy
        cases j' with
        | zero => omega
        | succ j' =>
          rw [List.getElem?_cons_succ] at hy
          cases i' with
          | zero =>
            simp at hx
            have : u + 1 = s.length := by omega
            rw [this, hK.nil]
            exact lexle_nil _
          | succ i' =>
            rw [List.getElem?_cons_succ] at hx
            exact ih (u + 1) (v + 1) i' j' (by omega) (by omega) (by simpa using hx) (by simpa using hy)
      · rw [hu, hv]
        exact lexle_head (code_lt_of_kind hc a1 b1) _ _
      · exfalso
        rw [hc] at a2
        have h1 := h.le (ch s v)
        unfold lB at a2
        omega
      · rw [← hc] at b3
        obtain ⟨i', j', hij, hx, hy⟩ := filter_order M _ _ _ _ _ a3 b3 (by rw [← hc] at b2; omega)
        exact hK.marks i' j' u v hx hy hij hc
    · rw [hu, hv]
      exact lexle_head (code_lt_of_ch (by omega)) _ _
/-- What stands ahead is not behind, by keys. -/
theorem Induced.sorted (h : Induced s mx M A) (hM : MarksOk s M) (hmx : ∀ x ∈ s, x ≤ mx) {K K' : Nat → List Nat} (hK : Keys s M K K') :
    ∀ d (u v a b : Nat), u + d = s.length → a < b → A[a]? = some (u : Int) → A[b]? = some (v : Int) → lexle (K u) (K v) := by
  obtain ⟨sa0, at0, at_, hL, hS⟩ := h.out
  have hG := hL.great hM hmx
  have hkind : ∀ {k v : Nat}, A[k]? = some (v : Int) → v < s.length ∧ gB s (ch s v) ≤ k ∧ k < gB s (ch s v + 1) ∧
      ((sm s v = false ∧ k < lB s (ch s v) ∧ sa0[k]? = some (v : Int)) ∨ (sm s v = true ∧ lB s (ch s v) ≤ k ∧ gB s (ch s v + 1) ≤ k + (PS s (ch s v) (seenS 0 A)).length ∧ (PS s (ch s v) (seenS 0 A))[gB s (ch s v + 1) - 1 - k]? = some v)) := by
    intro k v hv
    obtain ⟨u, a1, a2⟩ := hS.kind hG hmx (k := k) (by rw [← hS.len]; exact (List.getElem?_eq_some_iff.1 hv).1) (fun c hc => hS.comp c hc k (by omega))
    rw [hv] at a1
    simp at a1
    obtain rfl : v = u := by omega
    exact a2
  intro d
  induction d with
  | zero =>
    intro u v a b hd hab ha hb
    have := (hkind ha).1
    omega
  | succ d ih =>
    intro u v a b hd hab ha hb
    obtain ⟨u1, u3, u4, u5⟩ := hkind ha
    obtain ⟨v1, v3, v4, v5⟩ := hkind hb
    have hchs : ch s u ≤ ch s v := by
      rcases Nat.lt_or_ge (ch s v) (ch s u) with h1 | h1
      · have := gB_mono s (show ch s v + 1 ≤ ch s u from h1); omega
      · exact h1
    by_cases hc : ch s u = ch s v
    · rcases u5 with ⟨a1, a2, a3⟩ | ⟨a1, a2, a3, a4⟩ <;> rcases v5 with ⟨b1, b2, b3⟩ | ⟨b1, b2, b3, b4⟩
      · have := hL.sorted hM hmx hK (d + 1) u v a b hd hab a3 b3
        rwa [hK.same u (by simp [lms, a1]), hK.same v (by simp [lms, b1])] at this
      · rw [hK.cons u u1, hK.cons v v1]
        exact lexle_head (code_lt_of_kind hc a1 b1) _ _
      · exfalso
        rw [hc] at a2
        omega
      · rw [hK.cons u u1, hK.cons v v1]
        have hcode : code s u = code s v := by unfold code; rw [a1, b1, hc]
        rw [hcode]
        apply lexle_cons
        rw [← hc] at b4 v4
        obtain ⟨i', j', x, y, hij, hx, hy, fx, fy⟩ := filterMap_order _ _ _ _ _ _ b4 a4 (by omega)
        obtain ⟨rfl, _, _⟩ := predS_some fx
        obtain ⟨rfl, _, _⟩ := predS_some fy
        have su := sm_true s u a1
        have sv := sm_true s v b1
        rw [hK.same (u + 1) (by simp [lms, a1]), hK.same (v + 1) (by simp [lms, b1])]
        unfold seenS at hx hy
        rw [List.drop_zero] at hx hy
        have hil := (List.getElem?_eq_some_iff.1 hx).1
        have hjl := (List.getElem?_eq_some_iff.1 hy).1
        rw [List.length_reverse] at hil hjl
        rw [List.getElem?_reverse hil] at hx
        rw [List.getElem?_reverse hjl] at hy
        exact ih (u + 1) (v + 1) (A.length - 1 - j') (A.length - 1 - i') (by omega) (by omega) (by simpa using hy) (by simpa using hx)
    · rw [hK.cons u u1, hK.cons v v1]
      exact lexle_head (code_lt_of_ch (by omega)) _ _
end
end Go.Proofs.Ythgbkncanoknkaa
/-
  Induced sorting, plain: the two kinds of keys, names of pieces, and that the marks' order comes out of the names'.
-/
set_option linter.unusedVariables false
set_option linter.unusedSimpArgs false
namespace Go.Proofs.Ythgbkncanoknkaa

/-! Whole suffixes as keys -/
def fullK (s : List Nat) (j : Nat) : List Nat := ((List.range s.length).map (code s)).drop j
theorem fullK_cons (s : List Nat) (j : Nat) (h : j < s.length) : fullK s j = code s j :: fullK s (j + 1) := by
  unfold fullK
  rw [List.drop_eq_getElem_cons (by simpa using h)]
  simp
theorem fullK_nil (s : List Nat) (j : Nat) (h : s.length ≤ j) : fullK s j = [] := List.drop_of_length_le (by simpa using h)
theorem fullK_len (s : List Nat) (j : Nat) : (fullK s j).length = s.length - j := by simp [fullK]
theorem fullK_inj (s : List Nat) (i j : Nat) (hi : i ≤ s.length) (hj : j ≤ s.length) (h : fullK s i = fullK s j) : i = j := by
  have := congrArg List.length h
  rw [fullK_len, fullK_len] at this
  omega
theorem drop_ch (s : List Nat) (i : Nat) (h : i < s.length) : s.drop i = ch s i :: s.drop (i + 1) := by
  rw [List.drop_eq_getElem_cons h]
  congr 1
  unfold ch
  rw [List.getD_eq_getElem?_getD, List.getElem?_eq_getElem h]
  rfl
/-- Of two suffixes that begin alike the great one is less than the small one. -/
theorem kinds_lt (s : List Nat) : ∀ d i j, i + d = s.length → j < s.length → ch s i = ch s j → sm s i = false → sm s j = true → i < s.length → lexlt (s.drop i) (s.drop j) = true
  | 0, i, j, hd, _, _, _, _, hi => by omega
  | d + 1, i, j, hd, hj, hc, hi, hjs, hil => by
    obtain ⟨j1, j2⟩ := sm_true s j hjs
    rw [drop_ch s i hil, drop_ch s j hj, lexlt_cons]
    refine .inr ⟨hc, ?_⟩
    rcases Nat.lt_or_ge (i + 1) s.length with h1 | h1
    · rw [drop_ch s (i + 1) h1, drop_ch s (j + 1) j1, lexlt_cons]
      rcases sm_false s i hi h1 with h2 | ⟨h2, h3⟩
      · left; rcases j2 with h4 | ⟨h4, _⟩ <;> omega
      · rcases j2 with h4 | ⟨h4, h5⟩
        · left; omega
        · right
          have h6 : ch s (i + 1) = ch s (j + 1) := by omega
          refine ⟨h6, ?_⟩
          have := kinds_lt s d (i + 1) (j + 1) (by omega) j1 h6 h3 h5 h1
          rw [drop_ch s (i + 1) h1, drop_ch s (j + 1) j1, lexlt_cons] at this
          rcases this with h7 | h7
          · omega
          · exact h7.2
    · rw [List.drop_of_length_le h1, drop_ch s (j + 1) j1]
      rfl
theorem code_eq {s : List Nat} {i j : Nat} (h : code s i = code s j) : ch s i = ch s j ∧ sm s i = sm s j := by
  unfold code at h
  cases hi : sm s i <;> cases hj : sm s j <;> rw [hi, hj] at h <;> simp at h <;> first | exact ⟨by omega, rfl⟩ | (exfalso; omega)
theorem code_lt {s : List Nat} {i j : Nat} (h : code s i < code s j) : ch s i < ch s j ∨ ch s i = ch s j ∧ sm s i = false ∧ sm s j = true := by
  unfold code at h
  cases hi : sm s i <;> cases hj : sm s j <;> rw [hi, hj] at h <;> simp at h <;> first | (left; omega) | (rcases Nat.lt_or_ge (ch s i) (ch s j) with h1 | h1; exact .inl h1; right; exact ⟨by omega, rfl, rfl⟩)
theorem full_raw (s : List Nat) : ∀ d i j, i + d = s.length → j ≤ s.length → lexlt (fullK s i) (fullK s j) = true → lexlt (s.drop i) (s.drop j) = true
  | d, i, j, hd, hj, h => by
    rcases Nat.lt_or_ge j s.length with h1 | h1
    · rcases Nat.lt_or_ge i s.length with h2 | h2
      · rw [fullK_cons s i h2, fullK_cons s j h1, lexlt_cons] at h
        rw [drop_ch s i h2, drop_ch s j h1, lexlt_cons]
        rcases h with h | ⟨h, h3⟩
        · rcases code_lt h with h4 | ⟨h4, h5, h6⟩
          · exact .inl h4
          · have := kinds_lt s d i j hd h1 h4 h5 h6 h2
            rw [drop_ch s i h2, drop_ch s j h1, lexlt_cons] at this
            exact this
        · obtain ⟨d, rfl⟩ : ∃ k, d = k + 1 := ⟨d - 1, by omega⟩
          exact .inr ⟨(code_eq h).1, full_raw s d (i + 1) (j + 1) (by omega) h1 h3⟩
      · rw [List.drop_of_length_le h2, drop_ch s j h1]
        rfl
    · rw [fullK_nil s j h1, lexlt_nil] at h
      cases h

/-! An order of suffixes -/
structure IsSA (s : List Nat) (T : List Nat) : Prop where
  perm : T.Perm (List.range s.length)
  sorted : T.Pairwise fun u v => lexlt (s.drop u) (s.drop v) = true
theorem IsSA.unique {s T U : List Nat} (h : IsSA s T) (h' : IsSA s U) : T = U := by
  refine List.Perm.eq_of_pairwise (le := fun u v => lexlt (s.drop u) (s.drop v) = true) ?_ h.sorted h'.sorted (h.perm.trans h'.perm.symm)
  intro a b _ _ h1 h2
  have := lexlt_asymm _ _ h1
  rw [this] at h2
  cases h2
theorem Keys.full {s M : List Nat} (hM : ∀ (i j a b : Nat), M[i]? = some a → M[j]? = some b → i < j → ch s a = ch s b → lexle (fullK s a) (fullK s b)) : Keys s M (fullK s) (fullK s) :=
  ⟨fun j hj => fullK_cons s j hj, fun _ _ => rfl, fullK_nil s _ (Nat.le_refl _), fun j hj => ⟨_, fullK_cons s j hj⟩, hM⟩
theorem Induced.isSA {s : List Nat} {mx : Nat} {M : List Nat} {A : List Int} (h : Induced s mx M A) (hM : MarksOk s M) (hmx : ∀ x ∈ s, x ≤ mx)
    (hs : ∀ (i j a b : Nat), M[i]? = some a → M[j]? = some b → i < j → ch s a = ch s b → lexle (fullK s a) (fullK s b)) : ∃ T : List Nat, A = T.map Int.ofNat ∧ IsSA s T := by
  obtain ⟨T, rfl, hT⟩ := h.perm hM hmx
  refine ⟨T, rfl, hT, ?_⟩
  have hnd : T.Nodup := (List.Perm.nodup_iff hT).2 List.nodup_range
  rw [List.pairwise_iff_getElem]
  intro i j hi hj hij
  have h1 : (T.map Int.ofNat)[i]? = some ((T[i] : Nat) : Int) := by simp [hi]
  have h2 : (T.map Int.ofNat)[j]? = some ((T[j] : Nat) : Int) := by simp [hj]
  have hu : T[i] < s.length := by have := hT.subset (List.getElem_mem hi); simpa using this
  have hv : T[j] < s.length := by have := hT.subset (List.getElem_mem hj); simpa using this
  have h3 := h.sorted hM hmx (Keys.full hs) (s.length - T[i]) T[i] T[j] i j (by omega) hij h1 h2
  rcases (lexle_iff _ _).1 h3 with h4 | h4
  · have := fullK_inj s _ _ (by omega) (by omega) h4
    have := (List.getElem_inj hnd).1 this
    omega
  · exact full_raw s (s.length - T[i]) T[i] T[j] (by omega) (by omega) h4

/-! Pieces as keys -/
def preF (s : List Nat) : Nat → Nat → List Nat
  | 0, _ => []
  | d + 1, j => if lms s j then [code s j] else code s j :: preF s d (j + 1)
def preK' (s : List Nat) (j : Nat) : List Nat := preF s (s.length - j) j
def preK (s : List Nat) (j : Nat) : List Nat := if j < s.length then code s j :: preK' s (j + 1) else []
theorem preK'_nil (s : List Nat) (j : Nat) (h : s.length ≤ j) : preK' s j = [] := by unfold preK'; rw [show s.length - j = 0 from by omega]; rfl
theorem preK'_at (s : List Nat) (j : Nat) (h : j < s.length) : preK' s j = if lms s j then [code s j] else code s j :: preK' s (j + 1) := by
  unfold preK'
  rw [show s.length - j = (s.length - (j + 1)) + 1 from by omega, preF]
theorem preK_at (s : List Nat) (j : Nat) (h : j < s.length) : preK s j = code s j :: preK' s (j + 1) := by unfold preK; rw [if_pos h]
theorem lms_lt {s : List Nat} {i : Nat} (h : lms s i = true) : i + 1 < s.length := (sm_true s i (lms_sm h)).1
theorem preK'_lms (s : List Nat) (j : Nat) (h : lms s j = true) : preK' s j = [code s j] := by rw [preK'_at s j (by have := lms_lt h; omega), if_pos h]
theorem preK'_not (s : List Nat) (j : Nat) (h : lms s j = false) : preK' s j = preK s j := by
  rcases Nat.lt_or_ge j s.length with h1 | h1
  · rw [preK'_at s j h1, preK_at s j h1, if_neg (by simp [h])]
  · rw [preK'_nil s j h1]; unfold preK; rw [if_neg (by omega)]
theorem preK'_head (s : List Nat) (j : Nat) (h : j < s.length) : ∃ t, preK' s j = code s j :: t := by
  rw [preK'_at s j h]
  split
  · exact ⟨_, rfl⟩
  · exact ⟨_, rfl⟩
theorem Keys.pre {s M : List Nat} (hM : MarksOk s M) : Keys s M (preK s) (preK' s) := by
  refine ⟨fun j hj => preK_at s j hj, fun j hj => preK'_not s j hj, preK'_nil s _ (Nat.le_refl _), fun j hj => preK'_head s j hj, ?_⟩
  intro i j a b ha hb _ hc
  have h1 := (hM.mem a).1 (List.mem_of_getElem? ha)
  have h2 := (hM.mem b).1 (List.mem_of_getElem? hb)
  rw [preK'_lms s a h1.2, preK'_lms s b h2.2]
  have : code s a = code s b := by unfold code; rw [lms_sm h1.2, lms_sm h2.2, hc]
  rw [this]
  exact lexle_refl _
/-- The next mark behind a place, or the end. -/
def nxF (s : List Nat) : Nat → Nat → Nat
  | 0, j => j
  | d + 1, j => if lms s j then j else nxF s d (j + 1)
def nx (s : List Nat) (a : Nat) : Nat := nxF s (s.length - (a + 1)) (a + 1)
theorem nxF_spec (s : List Nat) : ∀ d j, j + d = s.length → j ≤ nxF s d j ∧ nxF s d j ≤ s.length ∧ (∀ i, j ≤ i → i < nxF s d j → lms s i = false) ∧ (nxF s d j < s.length → lms s (nxF s d j) = true)
  | 0, j, h => ⟨Nat.le_refl _, by show j ≤ _; omega, fun i h1 h2 => by have : nxF s 0 j = j := rfl; omega, fun h1 => by have : nxF s 0 j = j := rfl; omega⟩
  | d + 1, j, h => by
    rw [nxF]
    cases hl : lms s j with
    | true => exact ⟨Nat.le_refl _, by simp; omega, fun i h1 h2 => by simp at h2; omega, fun _ => hl⟩
    | false =>
      obtain ⟨h1, h2, h3, h4⟩ := nxF_spec s d (j + 1) (by omega)
      simp only [Bool.false_eq_true, if_false]
      refine ⟨by omega, h2, fun i h5 h6 => ?_, h4⟩
      by_cases e : i = j
      · subst e; exact hl
      · exact h3 i (by omega) h6
theorem nx_step (s : List Nat) (a : Nat) (h : a + 1 < s.length) : nx s a = if lms s (a + 1) then a + 1 else nx s (a + 1) := by
  unfold nx
  rw [show s.length - (a + 1) = (s.length - (a + 1 + 1)) + 1 from by omega, nxF]
theorem nx_end (s : List Nat) (a : Nat) (h : a + 1 = s.length) : nx s a = a + 1 := by
  unfold nx
  rw [show s.length - (a + 1) = 0 from by omega]
  rfl
theorem lms_of_codes {s : List Nat} {a b : Nat} (h0 : code s a = code s b) (h1 : code s (a + 1) = code s (b + 1)) : lms s (a + 1) = lms s (b + 1) := by
  rw [lms_succ, lms_succ, (code_eq h0).2, (code_eq h1).2]
/-- Pieces that stand one ahead of the other: so do the suffixes. -/
theorem pre_full_lt (s : List Nat) : ∀ d a b, a + d = s.length → a < s.length → b < s.length → lexlt (preK s a) (preK s b) = true → lexlt (fullK s a) (fullK s b) = true
  | 0, a, b, hd, ha, _, _ => by omega
  | d + 1, a, b, hd, ha, hb, h => by
    rw [preK_at s a ha, preK_at s b hb, lexlt_cons] at h
    rw [fullK_cons s a ha, fullK_cons s b hb, lexlt_cons]
    rcases h with h | ⟨h0, h⟩
    · exact .inl h
    · refine .inr ⟨h0, ?_⟩
      rcases Nat.lt_or_ge (b + 1) s.length with hb1 | hb1
      · rcases Nat.lt_or_ge (a + 1) s.length with ha1 | ha1
        · cases hla : lms s (a + 1) with
          | true =>
            rw [preK'_lms s _ hla] at h
            cases hlb : lms s (b + 1) with
            | true =>
              rw [preK'_lms s _ hlb, lexlt_cons] at h
              rw [fullK_cons s _ ha1, fullK_cons s _ hb1, lexlt_cons]
              rcases h with h | ⟨_, h⟩
              · exact .inl h
              · cases h
            | false =>
              rw [preK'_not s _ hlb, preK_at s _ hb1, lexlt_cons] at h
              rw [fullK_cons s _ ha1, fullK_cons s _ hb1, lexlt_cons]
              rcases h with h | ⟨h, _⟩
              · exact .inl h
              · have := lms_of_codes h0 h
                rw [hla, hlb] at this
                cases this
          | false =>
            rw [preK'_not s _ hla] at h
            cases hlb : lms s (b + 1) with
            | true =>
              rw [preK'_lms s _ hlb, preK_at s _ ha1, lexlt_cons, lexlt_nil] at h
              rw [fullK_cons s _ ha1, fullK_cons s _ hb1, lexlt_cons]
              rcases h with h | ⟨_, h⟩
              · exact .inl h
              · cases h
            | false =>
              rw [preK'_not s _ hlb] at h
              exact pre_full_lt s d (a + 1) (b + 1) (by omega) ha1 hb1 h
        · rw [fullK_nil s _ ha1, fullK_cons s _ hb1]
          rfl
      · rw [preK'_nil s _ hb1, lexlt_nil] at h
        cases h
/-- The same piece: what follows decides. -/
theorem pre_full_eq (s : List Nat) : ∀ d a b, a + d = s.length → a < s.length → b < s.length → preK s a = preK s b → lexlt (fullK s (nx s a)) (fullK s (nx s b)) = true → lexlt (fullK s a) (fullK s b) = true
  | 0, a, b, hd, ha, _, _, _ => by omega
  | d + 1, a, b, hd, ha, hb, h, hn => by
    rw [preK_at s a ha, preK_at s b hb, List.cons.injEq] at h
    obtain ⟨h0, h⟩ := h
    rw [fullK_cons s a ha, fullK_cons s b hb, lexlt_cons]
    refine .inr ⟨h0, ?_⟩
    rcases Nat.lt_or_ge (a + 1) s.length with ha1 | ha1
    · obtain ⟨ta, hta⟩ := preK'_head s (a + 1) ha1
      have hb1 : b + 1 < s.length := by
        rcases Nat.lt_or_ge (b + 1) s.length with hb1 | hb1
        · exact hb1
        · rw [preK'_nil s _ hb1, hta] at h; cases h
      obtain ⟨tb, htb⟩ := preK'_head s (b + 1) hb1
      have h1 : code s (a + 1) = code s (b + 1) := by rw [hta, htb] at h; exact (List.cons.inj h).1
      have hl := lms_of_codes h0 h1
      rw [nx_step s a ha1, nx_step s b hb1, ← hl] at hn
      cases hla : lms s (a + 1) with
      | true => rw [hla] at hn; exact hn
      | false =>
        rw [hla] at hn hl
        rw [preK'_not s _ hla, preK'_not s _ hl.symm] at h
        exact pre_full_eq s d (a + 1) (b + 1) (by omega) ha1 hb1 h hn
    · have hb1 : s.length ≤ b + 1 := by
        rcases Nat.lt_or_ge (b + 1) s.length with hb1 | hb1
        · obtain ⟨tb, htb⟩ := preK'_head s (b + 1) hb1
          rw [preK'_nil s _ ha1, htb] at h; cases h
        · exact hb1
      rw [nx_end s a (by omega), nx_end s b (by omega), fullK_nil s _ hb1, lexlt_nil] at hn
      cases hn

/-! When two pieces are the same -/
theorem pre_same (s : List Nat) : ∀ e a b, a + e = s.length → a < s.length → b < s.length → a ≠ b → preK s a = preK s b → ∃ d, nx s a = a + d ∧ nx s b = b + d ∧ 1 ≤ d ∧ nx s a < s.length ∧ nx s b < s.length ∧ ∀ k, k ≤ d → ch s (a + k) = ch s (b + k)
  | 0, a, b, hd, ha, _, _, _ => by omega
  | e + 1, a, b, hd, ha, hb, hne, h => by
    rw [preK_at s a ha, preK_at s b hb, List.cons.injEq] at h
    obtain ⟨h0, h⟩ := h
    rcases Nat.lt_or_ge (a + 1) s.length with ha1 | ha1
    · obtain ⟨ta, hta⟩ := preK'_head s (a + 1) ha1
      have hb1 : b + 1 < s.length := by
        rcases Nat.lt_or_ge (b + 1) s.length with hb1 | hb1
        · exact hb1
        · rw [preK'_nil s _ hb1, hta] at h; cases h
      obtain ⟨tb, htb⟩ := preK'_head s (b + 1) hb1
      have h1 : code s (a + 1) = code s (b + 1) := by rw [hta, htb] at h; exact (List.cons.inj h).1
      have hl := lms_of_codes h0 h1
      rw [nx_step s a ha1, nx_step s b hb1, ← hl]
      cases hla : lms s (a + 1) with
      | true =>
        refine ⟨1, by simp, by simp, Nat.le_refl _, by simpa using ha1, by simpa using hb1, ?_⟩
        intro k hk
        have : k = 0 ∨ k = 1 := by omega
        rcases this with rfl | rfl
        · exact (code_eq h0).1
        · exact (code_eq h1).1
      | false =>
        rw [hla] at hl
        rw [preK'_not s _ hla, preK'_not s _ hl.symm] at h
        obtain ⟨d, d1, d2, d3, d4, d5, d6⟩ := pre_same s e (a + 1) (b + 1) (by omega) ha1 hb1 (by omega) h
        simp only [Bool.false_eq_true, if_false]
        refine ⟨d + 1, by omega, by omega, by omega, d4, d5, ?_⟩
        intro k hk
        cases k with
        | zero => exact (code_eq h0).1
        | succ k => have := d6 k (by omega); rwa [show a + 1 + k = a + (k + 1) from by omega, show b + 1 + k = b + (k + 1) from by omega] at this
    · exfalso
      rcases Nat.lt_or_ge (b + 1) s.length with hb1 | hb1
      · obtain ⟨tb, htb⟩ := preK'_head s (b + 1) hb1
        rw [preK'_nil s _ ha1, htb] at h; cases h
      · omega
theorem same_pre (s : List Nat) (a b d : Nat) (h1 : nx s a = a + d) (h2 : nx s b = b + d) (h3 : nx s a < s.length) (h4 : nx s b < s.length) (hc : ∀ k, k ≤ d → ch s (a + k) = ch s (b + k)) (ha : a < s.length) (hb : b < s.length) : preK s a = preK s b := by
  obtain ⟨a1, a2, a3, a4⟩ := nxF_spec s (s.length - (a + 1)) (a + 1) (by omega)
  obtain ⟨b1, b2, b3, b4⟩ := nxF_spec s (s.length - (b + 1)) (b + 1) (by omega)
  have hla : lms s (nx s a) = true := a4 h3
  have hlb : lms s (nx s b) = true := b4 h4
  have hd : 1 ≤ d := by have : a + 1 ≤ nx s a := a1; omega
  rw [h1] at hla h3
  rw [h2] at hlb h4
  have hsm : ∀ e k, k + e = d → sm s (a + k) = sm s (b + k) := by
    intro e
    induction e with
    | zero => intro k hk; obtain rfl : k = d := by omega
              rw [lms_sm hla, lms_sm hlb]
    | succ e ih =>
      intro k hk
      have h5 := ih (k + 1) (by omega)
      have h6 := hc k (by omega)
      have h7 := hc (k + 1) (by omega)
      rw [← Nat.add_assoc, ← Nat.add_assoc] at h5 h7
      rw [sm_step s (a + k) (by omega), sm_step s (b + k) (by omega), h5, h6, h7]
  have hcode : ∀ k, k ≤ d → code s (a + k) = code s (b + k) := by
    intro k hk
    unfold code
    rw [hc k hk, hsm (d - k) k (by omega)]
  have key : ∀ e k, k + e = d → 1 ≤ e → preK s (a + k) = preK s (b + k) := by
    intro e
    induction e with
    | zero => intro k _ h; omega
    | succ e ih =>
      intro k hk _
      rw [preK_at s (a + k) (by omega), preK_at s (b + k) (by omega), hcode k (by omega)]
      congr 1
      by_cases he : e = 0
      · subst he
        rw [show a + k + 1 = a + d from by omega, show b + k + 1 = b + d from by omega, preK'_lms s _ hla, preK'_lms s _ hlb, hcode d (Nat.le_refl _)]
      · rw [preK'_not s _ (a3 (a + k + 1) (by omega) (by show _ < nx s a; omega)), preK'_not s _ (b3 (b + k + 1) (by omega) (by show _ < nx s b; omega))]
        exact ih (k + 1) (by omega) (by omega)
  exact key d 0 (by omega) hd

/-! The marks, by their numbers -/
def marksP (s : List Nat) : List Nat := (List.range s.length).filter (lms s)
/-- How many marks stand ahead of a place. -/
def cntM (s : List Nat) (p : Nat) : Nat := ((List.range p).filter (lms s)).length
theorem marksP_ok (s : List Nat) : MarksOk s (marksP s) := ⟨List.Pairwise.filter _ List.nodup_range, fun m => by simp [marksP]⟩
theorem cntM_succ (s : List Nat) (p : Nat) : cntM s (p + 1) = cntM s p + (lms s p).toNat := by
  unfold cntM
  rw [List.range_succ, List.filter_append, List.length_append]
  congr 1
  cases h : lms s p <;> simp [h]
theorem cntM_mono (s : List Nat) {a b : Nat} (h : a ≤ b) : cntM s a ≤ cntM s b := by
  induction b with
  | zero => have : a = 0 := by omega
            subst this; exact Nat.le_refl _
  | succ b ih =>
    by_cases e : a = b + 1
    · subst e; exact Nat.le_refl _
    · have := ih (by omega)
      rw [cntM_succ]; omega
theorem filter_range_at (q : Nat → Bool) : ∀ (n a : Nat), a < n → q a = true → ((List.range n).filter q)[((List.range a).filter q).length]? = some a
  | 0, a, h, _ => by omega
  | n + 1, a, h, hq => by
    rw [List.range_succ, List.filter_append]
    by_cases e : a = n
    · subst e
      rw [List.getElem?_append_right (Nat.le_refl _), Nat.sub_self]
      simp [hq]
    · have h1 := filter_range_at q n a (by omega) hq
      rw [List.getElem?_append_left (List.getElem?_eq_some_iff.1 h1).1]
      exact h1
theorem marksP_at (s : List Nat) (a : Nat) (h : lms s a = true) : (marksP s)[cntM s a]? = some a := filter_range_at (lms s) s.length a (by have := lms_lt h; omega) h
theorem marksP_idx (s : List Nat) (k a : Nat) (h : (marksP s)[k]? = some a) : a < s.length ∧ lms s a = true ∧ cntM s a = k := by
  have h1 := ((marksP_ok s).mem a).1 (List.mem_of_getElem? h)
  exact ⟨h1.1, h1.2, nodup_at (marksP_ok s).nd (marksP_at s a h1.2) h⟩
theorem marksP_len (s : List Nat) : (marksP s).length = cntM s s.length := rfl
theorem marksP_lt (s : List Nat) (h : 1 ≤ s.length) : (marksP s).length < s.length := by
  have h1 : 0 ∉ marksP s := by intro h; have := ((marksP_ok s).mem 0).1 h; simp [lms] at this
  have h2 : (0 :: marksP s).Nodup := List.nodup_cons.2 ⟨h1, (marksP_ok s).nd⟩
  have h3 : (0 :: marksP s) ⊆ List.range s.length := by
    intro x hx
    rcases List.mem_cons.1 hx with rfl | hx
    · simp; omega
    · have := ((marksP_ok s).mem x).1 hx
      simpa using this.1
  have := h2.length_le_of_subset h3
  simp at this
  omega
/-- The mark of a number; the end behind the last one. -/
def mkAt (s : List Nat) (k : Nat) : Nat := (marksP s).getD k s.length
theorem mkAt_some (s : List Nat) (k a : Nat) (h : (marksP s)[k]? = some a) : mkAt s k = a := by unfold mkAt; rw [List.getD_eq_getElem?_getD, h]; rfl
theorem mkAt_end (s : List Nat) (k : Nat) (h : (marksP s).length ≤ k) : mkAt s k = s.length := by unfold mkAt; rw [List.getD_eq_getElem?_getD, List.getElem?_eq_none h]; rfl
theorem cntM_flat (s : List Nat) (a : Nat) : ∀ d, (∀ i, a ≤ i → i < a + d → lms s i = false) → cntM s (a + d) = cntM s a
  | 0, _ => rfl
  | d + 1, h => by
    rw [← Nat.add_assoc, cntM_succ, cntM_flat s a d (fun i h1 h2 => h i h1 (by omega)), h (a + d) (by omega) (by omega)]
    rfl
/-- The next mark is the mark of the next number. -/
theorem mkAt_next (s : List Nat) (k a : Nat) (h : (marksP s)[k]? = some a) : mkAt s (k + 1) = nx s a := by
  obtain ⟨h1, h2, h3⟩ := marksP_idx s k a h
  obtain ⟨n1, n2, n3, n4⟩ := nxF_spec s (s.length - (a + 1)) (a + 1) (by omega)
  have hc : cntM s (nx s a) = k + 1 := by
    have e : nx s a = (a + 1) + (nx s a - (a + 1)) := by unfold nx; omega
    rw [e, cntM_flat s (a + 1) _ (fun i h5 h6 => n3 i h5 (by unfold nx at h6; omega)), cntM_succ, h2, h3]
    rfl
  rcases Nat.lt_or_ge (nx s a) s.length with h4 | h4
  · have h5 : lms s (nx s a) = true := n4 h4
    have := marksP_at s _ h5
    rw [hc] at this
    exact mkAt_some s _ _ this
  · have h5 : nx s a = s.length := by unfold nx at h4 ⊢; omega
    rw [h5] at hc ⊢
    exact mkAt_end s _ (by rw [marksP_len, hc]; exact Nat.le_refl _)
/-- The marks' names: their order goes with the pieces'. -/
structure Named (s : List Nat) (R : List Nat) : Prop where
  len : R.length = (marksP s).length
  lt : ∀ (i j a b : Nat), (marksP s)[i]? = some a → (marksP s)[j]? = some b → ch R i < ch R j → lexlt (preK s a) (preK s b) = true
  eq : ∀ (i j a b : Nat), (marksP s)[i]? = some a → (marksP s)[j]? = some b → ch R i = ch R j → preK s a = preK s b
theorem Named.full {s R : List Nat} (h : Named s R) : ∀ d k j, k + d = R.length → j ≤ R.length → lexlt (R.drop k) (R.drop j) = true → lexlt (fullK s (mkAt s k)) (fullK s (mkAt s j)) = true
  | d, k, j, hd, hj, hl => by
    rcases Nat.lt_or_ge j R.length with hj1 | hj1
    · obtain ⟨b, hb⟩ : ∃ b, (marksP s)[j]? = some b := ⟨_, List.getElem?_eq_getElem (by rw [← h.len]; exact hj1)⟩
      have hbl := (marksP_idx s j b hb).1
      rw [mkAt_some s j b hb]
      rcases Nat.lt_or_ge k R.length with hk1 | hk1
      · obtain ⟨a, ha⟩ : ∃ a, (marksP s)[k]? = some a := ⟨_, List.getElem?_eq_getElem (by rw [← h.len]; exact hk1)⟩
        have hal := (marksP_idx s k a ha).1
        rw [mkAt_some s k a ha]
        rw [drop_ch R k hk1, drop_ch R j hj1, lexlt_cons] at hl
        rcases hl with hl | ⟨h0, hl⟩
        · exact pre_full_lt s (s.length - a) a b (by omega) hal hbl (h.lt k j a b ha hb hl)
        · obtain ⟨d, rfl⟩ : ∃ e, d = e + 1 := ⟨d - 1, by omega⟩
          have ih := Named.full h d (k + 1) (j + 1) (by omega) hj1 hl
          rw [mkAt_next s k a ha, mkAt_next s j b hb] at ih
          exact pre_full_eq s (s.length - a) a b (by omega) hal hbl (h.eq k j a b ha hb h0) ih
      · rw [mkAt_end s k (by rw [← h.len]; exact hk1), fullK_nil s _ (Nat.le_refl _), fullK_cons s b hbl]
        rfl
    · rw [List.drop_of_length_le hj1, lexlt_nil] at hl
      cases hl
/-- The marks in the order of their names' suffixes are in the order of the suffixes. -/
theorem Named.marks {s R T : List Nat} (h : Named s R) (hT : IsSA R T) : MarksOk s (T.map (mkAt s)) ∧ ∀ (i j a b : Nat), (T.map (mkAt s))[i]? = some a → (T.map (mkAt s))[j]? = some b → i < j → ch s a = ch s b → lexle (fullK s a) (fullK s b) := by
  have hmem : ∀ k ∈ T, k < (marksP s).length := by
    intro k hk
    have := hT.perm.subset hk
    rw [← h.len]
    simpa using this
  have hget : ∀ k, k < (marksP s).length → (marksP s)[k]? = some (mkAt s k) := by
    intro k hk
    have h1 : (marksP s)[k]? = some (marksP s)[k] := List.getElem?_eq_getElem hk
    rw [mkAt_some s k _ h1, h1]
  constructor
  · have hp : (T.map (mkAt s)).Perm (marksP s) := by
      have h1 := hT.perm.map (mkAt s)
      have h2 : (List.range R.length).map (mkAt s) = marksP s := by
        apply List.ext_getElem?
        intro k
        rw [h.len]
        by_cases hk : k < (marksP s).length
        · rw [hget k hk]; simp [hk]
        · rw [List.getElem?_eq_none (by simp; omega), List.getElem?_eq_none (by omega)]
      rw [h2] at h1
      exact h1
    exact ⟨(List.Perm.nodup_iff hp).2 (marksP_ok s).nd, fun m => by rw [hp.mem_iff]; exact (marksP_ok s).mem m⟩
  · intro i j a b ha hb hij _
    rw [List.getElem?_map] at ha hb
    obtain ⟨k, hk, rfl⟩ := Option.map_eq_some_iff.1 ha
    obtain ⟨m, hm, rfl⟩ := Option.map_eq_some_iff.1 hb
    obtain ⟨hi1, hk2⟩ := List.getElem?_eq_some_iff.1 hk
    obtain ⟨hj1, hm2⟩ := List.getElem?_eq_some_iff.1 hm
    have h1 := List.pairwise_iff_getElem.1 hT.sorted i j hi1 hj1 hij
    rw [hk2, hm2] at h1
    have hkl := hmem k (List.mem_of_getElem? hk)
    have hml := hmem m (List.mem_of_getElem? hm)
    exact lexle_of_lt (h.full (R.length - k) k m (by rw [h.len]; omega) (by rw [h.len]; omega) h1)

/-! Names out of an order by pieces -/
def nmAt (s : List Nat) (Ms : List Nat) : Nat → Nat
  | 0 => 0
  | t + 1 => nmAt s Ms t + (if preK s (Ms.getD t 0) = preK s (Ms.getD (t + 1) 0) then 0 else 1)
theorem nmAt_mono (s Ms : List Nat) (t : Nat) : ∀ d, nmAt s Ms t ≤ nmAt s Ms (t + d)
  | 0 => Nat.le_refl _
  | d + 1 => by have := nmAt_mono s Ms t d; rw [← Nat.add_assoc, nmAt]; omega
theorem nmAt_eq (s Ms : List Nat) (t : Nat) : ∀ d, nmAt s Ms t = nmAt s Ms (t + d) → preK s (Ms.getD t 0) = preK s (Ms.getD (t + d) 0)
  | 0, _ => rfl
  | d + 1, h => by
    rw [← Nat.add_assoc, nmAt] at h
    have h1 := nmAt_mono s Ms t d
    have h2 := nmAt_eq s Ms t d (by omega)
    rw [h2]
    by_cases e : preK s (Ms.getD (t + d) 0) = preK s (Ms.getD (t + d + 1) 0)
    · exact e
    · rw [if_neg e] at h; omega
theorem named_of {s R Ms : List Nat} (hMs : Ms.Perm (marksP s)) (hs : ∀ (i j a b : Nat), Ms[i]? = some a → Ms[j]? = some b → i < j → lexle (preK s a) (preK s b)) (hl : R.length = (marksP s).length)
    (hR : ∀ (t k m : Nat), Ms[t]? = some m → (marksP s)[k]? = some m → ch R k = nmAt s Ms t) : Named s R := by
  have find : ∀ (k a : Nat), (marksP s)[k]? = some a → ∃ t, Ms[t]? = some a ∧ ch R k = nmAt s Ms t := by
    intro k a h
    obtain ⟨t, ht⟩ := List.mem_iff_getElem?.1 (hMs.symm.subset (List.mem_of_getElem? h))
    exact ⟨t, ht, hR t k a ht h⟩
  have hD : ∀ (t a : Nat), Ms[t]? = some a → Ms.getD t 0 = a := fun t a h => by rw [List.getD_eq_getElem?_getD, h]; rfl
  have heq : ∀ (t u a b : Nat), Ms[t]? = some a → Ms[u]? = some b → nmAt s Ms t = nmAt s Ms u → preK s a = preK s b := by
    intro t u a b ha hb h
    rcases Nat.le_total t u with h1 | h1
    · have := nmAt_eq s Ms t (u - t) (by rw [show t + (u - t) = u from by omega]; exact h)
      rw [show t + (u - t) = u from by omega, hD t a ha, hD u b hb] at this
      exact this
    · have := nmAt_eq s Ms u (t - u) (by rw [show u + (t - u) = t from by omega]; exact h.symm)
      rw [show u + (t - u) = t from by omega, hD t a ha, hD u b hb] at this
      exact this.symm
  refine ⟨hl, ?_, ?_⟩
  · intro i j a b ha hb h
    obtain ⟨t, ht, e1⟩ := find i a ha
    obtain ⟨u, hu, e2⟩ := find j b hb
    rw [e1, e2] at h
    have htu : t < u := by
      rcases Nat.lt_or_ge t u with h1 | h1
      · exact h1
      · have := nmAt_mono s Ms u (t - u)
        rw [show u + (t - u) = t from by omega] at this
        omega
    rcases (lexle_iff _ _).1 (hs t u a b ht hu htu) with h2 | h2
    · exfalso
      have key : ∀ d, t + d ≤ u → nmAt s Ms (t + d) = nmAt s Ms t := by
        intro d
        induction d with
        | zero => intro _; rfl
        | succ d ih =>
          intro hd
          have ih := ih (by omega)
          rw [← Nat.add_assoc, nmAt, ih]
          obtain ⟨x, hx⟩ : ∃ x, Ms[t + d]? = some x := ⟨_, List.getElem?_eq_getElem (by have := (List.getElem?_eq_some_iff.1 hu).1; omega)⟩
          obtain ⟨y, hy⟩ : ∃ y, Ms[t + d + 1]? = some y := ⟨_, List.getElem?_eq_getElem (by have := (List.getElem?_eq_some_iff.1 hu).1; omega)⟩
          rw [hD _ _ hx, hD _ _ hy]
          have h3 := heq t (t + d) a x ht hx ih.symm
          have h4 := hs (t + d) (t + d + 1) x y hx hy (by omega)
          have h5 : lexle (preK s y) (preK s b) := by
            rcases Nat.lt_or_ge (t + d + 1) u with h6 | h6
            · exact hs _ _ y b hy hu h6
            · have : t + d + 1 = u := by omega
              rw [this, hu] at hy
              cases hy
              exact lexle_refl _
          rw [← h3] at h4 ⊢
          rw [← h2] at h5
          rcases (lexle_iff _ _).1 h4 with h6 | h6
          · rw [if_pos h6]; omega
          · have h5' : lexlt (preK s a) (preK s y) = false := h5
            rw [h5'] at h6
            cases h6
      have := key (u - t) (by omega)
      rw [show t + (u - t) = u from by omega] at this
      omega
    · exact h2
  · intro i j a b ha hb h
    obtain ⟨t, ht, e1⟩ := find i a ha
    obtain ⟨u, hu, e2⟩ := find j b hb
    exact heq t u a b ht hu (by rw [← e1, ← e2]; exact h)
end Go.Proofs.Ythgbkncanoknkaa
/-
  Suffix sorting: rows of numbers by functions, slices.Clone, and the two functions of the sorter that only read: end, same.
-/
set_option linter.unusedVariables false
set_option linter.unusedSimpArgs false
namespace Go.Proofs.Ythgbkncanoknkaa
open Go.RowKit
set_option maxRecDepth 100000
/-- A text of numbers, as numbers. -/
def tI (s : List Nat) : List Int := s.map Int.ofNat
theorem tI_length (s : List Nat) : (tI s).length = s.length := by simp [tI]
theorem tI_get (s : List Nat) (i : Nat) (h : i < s.length) : (tI s)[i]? = some (ch s i : Int) := by
  unfold tI ch
  rw [List.getElem?_map, List.getElem?_eq_getElem h, List.getD_eq_getElem?_getD, List.getElem?_eq_getElem h]
  rfl
/-! slices.Clone -/
@[go_sem] theorem eql_nil_ints (w : World) (ao : Option Addr) (n c : Nat) : (binOp .eql 80 (.slice ao n c) (.slice none 0 0)).run Try.prog w = .ok (.bool ao.isNone) w := Lib.run_eql_slice_nil w _ _ _ _ _ _ _ Try.underlying80
theorem clonei_some (ad : Addr) (n cap : Nat) (l : List Int) (w : World) (h : Rd w 1 (.slice (some ad) n cap) n (iv l)) (hn : n ≤ 17592186044416) :
    Calls Try.prog 96 #[.slice (some ad) n cap] w fun e w' => ∃ v c, e = .returned v ∧ RowC 3 1 v n (iv l) c ∧ St w.heap.size w w' [c] := by
  obtain ⟨i0, i0a, i0b, i0c, i0d⟩ := info_parts infoInt
  go_enter Try.func96, Try.ntmps96
  go_wp2_with (at_builtin; (refine wpList_app 0 80 i0 (.int .i64 0) _ _ rfl rfl rfl rfl Try.underlying80 i0a i0b i0c i0d rfl (by decide) ((St.init w).alloc _) rfl (RowC.fresh w.heap.size [] rfl (Nat.le_refl 0) (Nat.zero_le _) rfl rfl) (h.keep (Below.alloc (Below.refl _ _) (Nat.le_refl _) _)) (iv_one l) ?_ ?_ ?_); (unfold maxLen; omega); omega; intro v1 c1 w1 hr1 hs1)
  go_ret
  simp only [Nat.zero_add, List.nil_append] at hr1
  exact ⟨v1, c1, rfl, hr1, hs1⟩
theorem clonei_any (v : Value) (n : Nat) (l : List Int) (w : World) (h : Rd w 1 v n (iv l)) (hn : n ≤ 17592186044416) :
    Calls Try.prog 96 #[v] w fun e w' => ∃ v c, e = .returned v ∧ RowC 3 1 v n (iv l) c ∧ St w.heap.size w w' [c] := by
  obtain ⟨ao, cap, rfl⟩ := h.shape
  cases ao with
  | some ad => exact clonei_some ad n cap l w h hn
  | none =>
    obtain ⟨rfl, rfl, hx⟩ := h.none_iff
    have hbs : l = [] := by simpa [iv] using hx
    subst hbs
    clear h hx hn
    go_enter Try.func96, Try.ntmps96
    go_wp2
    go_ret
    exact ⟨_, [], rfl, RowC.nil _ _, (St.init w).one_nil⟩

/-! What a sorter tells -/
/-- The numbers of the marks, by places. -/
def numP (s : List Nat) (i : Nat) : Int := if lms s i then (cntM s i : Int) else -1
/-- A sorter that is prepared, as it is read. -/
structure SoR (w : World) (p : Nat) (s : List Nat) : Prop where
  t : ∃ v, w.cell? ⟨p, 0, none⟩ = some v ∧ Rd w 1 v s.length (iv (tI s))
  m : ∃ v, w.cell? ⟨p, 5, none⟩ = some v ∧ Rd w 1 v (marksP s).length (iv (tI (marksP s)))
  n : ∃ v, w.cell? ⟨p, 6, none⟩ = some v ∧ Rd w 1 v (s.length + 1) (iv (mkI (numP s) (s.length + 1)))
theorem SoR.drewN {w : World} {p : Nat} {s : List Nat} (h : SoR w p s) (k : Nat) : SoR (w.drewN k) p s := by
  obtain ⟨⟨v0, a0, b0⟩, ⟨v1, a1, b1⟩, ⟨v2, a2, b2⟩⟩ := h
  exact ⟨⟨v0, by rw [World.cell?_drewN]; exact a0, b0.drewN k⟩, ⟨v1, by rw [World.cell?_drewN]; exact a1, b1.drewN k⟩, ⟨v2, by rw [World.cell?_drewN]; exact a2, b2.drewN k⟩⟩
theorem end_any (p : Nat) (s : List Nat) (a : Nat) (w : World) (h : SoR w p s) (hn : s.length ≤ 1000000) (ha : lms s a = true) :
    Calls Try.prog 99 #[.pointer (some ⟨p, 0, none⟩), .int .i64 (a : Int)] w fun e w' => e = .returned (.int .i64 (nx s a : Int)) ∧ w = w' := by
  obtain ⟨⟨v0, a0, b0⟩, ⟨v1, a1, b1⟩, ⟨v2, a2, b2⟩⟩ := h
  have hal := lms_lt ha
  have hmk := marksP_at s a ha
  have hnx := mkAt_next s _ a hmk
  have hkl := (List.getElem?_eq_some_iff.1 hmk).1
  have hml := marksP_lt s (by omega)
  obtain ⟨ao2, cap2, rfl⟩ := b2.shape
  obtain ⟨ao1, cap1, rfl⟩ := b1.shape
  obtain ⟨ao0, cap0, rfl⟩ := b0.shape
  have hnum : (mkI (numP s) (s.length + 1))[a]? = some (cntM s a : Int) := by
    rw [mkI_get _ _ _ (by omega)]
    unfold numP
    rw [if_pos ha]
  obtain ⟨ad2, rfl, hc2⟩ := b2.at (iv_get _ a _ hnum)
  have hlen : ((marksP s).length : Int) ≤ 1000000 := by omega
  have hci : (cntM s a : Int) ≤ 1000000 := by omega
  have hai : (a : Int) < s.length + 1 := by omega
  have hnl : (s.length : Int) ≤ 1000000 := by omega
  rw [← hnx]
  clear hnum hnx hmk ha
  by_cases q : cntM s a + 1 < (marksP s).length
  · have hg : (marksP s)[cntM s a + 1]? = some (mkAt s (cntM s a + 1)) := by
      have h1 : (marksP s)[cntM s a + 1]? = some (marksP s)[cntM s a + 1] := List.getElem?_eq_getElem q
      rw [mkAt_some s _ _ h1, h1]
    have hg2 : (tI (marksP s))[cntM s a + 1]? = some (mkAt s (cntM s a + 1) : Int) := by
      unfold tI
      rw [List.getElem?_map, hg]
      rfl
    obtain ⟨ad1, rfl, hc1⟩ := b1.at (iv_get _ _ _ hg2)
    replace hc1 : w.cell? ⟨ad1.block, ad1.off + (cntM s a + 1), none⟩ = some (.int .i64 (mkAt s (cntM s a + 1) : Int)) := hc1
    have q2 : (cntM s a : Int) + 1 < ((marksP s).length : Int) := by omega
    clear hg hg2
    go_enter Try.func99, Try.ntmps99
    go_wp2
    go_ret
    exact ⟨rfl, rfl⟩
  · rw [mkAt_end s _ (by omega)]
    have q2 : ¬ (cntM s a : Int) + 1 < ((marksP s).length : Int) := by omega
    go_enter Try.func99, Try.ntmps99
    go_wp2
    go_ret
    exact ⟨rfl, rfl⟩
set_option maxHeartbeats 2000000 in
theorem same_any (p : Nat) (s : List Nat) (a b : Nat) (w : World) (h : SoR w p s) (hn : s.length ≤ 1000000) (ha : lms s a = true) (hb : lms s b = true) (hab : a ≠ b) :
    Calls Try.prog 97 #[.pointer (some ⟨p, 0, none⟩), .int .i64 (a : Int), .int .i64 (b : Int)] w fun e w' => e = .returned (.bool (decide (preK s a = preK s b))) ∧ Drew w w' := by
  have hal := lms_lt ha
  have hbl := lms_lt hb
  have hps := pre_same s (s.length - a) a b (by omega) (by omega) (by omega) hab
  have hsp := same_pre s a b
  obtain ⟨a1, a2, a3, a4⟩ := nxF_spec s (s.length - (a + 1)) (a + 1) (by omega)
  obtain ⟨b1, b2, b3, b4⟩ := nxF_spec s (s.length - (b + 1)) (b + 1) (by omega)
  have HA : a + 1 ≤ nx s a ∧ nx s a ≤ s.length := ⟨a1, a2⟩
  have HB : b + 1 ≤ nx s b ∧ nx s b ≤ s.length := ⟨b1, b2⟩
  have HPS := Lib.hid (And.intro hps hsp)
  have HR := Lib.hid h
  obtain ⟨⟨v0, c0, r0⟩, _, _⟩ := h
  obtain ⟨ao, cap, rfl⟩ := r0.shape
  obtain ⟨ad, rfl, _⟩ := r0.at (iv_get _ a _ (tI_get s a (by omega)))
  have hat : ∀ k, k < s.length → w.cell? (ad.add k) = some (.int .i64 (ch s k : Int)) := by
    intro k hk
    obtain ⟨ad', e, hc⟩ := r0.at (iv_get _ k _ (tI_get s k hk))
    cases e
    exact hc
  have HAT := Lib.hid hat
  clear hat
  generalize hea : nx s a = ea at *
  generalize heb : nx s b = eb at *
  have HE := Lib.hid (And.intro hea heb)
  clear hps hsp a1 a2 a3 a4 b1 b2 b3 b4 hea heb
  have i1 : (ea : Int) ≤ 1000000 := by omega
  have i2 : (eb : Int) ≤ 1000000 := by omega
  have i3 : (a : Int) ≤ 1000000 := by omega
  have i4 : (b : Int) ≤ 1000000 := by omega
  have hnl : (s.length : Int) ≤ 1000000 := by omega
  go_enter Try.func97, Try.ntmps97
  go_wp2_with fail
  refine (end_any p s a w HR.out hn ha).mono ?_
  rintro e w1 ⟨rfl, rfl⟩
  rw [HE.out.1]
  go_wp2_with fail
  refine (end_any p s b w HR.out hn hb).mono ?_
  rintro e w1 ⟨rfl, rfl⟩
  rw [HE.out.2]
  by_cases hd : ea - a = eb - b
  · obtain ⟨d, hda⟩ : ∃ d, ea = a + d := ⟨ea - a, by omega⟩
    have hdb : eb = b + d := by omega
    subst hda
    subst hdb
    have q1 : (((a + d : Nat) : Int) - (a : Int) != ((b + d : Nat) : Int) - (b : Int)) = false := by simp <;> omega
    have q1' : ((a : Int) + (d : Int) - (a : Int) != (b : Int) + (d : Int) - (b : Int)) = false := by simp <;> omega
    go_wp2_with fail
    go_loopg [1, 2] d (fun m s1 s2 wr => ∃ i : Nat, i + m = d ∧ s1 = .int .i64 ((a : Int) + (i : Int)) ∧ s2 = .int .i64 ((b : Int) + (i : Int)) ∧ Hid (∀ k, k < i → ch s (a + k) = ch s (b + k)) ∧ Drew w wr)
    case atStart => exact ⟨0, by omega, by simp, by simp, Lib.hid (by intro k hk; omega), Drew.refl _⟩
    case round =>
      obtain ⟨i, hi, rfl, rfl, HC, hdr⟩ := hrel
      obtain ⟨nd, rfl⟩ := hdr.out
      have hle : a + i ≤ s.length ∧ b + i ≤ s.length := by omega
      cases gk with
      | zero =>
        obtain rfl : i = d := by omega
        clear hi
        have q2 : ¬ (a : Int) + (i : Int) < (a : Int) + (i : Int) := by omega
        by_cases qa : a + i < s.length
        · by_cases qb : b + i < s.length
          · have hca := (HAT.out (a + i) qa)
            have hcb := (HAT.out (b + i) qb)
            by_cases qc : ch s (a + i) = ch s (b + i)
            · have hpre : preK s a = preK s b := by
                refine HPS.out.2 i rfl rfl qa qb (fun k hk => ?_) (by omega) (by omega)
                by_cases e : k = i
                · subst e; exact qc
                · exact HC.out k (by omega)
              have HP := Lib.hid hpre
              have q3 : ((ch s (a + i) : Int) == (ch s (b + i) : Int)) = true := by rw [qc]; simp
              have q4 : (a : Int) + (i : Int) < (s.length : Int) := by omega
              have q5 : (b : Int) + (i : Int) < (s.length : Int) := by omega
              clear hpre qc
              go_wp2_with (first | ((with_reducible refine wp_draw_all (id := 4) mixed ?_ (fun _ _ => ?_)); kernel_rfl) | ((with_reducible refine wp_draw_all (id := 7) mixed ?_ (fun _ _ => ?_)); kernel_rfl) | ((with_reducible refine wpStill_plain ?_ ?_ (fun _ _ => ?_)); rfl; rfl) | ((with_reducible refine wpStill_want ?_ ?_ (fun _ _ => ?_)); (focus (simp [Region.wanted, yielded]; done)); rfl) | ((with_reducible refine wpStill_skip ?_ ?_); (focus (simp [Region.wanted, yielded]; done)); (simp only [Act.put, List.setIfInBounds_toArray, List.set_cons_zero, List.set_cons_succ])) | (with_reducible refine wpStill_nil ?_))
              go_ret
              exact ⟨by simp [HP.out], Drew.mk _ (nd + 2)⟩
            · have hpre : preK s a ≠ preK s b := by
                intro e
                obtain ⟨d', d1, d2, _, _, _, d6⟩ := HPS.out.1 e
                have h1 := HE.out.1
                exact qc (d6 i (by omega))
              have HP := Lib.hid hpre
              have q3 : ((ch s (a + i) : Int) == (ch s (b + i) : Int)) = false := by rw [beq_eq_false_iff_ne]; omega
              have q4 : (a : Int) + (i : Int) < (s.length : Int) := by omega
              have q5 : (b : Int) + (i : Int) < (s.length : Int) := by omega
              clear hpre qc
              go_wp2_with (first | ((with_reducible refine wp_draw_all (id := 4) mixed ?_ (fun _ _ => ?_)); kernel_rfl) | ((with_reducible refine wp_draw_all (id := 7) mixed ?_ (fun _ _ => ?_)); kernel_rfl) | ((with_reducible refine wpStill_plain ?_ ?_ (fun _ _ => ?_)); rfl; rfl) | ((with_reducible refine wpStill_want ?_ ?_ (fun _ _ => ?_)); (focus (simp [Region.wanted, yielded]; done)); rfl) | ((with_reducible refine wpStill_skip ?_ ?_); (focus (simp [Region.wanted, yielded]; done)); (simp only [Act.put, List.setIfInBounds_toArray, List.set_cons_zero, List.set_cons_succ])) | (with_reducible refine wpStill_nil ?_))
              go_ret
              exact ⟨by simp [HP.out], Drew.mk _ (nd + 2)⟩
          · have hpre : preK s a ≠ preK s b := by
              intro e
              obtain ⟨d', d1, d2, _, _, d5, d6⟩ := HPS.out.1 e
              have h1 := HE.out.2
              omega
            have HP := Lib.hid hpre
            have q4 : (a : Int) + (i : Int) < (s.length : Int) := by omega
            have q5 : ¬ (b : Int) + (i : Int) < (s.length : Int) := by omega
            clear hpre
            go_wp2_with (first | ((with_reducible refine wp_draw_all (id := 4) mixed ?_ (fun _ _ => ?_)); kernel_rfl) | ((with_reducible refine wp_draw_all (id := 7) mixed ?_ (fun _ _ => ?_)); kernel_rfl) | ((with_reducible refine wpStill_plain ?_ ?_ (fun _ _ => ?_)); rfl; rfl) | ((with_reducible refine wpStill_want ?_ ?_ (fun _ _ => ?_)); (focus (simp [Region.wanted, yielded]; done)); rfl) | ((with_reducible refine wpStill_skip ?_ ?_); (focus (simp [Region.wanted, yielded]; done)); (simp only [Act.put, List.setIfInBounds_toArray, List.set_cons_zero, List.set_cons_succ])) | (with_reducible refine wpStill_nil ?_))
            go_ret
            exact ⟨by simp [HP.out], Drew.mk _ (nd + 2)⟩
        · have hpre : preK s a ≠ preK s b := by
            intro e
            obtain ⟨d', d1, d2, _, d4, _, d6⟩ := HPS.out.1 e
            have h1 := HE.out.1
            omega
          have HP := Lib.hid hpre
          have q4 : ¬ (a : Int) + (i : Int) < (s.length : Int) := by omega
          clear hpre
          go_wp2_with (first | ((with_reducible refine wp_draw_all (id := 4) mixed ?_ (fun _ _ => ?_)); kernel_rfl) | ((with_reducible refine wp_draw_all (id := 7) mixed ?_ (fun _ _ => ?_)); kernel_rfl) | ((with_reducible refine wpStill_plain ?_ ?_ (fun _ _ => ?_)); rfl; rfl) | ((with_reducible refine wpStill_want ?_ ?_ (fun _ _ => ?_)); (focus (simp [Region.wanted, yielded]; done)); rfl) | ((with_reducible refine wpStill_skip ?_ ?_); (focus (simp [Region.wanted, yielded]; done)); (simp only [Act.put, List.setIfInBounds_toArray, List.set_cons_zero, List.set_cons_succ])) | (with_reducible refine wpStill_nil ?_))
          go_ret
          exact ⟨by simp [HP.out], Drew.mk _ (nd + 2)⟩
      | succ m =>
        have qi : i < d := by omega
        have qa : a + i < s.length := by omega
        have qb : b + i < s.length := by omega
        have hca := (HAT.out (a + i) qa)
        have hcb := (HAT.out (b + i) qb)
        have q2 : (a : Int) + (i : Int) < (a : Int) + (d : Int) := by omega
        have q2' : (i : Int) < (d : Int) := by omega
        by_cases qc : ch s (a + i) = ch s (b + i)
        · have q3 : ((ch s (a + i) : Int) == (ch s (b + i) : Int)) = true := by rw [qc]; simp
          have HQ := Lib.hid qc
          clear qc
          go_wp2_with (first | ((with_reducible refine wp_draw_all (id := 4) mixed ?_ (fun _ _ => ?_)); kernel_rfl) | ((with_reducible refine wpStill_plain ?_ ?_ (fun _ _ => ?_)); rfl; rfl) | ((with_reducible refine wpStill_want ?_ ?_ (fun _ _ => ?_)); (focus (simp [Region.wanted, yielded]; done)); rfl) | ((with_reducible refine wpStill_skip ?_ ?_); (focus (simp [Region.wanted, yielded]; done)); (simp only [Act.put, List.setIfInBounds_toArray, List.set_cons_zero, List.set_cons_succ])) | (with_reducible refine wpStill_nil ?_))
          go_roundg m
          case measure => omega
          case rel =>
            refine ⟨i + 1, by omega, by go_num, by go_num, Lib.hid (fun k hk => ?_), Drew.mk _ (nd + 1)⟩
            by_cases e : k = i
            · subst e; exact HQ.out
            · exact HC.out k (by omega)
        · have hpre : preK s a ≠ preK s b := by
            intro e
            obtain ⟨d', d1, d2, _, _, _, d6⟩ := HPS.out.1 e
            have h1 := HE.out.1
            exact qc (d6 i (by omega))
          have HP := Lib.hid hpre
          have q3 : ((ch s (a + i) : Int) == (ch s (b + i) : Int)) = false := by rw [beq_eq_false_iff_ne]; omega
          have q6 : ((a : Int) + (i : Int) == (a : Int) + (d : Int)) = false := by rw [beq_eq_false_iff_ne]; omega
          clear hpre qc
          go_wp2_with (first | ((with_reducible refine wp_draw_all (id := 4) mixed ?_ (fun _ _ => ?_)); kernel_rfl) | ((with_reducible refine wp_draw_all (id := 7) mixed ?_ (fun _ _ => ?_)); kernel_rfl) | ((with_reducible refine wpStill_plain ?_ ?_ (fun _ _ => ?_)); rfl; rfl) | ((with_reducible refine wpStill_want ?_ ?_ (fun _ _ => ?_)); (focus (simp [Region.wanted, yielded]; done)); rfl) | ((with_reducible refine wpStill_skip ?_ ?_); (focus (simp [Region.wanted, yielded]; done)); (simp only [Act.put, List.setIfInBounds_toArray, List.set_cons_zero, List.set_cons_succ])) | (with_reducible refine wpStill_nil ?_))
          go_ret
          exact ⟨by simp [HP.out], Drew.mk _ (nd + 2)⟩
  · have hnb : preK s a ≠ preK s b := by
      intro e
      obtain ⟨d, d1, d2, _⟩ := HPS.out.1 e
      omega
    have q1 : ((ea : Int) - (a : Int) != (eb : Int) - (b : Int)) = true := by rw [bne_iff_ne]; omega
    have HN := Lib.hid hnb
    clear hnb
    go_wp2_with fail
    go_ret
    exact ⟨by simp [HN.out], Drew.refl _⟩
end Go.Proofs.Ythgbkncanoknkaa
