/-
  Induced sorting of suffixes, plain: kinds, buckets, the three passes over the order's array, and that what comes out is in order by whatever keys go with them.
-/
set_option linter.unusedVariables false
set_option linter.unusedSimpArgs false
namespace Go.Proofs.Ytdgpbgdpdmikaab

/-! Lists in the order of a dictionary -/
def lexlt : List Nat → List Nat → Bool
  | _, [] => false
  | [], _ :: _ => true
  | a :: as, b :: bs => decide (a < b) || (a == b && lexlt as bs)
theorem lexlt_cons (a b : Nat) (as bs : List Nat) : lexlt (a :: as) (b :: bs) = true ↔ a < b ∨ (a = b ∧ lexlt as bs = true) := by simp [lexlt]
theorem lexlt_nil (l : List Nat) : lexlt l [] = false := by cases l <;> rfl
theorem lexlt_irrefl : ∀ l, lexlt l l = false
  | [] => rfl
  | a :: l => by simp [lexlt, lexlt_irrefl l]
theorem lexlt_trans : ∀ a b c, lexlt a b = true → lexlt b c = true → lexlt a c = true
  | a, b, [], _, h => by rw [lexlt_nil] at h; cases h
  | a, [], c :: cs, h, _ => by rw [lexlt_nil] at h; cases h
  | [], b :: bs, c :: cs, _, _ => rfl
  | a :: as, b :: bs, c :: cs, h1, h2 => by
    rw [lexlt_cons] at h1 h2 ⊢
    rcases h1 with h1 | ⟨rfl, h1⟩ <;> rcases h2 with h2 | ⟨rfl, h2⟩
    · exact .inl (by omega)
    · exact .inl h1
    · exact .inl h2
    · exact .inr ⟨rfl, lexlt_trans _ _ _ h1 h2⟩
theorem lexlt_total : ∀ a b, lexlt a b = true ∨ a = b ∨ lexlt b a = true
  | [], [] => .inr (.inl rfl)
  | [], _ :: _ => .inl rfl
  | _ :: _, [] => .inr (.inr rfl)
  | a :: as, b :: bs => by
    rw [lexlt_cons, lexlt_cons]
    rcases Nat.lt_trichotomy a b with h | rfl | h
    · exact .inl (.inl h)
    · rcases lexlt_total as bs with h | rfl | h
      · exact .inl (.inr ⟨rfl, h⟩)
      · exact .inr (.inl rfl)
      · exact .inr (.inr (.inr ⟨rfl, h⟩))
    · exact .inr (.inr (.inl h))
theorem lexlt_asymm (a b : List Nat) (h : lexlt a b = true) : lexlt b a = false := by
  cases h2 : lexlt b a with
  | false => rfl
  | true => have := lexlt_trans _ _ _ h h2; rw [lexlt_irrefl] at this; cases this
/-- a is not behind b. -/
def lexle (a b : List Nat) : Prop := lexlt b a = false
theorem lexle_refl (a : List Nat) : lexle a a := lexlt_irrefl a
theorem lexle_nil (a : List Nat) : lexle [] a := lexlt_nil a
theorem lexle_of_lt {a b : List Nat} (h : lexlt a b = true) : lexle a b := lexlt_asymm a b h
theorem lexle_iff (a b : List Nat) : lexle a b ↔ a = b ∨ lexlt a b = true := by
  constructor
  · intro h
    rcases lexlt_total a b with h1 | h1 | h1
    · exact .inr h1
    · exact .inl h1
    · rw [show lexlt b a = false from h] at h1; cases h1
  · rintro (rfl | h)
    · exact lexle_refl _
    · exact lexle_of_lt h
theorem lexle_head {a b : Nat} (h : a < b) (as bs : List Nat) : lexle (a :: as) (b :: bs) := lexle_of_lt ((lexlt_cons _ _ _ _).2 (.inl h))
theorem lexle_cons {a : Nat} {as bs : List Nat} (h : lexle as bs) : lexle (a :: as) (a :: bs) := by
  unfold lexle at *
  cases h2 : lexlt (a :: bs) (a :: as) with
  | false => rfl
  | true =>
    rw [lexlt_cons, h] at h2
    rcases h2 with h2 | ⟨_, h2⟩
    · omega
    · cases h2

/-! Kinds and buckets -/
def ch (s : List Nat) (i : Nat) : Nat := s.getD i 0
def smF (s : List Nat) : Nat → Nat → Bool
  | 0, _ => false
  | d + 1, i => decide (ch s i < ch s (i + 1)) || (ch s i == ch s (i + 1) && smF s d (i + 1))
/-- The suffix is less than the next one. -/
def sm (s : List Nat) (i : Nat) : Bool := smF s (s.length - 1 - i) i
theorem sm_last (s : List Nat) (i : Nat) (h : s.length ≤ i + 1) : sm s i = false := by
  unfold sm
  rw [show s.length - 1 - i = 0 from by omega]
  rfl
theorem sm_step (s : List Nat) (i : Nat) (h : i + 1 < s.length) : sm s i = (decide (ch s i < ch s (i + 1)) || (ch s i == ch s (i + 1) && sm s (i + 1))) := by
  unfold sm
  rw [show s.length - 1 - i = (s.length - 1 - (i + 1)) + 1 from by omega, smF]
theorem sm_true (s : List Nat) (i : Nat) (h : sm s i = true) : i + 1 < s.length ∧ (ch s i < ch s (i + 1) ∨ ch s i = ch s (i + 1) ∧ sm s (i + 1) = true) := by
  have h1 : i + 1 < s.length := by
    rcases Nat.lt_or_ge (i + 1) s.length with h1 | h1
    · exact h1
    · rw [sm_last s i h1] at h; cases h
  refine ⟨h1, ?_⟩
  rw [sm_step s i h1] at h
  simpa using h
theorem sm_false (s : List Nat) (i : Nat) (h : sm s i = false) (h1 : i + 1 < s.length) : ch s (i + 1) < ch s i ∨ ch s (i + 1) = ch s i ∧ sm s (i + 1) = false := by
  rw [sm_step s i h1] at h
  simp at h
  rcases Nat.lt_or_ge (ch s (i + 1)) (ch s i) with h2 | h2
  · exact .inl h2
  · have : ch s (i + 1) = ch s i := by omega
    exact .inr ⟨this, h.2 this.symm⟩
/-- A mark: small, behind one that is not. -/
def lms (s : List Nat) (i : Nat) : Bool := decide (1 ≤ i) && sm s i && !sm s (i - 1)
theorem lms_sm {s : List Nat} {i : Nat} (h : lms s i = true) : sm s i = true := by simp [lms] at h; exact h.1.2
theorem lms_succ (s : List Nat) (i : Nat) : lms s (i + 1) = (sm s (i + 1) && !sm s i) := by simp [lms]
def Lpos (s : List Nat) (c : Nat) : List Nat := (List.range s.length).filter fun i => ch s i == c && !sm s i
def Spos (s : List Nat) (c : Nat) : List Nat := (List.range s.length).filter fun i => ch s i == c && sm s i
theorem mem_Lpos (s : List Nat) (c i : Nat) : i ∈ Lpos s c ↔ i < s.length ∧ ch s i = c ∧ sm s i = false := by simp [Lpos]
theorem mem_Spos (s : List Nat) (c i : Nat) : i ∈ Spos s c ↔ i < s.length ∧ ch s i = c ∧ sm s i = true := by simp [Spos]
/-- Where the bucket of a number begins, and its small ones. -/
def gB (s : List Nat) : Nat → Nat
  | 0 => 0
  | c + 1 => gB s c + (Lpos s c).length + (Spos s c).length
def lB (s : List Nat) (c : Nat) : Nat := gB s c + (Lpos s c).length
theorem gB_succ (s : List Nat) (c : Nat) : gB s (c + 1) = lB s c + (Spos s c).length := rfl
theorem gB_le_lB (s : List Nat) (c : Nat) : gB s c ≤ lB s c := by unfold lB; omega
theorem lB_le_gB (s : List Nat) (c : Nat) : lB s c ≤ gB s (c + 1) := by rw [gB_succ]; omega
theorem gB_mono (s : List Nat) {a b : Nat} (h : a ≤ b) : gB s a ≤ gB s b := by
  induction b with
  | zero => have : a = 0 := by omega
            subst this; exact Nat.le_refl _
  | succ b ih =>
    by_cases e : a = b + 1
    · subst e; exact Nat.le_refl _
    · have h1 := ih (by omega)
      have h2 := gB_le_lB s b
      have h3 := lB_le_gB s b
      omega
theorem filter_parts (l : List Nat) (p q r : Nat → Bool) (t : Nat → Bool) (h : ∀ x, (t x).toNat = (p x).toNat + (q x).toNat + (r x).toNat) : (l.filter t).length = (l.filter p).length + (l.filter q).length + (l.filter r).length := by
  induction l with
  | nil => rfl
  | cons x l ih =>
    have hx := h x
    simp only [List.filter_cons]
    revert hx
    cases t x <;> cases p x <;> cases q x <;> cases r x <;> intro hx <;> simp only [Bool.toNat_true, Bool.toNat_false, if_true, if_false, Bool.false_eq_true, List.length_cons] at hx ⊢ <;> omega
theorem gB_eq (s : List Nat) (c : Nat) : gB s c = ((List.range s.length).filter fun i => decide (ch s i < c)).length := by
  induction c with
  | zero => rw [List.filter_eq_nil_iff.2 (by intro a _; simp)]; rfl
  | succ c ih =>
    rw [gB, ih, Lpos, Spos]
    symm
    apply filter_parts
    intro x
    by_cases h1 : ch s x < c
    · have h2 : ch s x < c + 1 := by omega
      have h3 : (ch s x == c) = false := by simp; omega
      simp [h1, h2, h3]
    · by_cases h2 : ch s x = c
      · cases hs : sm s x <;> simp [h2, hs]
      · have h3 : ¬ ch s x < c + 1 := by omega
        have h4 : (ch s x == c) = false := by simpa using h2
        simp [h1, h3, h4]
theorem ch_mem (s : List Nat) (i : Nat) (h : i < s.length) : ch s i ∈ s := by
  unfold ch
  rw [List.getD_eq_getElem?_getD, List.getElem?_eq_getElem h]
  exact List.getElem_mem _
theorem gB_total (s : List Nat) (mx : Nat) (h : ∀ x ∈ s, x ≤ mx) : gB s (mx + 1) = s.length := by
  rw [gB_eq, List.filter_eq_self.2, List.length_range]
  intro i hi
  have := h _ (ch_mem s i (by simpa using hi))
  simp; omega
/-- The bucket of a place. -/
theorem bucket (s : List Nat) (i : Nat) : ∀ m, i < gB s m → ∃ c, c < m ∧ gB s c ≤ i ∧ i < gB s (c + 1)
  | 0, h => by simp [gB] at h
  | m + 1, h => by
    by_cases h1 : i < gB s m
    · obtain ⟨c, h2, h3⟩ := bucket s i m h1
      exact ⟨c, by omega, h3⟩
    · exact ⟨m, by omega, by omega, h⟩
theorem bucket_unique (s : List Nat) {i c d : Nat} (h1 : gB s c ≤ i) (h2 : i < gB s (c + 1)) (h3 : gB s d ≤ i) (h4 : i < gB s (d + 1)) : c = d := by
  rcases Nat.lt_trichotomy c d with h | h | h
  · have := gB_mono s (show c + 1 ≤ d from h); omega
  · exact h
  · have := gB_mono s (show d + 1 ≤ c from h); omega
theorem nodup_at {l : List Nat} (h : l.Nodup) {i j x : Nat} (hi : l[i]? = some x) (hj : l[j]? = some x) : i = j :=
  (List.getElem?_inj (List.getElem?_eq_some_iff.1 hi).1 h).1 (hi.trans hj.symm)
theorem full_of_len {l m : List Nat} (hl : l.Nodup) (hm : m.Nodup) (hsub : l ⊆ m) (hlen : m.length ≤ l.length) : m ⊆ l := by
  intro x hx
  refine Classical.byContradiction fun hn => ?_
  have h1 : (x :: l).Nodup := List.nodup_cons.2 ⟨hn, hl⟩
  have h2 : (x :: l) ⊆ m := by
    intro y hy
    rcases List.mem_cons.1 hy with rfl | hy
    · exact hx
    · exact hsub hy
  have := h1.length_le_of_subset h2
  simp at this
  omega
theorem Lpos_nodup (s : List Nat) (c : Nat) : (Lpos s c).Nodup := List.Pairwise.filter _ List.nodup_range
theorem Spos_nodup (s : List Nat) (c : Nat) : (Spos s c).Nodup := List.Pairwise.filter _ List.nodup_range

/-! The marks are laid -/
structure MarksOk (s M : List Nat) : Prop where
  nd : M.Nodup
  mem : ∀ m, m ∈ M ↔ m < s.length ∧ lms s m = true
def ofCh (s M : List Nat) (c : Nat) : List Nat := M.filter fun m => ch s m == c
theorem mem_ofCh (s M : List Nat) (c m : Nat) : m ∈ ofCh s M c ↔ m ∈ M ∧ ch s m = c := by simp [ofCh]
theorem MarksOk.sub {s M : List Nat} (h : MarksOk s M) (c : Nat) : ofCh s M c ⊆ Spos s c := by
  intro m hm
  rw [mem_ofCh] at hm
  have := (h.mem m).1 hm.1
  exact (mem_Spos s c m).2 ⟨this.1, hm.2, lms_sm this.2⟩
theorem MarksOk.ndCh {s M : List Nat} (h : MarksOk s M) (c : Nat) : (ofCh s M c).Nodup := List.Pairwise.filter _ h.nd
theorem ofCh_take_succ (s M : List Nat) (k m c : Nat) (h : M[k]? = some m) : ofCh s (M.take (k + 1)) c = ofCh s (M.take k) c ++ (if ch s m = c then [m] else []) := by
  unfold ofCh
  rw [List.take_add_one, h, List.filter_append]
  congr 1
  by_cases e : ch s m = c <;> simp [e]
theorem ofCh_take_le (s M : List Nat) (k c : Nat) : (ofCh s (M.take k) c).length ≤ (ofCh s M c).length := ((List.take_sublist k M).filter _).length_le
structure InvM (s : List Nat) (mx : Nat) (M : List Nat) (k : Nat) (sa at_ : List Int) : Prop where
  len : sa.length = s.length
  alen : at_.length = mx + 2
  atv : ∀ c, c ≤ mx → at_[c]? = some ((lB s c + (ofCh s (M.take k) c).length : Nat) : Int)
  ms : ∀ c, c ≤ mx → ∀ (j m : Nat), (ofCh s (M.take k) c)[j]? = some m → sa[lB s c + j]? = some (m : Int)
  fr : ∀ c, c ≤ mx → ∀ j, gB s c ≤ j → j < lB s c → sa[j]? = some (-1)
  fs : ∀ c, c ≤ mx → ∀ j, lB s c + (ofCh s (M.take k) c).length ≤ j → j < gB s (c + 1) → sa[j]? = some (-1)
  rng : ∀ v ∈ sa, v < (s.length : Int)
theorem place_set {sa : List Int} {a j : Nat} {x y : Int} (h : sa[j]? = some y) (hne : a ≠ j) : (sa.set a x)[j]? = some y := by
  rw [List.getElem?_set_ne hne]; exact h
theorem InvM.step {s : List Nat} {mx : Nat} {M : List Nat} {k : Nat} {sa at_ : List Int} (h : InvM s mx M k sa at_) (hM : MarksOk s M) (hmx : ∀ x ∈ s, x ≤ mx) {m : Nat} (hm : M[k]? = some m) :
    ∃ a : Nat, at_[ch s m]? = some (a : Int) ∧ a < s.length ∧ InvM s mx M (k + 1) (sa.set a (m : Int)) (at_.set (ch s m) ((a : Int) + 1)) := by
  have hmM := (hM.mem m).1 (List.mem_of_getElem? hm)
  have hc : ch s m ≤ mx := hmx _ (ch_mem s m hmM.1)
  have hstep := ofCh_take_succ s M k m
  have hle : (ofCh s (M.take (k + 1)) (ch s m)).length ≤ (Spos s (ch s m)).length :=
    Nat.le_trans (ofCh_take_le s M (k + 1) _) ((hM.ndCh _).length_le_of_subset (hM.sub _))
  have hlen1 : (ofCh s (M.take (k + 1)) (ch s m)).length = (ofCh s (M.take k) (ch s m)).length + 1 := by rw [hstep _ hm]; simp
  have hlt : lB s (ch s m) + (ofCh s (M.take k) (ch s m)).length < gB s (ch s m + 1) := by rw [gB_succ]; omega
  have htot := gB_total s mx hmx
  have hmono := gB_mono s (show ch s m + 1 ≤ mx + 1 by omega)
  have hgl := gB_le_lB s (ch s m)
  refine ⟨_, h.atv _ hc, by omega, ?_⟩
  have other : ∀ c j, c ≤ mx → c ≠ ch s m → gB s c ≤ j → j < gB s (c + 1) → lB s (ch s m) + (ofCh s (M.take k) (ch s m)).length ≠ j := by
    intro c j _ hne h1 h2 e
    exact hne (bucket_unique s h1 h2 (show gB s (ch s m) ≤ j by omega) (by omega))
  refine ⟨by rw [List.length_set]; exact h.len, by rw [List.length_set]; exact h.alen, ?_, ?_, ?_, ?_, ?_⟩
  · intro c hcm
    by_cases e : c = ch s m
    · subst e
      rw [List.getElem?_set_self (by rw [h.alen]; omega), hlen1]
      simp; omega
    · rw [List.getElem?_set_ne (fun e2 => e e2.symm), h.atv c hcm, hstep c hm, if_neg (fun e2 => e e2.symm)]
      simp
  · intro c hcm j x hx
    rw [hstep c hm] at hx
    by_cases e : ch s m = c
    · subst e
      rw [if_pos rfl, List.getElem?_append] at hx
      split at hx
      · rename_i hj
        exact place_set (h.ms _ hcm j x hx) (by omega)
      · rename_i hj
        have hj0 : j = (ofCh s (M.take k) (ch s m)).length := by
          rcases Nat.lt_or_ge (ofCh s (M.take k) (ch s m)).length j with h1 | h1
          · rw [List.getElem?_eq_none (by simp; omega)] at hx; cases hx
          · omega
        subst hj0
        simp at hx
        subst hx
        rw [List.getElem?_set_self (by rw [h.len]; omega)]
    · rw [if_neg e, List.append_nil] at hx
      have hj := (List.getElem?_eq_some_iff.1 hx).1
      have hle2 : (ofCh s (M.take k) c).length ≤ (Spos s c).length := Nat.le_trans (ofCh_take_le s M k c) ((hM.ndCh c).length_le_of_subset (hM.sub c))
      have h2 := gB_succ s c
      have h3 := gB_le_lB s c
      exact place_set (h.ms c hcm j x hx) (other c _ hcm (fun e2 => e e2.symm) (by omega) (by omega))
  · intro c hcm j h1 h2
    have h3 := lB_le_gB s c
    by_cases e : c = ch s m
    · subst e
      exact place_set (h.fr _ hcm j h1 h2) (by omega)
    · exact place_set (h.fr c hcm j h1 h2) (other c j hcm e h1 (by omega))
  · intro c hcm j h1 h2
    have h3 := gB_le_lB s c
    rw [hstep c hm] at h1
    by_cases e : ch s m = c
    · subst e
      rw [if_pos rfl, List.length_append] at h1
      simp at h1
      exact place_set (h.fs _ hcm j (by omega) h2) (by omega)
    · rw [if_neg e, List.append_nil] at h1
      exact place_set (h.fs c hcm j h1 h2) (other c j hcm (fun e2 => e e2.symm) (by omega) h2)
  · intro v hv
    rcases List.mem_or_eq_of_mem_set hv with hv | rfl
    · exact h.rng v hv
    · exact Int.ofNat_lt.2 hmM.1
theorem InvM.init (s : List Nat) (mx : Nat) (M : List Nat) (at_ : List Int) (hmx : ∀ x ∈ s, x ≤ mx) (halen : at_.length = mx + 2) (hat : ∀ c, c ≤ mx → at_[c]? = some (lB s c : Int)) : InvM s mx M 0 (List.replicate s.length (-1)) at_ := by
  have htot := gB_total s mx hmx
  refine ⟨by simp, halen, ?_, ?_, ?_, ?_, ?_⟩
  · intro c hc; rw [hat c hc]; simp [ofCh]
  · intro c hc j m hm; simp [ofCh] at hm
  · intro c hc j h1 h2
    have h3 := lB_le_gB s c
    have h4 := gB_mono s (show c + 1 ≤ mx + 1 by omega)
    rw [List.getElem?_replicate, if_pos (by omega)]
  · intro c hc j h1 h2
    have h4 := gB_mono s (show c + 1 ≤ mx + 1 by omega)
    rw [List.getElem?_replicate, if_pos (by omega)]
  · intro v hv
    rw [List.mem_replicate] at hv
    omega

/-! The great ones follow -/
def predL (s : List Nat) (c : Nat) (v : Int) : Option Nat := if 1 ≤ v ∧ sm s (v.toNat - 1) = false ∧ ch s (v.toNat - 1) = c then some (v.toNat - 1) else none
def PL (s : List Nat) (c : Nat) (Q : List Int) : List Nat := Q.filterMap (predL s c)
theorem mem_PL (s : List Nat) (c : Nat) (Q : List Int) (p : Nat) : p ∈ PL s c Q ↔ ((p : Int) + 1) ∈ Q ∧ sm s p = false ∧ ch s p = c := by
  unfold PL
  rw [List.mem_filterMap]
  constructor
  · rintro ⟨v, hv, h⟩
    unfold predL at h
    split at h
    · rename_i h1
      simp at h
      obtain ⟨h1, h2, h3⟩ := h1
      have : v = (p : Int) + 1 := by omega
      subst this
      rw [show ((p : Int) + 1).toNat - 1 = p from by omega] at h2 h3
      exact ⟨hv, h2, h3⟩
    · cases h
  · rintro ⟨h1, h2, h3⟩
    refine ⟨_, h1, ?_⟩
    unfold predL
    rw [show ((p : Int) + 1).toNat - 1 = p from by omega, if_pos ⟨by omega, h2, h3⟩]
theorem PL_snoc (s : List Nat) (c : Nat) (Q : List Int) (v : Int) : PL s c (Q ++ [v]) = PL s c Q ++ (predL s c v).toList := by
  unfold PL
  rw [List.filterMap_append]
  congr 1
/-- What has been looked at, behind the end. -/
def seenL (s : List Nat) (i : Nat) (sa : List Int) : List Int := (s.length : Int) :: sa.take i
structure InvL (s : List Nat) (mx : Nat) (M : List Nat) (i : Nat) (sa at_ : List Int) : Prop where
  len : sa.length = s.length
  alen : at_.length = mx + 2
  atv : ∀ c, c ≤ mx → at_[c]? = some ((gB s c + (PL s c (seenL s i sa)).length : Nat) : Int)
  pl : ∀ c, c ≤ mx → ∀ (j p : Nat), (PL s c (seenL s i sa))[j]? = some p → sa[gB s c + j]? = some (p : Int)
  fr : ∀ c, c ≤ mx → ∀ j, gB s c + (PL s c (seenL s i sa)).length ≤ j → j < lB s c → sa[j]? = some (-1)
  ms : ∀ c, c ≤ mx → ∀ (j m : Nat), (ofCh s M c)[j]? = some m → sa[lB s c + j]? = some (m : Int)
  fs : ∀ c, c ≤ mx → ∀ j, lB s c + (ofCh s M c).length ≤ j → j < gB s (c + 1) → sa[j]? = some (-1)
  rng : ∀ v ∈ sa, v < (s.length : Int)
  nd : ∀ c, (PL s c (seenL s i sa)).Nodup
section
variable {s : List Nat} {mx : Nat} {M : List Nat} {i : Nat} {sa at_ : List Int}
theorem InvL.sub (h : InvL s mx M i sa at_) (c : Nat) : PL s c (seenL s i sa) ⊆ Lpos s c := by
  intro p hp
  rw [mem_PL] at hp
  refine (mem_Lpos s c p).2 ⟨?_, hp.2.2, hp.2.1⟩
  rcases List.mem_cons.1 hp.1 with h1 | h1
  · omega
  · have := h.rng _ (List.mem_of_mem_take h1); omega
theorem InvL.le (h : InvL s mx M i sa at_) (c : Nat) : (PL s c (seenL s i sa)).length ≤ (Lpos s c).length := (h.nd c).length_le_of_subset (h.sub c)
/-- What stands at a place. -/
theorem InvL.val (h : InvL s mx M i sa at_) (hM : MarksOk s M) (hmx : ∀ x ∈ s, x ≤ mx) {k : Nat} (hk : k < s.length) : ∃ c, c ≤ mx ∧ gB s c ≤ k ∧ k < gB s (c + 1) ∧
    ((∃ j p : Nat, k = gB s c + j ∧ (PL s c (seenL s i sa))[j]? = some p ∧ sa[k]? = some (p : Int)) ∨ sa[k]? = some (-1) ∨ (∃ j m : Nat, k = lB s c + j ∧ (ofCh s M c)[j]? = some m ∧ sa[k]? = some (m : Int))) := by
  obtain ⟨c, hc, h1, h2⟩ := bucket s k (mx + 1) (by rw [gB_total s mx hmx]; exact hk)
  refine ⟨c, by omega, h1, h2, ?_⟩
  by_cases g1 : k < gB s c + (PL s c (seenL s i sa)).length
  · left
    obtain ⟨p, hp⟩ : ∃ p, (PL s c (seenL s i sa))[k - gB s c]? = some p := ⟨_, List.getElem?_eq_getElem (by omega)⟩
    have := h.pl c (by omega) _ p hp
    rw [show gB s c + (k - gB s c) = k from by omega] at this
    exact ⟨k - gB s c, p, by omega, hp, this⟩
  · by_cases g2 : k < lB s c
    · exact .inr (.inl (h.fr c (by omega) k (by omega) g2))
    · by_cases g3 : k < lB s c + (ofCh s M c).length
      · right; right
        obtain ⟨p, hp⟩ : ∃ p, (ofCh s M c)[k - lB s c]? = some p := ⟨_, List.getElem?_eq_getElem (by omega)⟩
        have := h.ms c (by omega) _ p hp
        rw [show lB s c + (k - lB s c) = k from by omega] at this
        exact ⟨k - lB s c, p, by omega, hp, this⟩
      · exact .inr (.inl (h.fs c (by omega) k (by omega) h2))
/-- A place that holds a suffix: its bucket, and its kind. -/
theorem InvL.kind (h : InvL s mx M i sa at_) (hM : MarksOk s M) (hmx : ∀ x ∈ s, x ≤ mx) {k v : Nat} (hv : sa[k]? = some (v : Int)) : v < s.length ∧ ch s v ≤ mx ∧ gB s (ch s v) ≤ k ∧ k < gB s (ch s v + 1) ∧
    ((sm s v = false ∧ k < gB s (ch s v) + (PL s (ch s v) (seenL s i sa)).length ∧ (PL s (ch s v) (seenL s i sa))[k - gB s (ch s v)]? = some v) ∨ (sm s v = true ∧ lms s v = true ∧ lB s (ch s v) ≤ k ∧ (ofCh s M (ch s v))[k - lB s (ch s v)]? = some v)) := by
  have hk : k < s.length := by rw [← h.len]; exact (List.getElem?_eq_some_iff.1 hv).1
  obtain ⟨c, hc, h1, h2, h3⟩ := h.val hM hmx hk
  rcases h3 with ⟨j, p, e, hp, hx⟩ | hx | ⟨j, m, e, hm, hx⟩
  · rw [hv] at hx
    simp at hx
    obtain rfl : v = p := by omega
    have hm := (mem_Lpos s c v).1 (h.sub c (List.mem_of_getElem? hp))
    have hj := (List.getElem?_eq_some_iff.1 hp).1
    obtain ⟨h4, rfl, h6⟩ := hm
    refine ⟨h4, hc, h1, h2, .inl ⟨h6, by omega, ?_⟩⟩
    rw [show k - gB s (ch s v) = j from by omega]
    exact hp
  · rw [hv] at hx
    simp at hx
  · rw [hv] at hx
    simp at hx
    obtain rfl : v = m := by omega
    have hmm := (mem_ofCh s M c v).1 (List.mem_of_getElem? hm)
    have h4 := (hM.mem v).1 hmm.1
    obtain ⟨h5, rfl⟩ := hmm
    refine ⟨h4.1, hc, h1, h2, .inr ⟨lms_sm h4.2, h4.2, by omega, ?_⟩⟩
    rw [show k - lB s (ch s v) = j from by omega]
    exact hm
theorem InvL.inj (h : InvL s mx M i sa at_) (hM : MarksOk s M) (hmx : ∀ x ∈ s, x ≤ mx) {k l v : Nat} (hk : sa[k]? = some (v : Int)) (hl : sa[l]? = some (v : Int)) : k = l := by
  obtain ⟨_, _, a1, _, a2⟩ := h.kind hM hmx hk
  obtain ⟨_, _, b1, _, b2⟩ := h.kind hM hmx hl
  rcases a2 with ⟨a3, _, a4⟩ | ⟨a3, _, a5, a4⟩ <;> rcases b2 with ⟨b3, _, b4⟩ | ⟨b3, _, b5, b4⟩
  · have := nodup_at (h.nd _) a4 b4; omega
  · rw [a3] at b3; cases b3
  · rw [a3] at b3; cases b3
  · have := nodup_at (hM.ndCh _) a4 b4; omega
theorem seenL_succ (s : List Nat) (i : Nat) (sa : List Int) (v : Int) (hv : sa[i]? = some v) : seenL s (i + 1) sa = seenL s i sa ++ [v] := by
  unfold seenL
  rw [List.take_add_one, hv]
  rfl
theorem predL_none (s : List Nat) (c : Nat) (v : Int) (h : ¬ (1 ≤ v ∧ sm s (v.toNat - 1) = false)) : predL s c v = none := by
  unfold predL
  rw [if_neg fun e => h ⟨e.1, e.2.1⟩]
theorem predL_at (s : List Nat) (c p : Nat) (h : sm s p = false) : predL s c ((p : Int) + 1) = if ch s p = c then some p else none := by
  unfold predL
  rw [show ((p : Int) + 1).toNat - 1 = p from by omega]
  by_cases e : ch s p = c
  · rw [if_pos ⟨by omega, h, e⟩, if_pos e]
  · rw [if_neg (fun x => e x.2.2), if_neg e]
theorem InvL.skip (h : InvL s mx M i sa at_) (v : Int) (hv : sa[i]? = some v) (hn : ¬ (1 ≤ v ∧ sm s (v.toNat - 1) = false)) : InvL s mx M (i + 1) sa at_ := by
  have e : ∀ c, PL s c (seenL s (i + 1) sa) = PL s c (seenL s i sa) := by
    intro c
    rw [seenL_succ s i sa v hv, PL_snoc, predL_none s c v hn]
    simp
  exact ⟨h.len, h.alen, fun c hc => by rw [e]; exact h.atv c hc, fun c hc => by rw [e]; exact h.pl c hc, fun c hc => by rw [e]; exact h.fr c hc, h.ms, h.fs, h.rng, fun c => by rw [e]; exact h.nd c⟩
theorem InvL.step (h : InvL s mx M i sa at_) (hM : MarksOk s M) (hmx : ∀ x ∈ s, x ≤ mx) {p : Nat} (hv : sa[i]? = some ((p : Int) + 1)) (hp : sm s p = false) :
    p + 1 < s.length ∧ ∃ a : Nat, at_[ch s p]? = some (a : Int) ∧ a < s.length ∧ InvL s mx M (i + 1) (sa.set a (p : Int)) (at_.set (ch s p) ((a : Int) + 1)) := by
  have hv' : sa[i]? = some ((p + 1 : Nat) : Int) := by rw [hv]; simp
  obtain ⟨k1, k2, k3, k4, k5⟩ := h.kind hM hmx hv'
  refine ⟨k1, ?_⟩
  have hpn : p < s.length := by omega
  have hc : ch s p ≤ mx := hmx _ (ch_mem s p hpn)
  have hsf := sm_false s p hp k1
  have hnot : p ∉ PL s (ch s p) (seenL s i sa) := by
    intro hm
    rw [mem_PL] at hm
    rcases List.mem_cons.1 hm.1 with h1 | h1
    · omega
    · obtain ⟨j, hj⟩ := List.mem_iff_getElem?.1 h1
      rw [List.getElem?_take] at hj
      split at hj
      · rename_i hji
        rw [show ((p : Int) + 1) = ((p + 1 : Nat) : Int) from by simp] at hj
        have := h.inj hM hmx hj hv'
        omega
      · cases hj
  have hnd : (PL s (ch s p) (seenL s i sa) ++ [p]).Nodup := by
    rw [List.nodup_append]
    refine ⟨h.nd _, by simp, ?_⟩
    intro x hx y hy e
    simp at hy
    subst hy; subst e
    exact hnot hx
  have hle : (PL s (ch s p) (seenL s i sa)).length + 1 ≤ (Lpos s (ch s p)).length := by
    have := hnd.length_le_of_subset (l₂ := Lpos s (ch s p)) (by
      intro x hx
      rcases List.mem_append.1 hx with hx | hx
      · exact h.sub _ hx
      · simp at hx; subst hx; exact (mem_Lpos _ _ _).2 ⟨hpn, rfl, hp⟩)
    simpa using this
  have hgl : gB s (ch s p) + (PL s (ch s p) (seenL s i sa)).length < lB s (ch s p) := by unfold lB; omega
  have hlg := lB_le_gB s (ch s p)
  have htot := gB_total s mx hmx
  have hmono := gB_mono s (show ch s p + 1 ≤ mx + 1 by omega)
  have hai : i < gB s (ch s p) + (PL s (ch s p) (seenL s i sa)).length := by
    rcases hsf with h1 | ⟨h1, h2⟩
    · have := gB_mono s (show ch s (p + 1) + 1 ≤ ch s p by omega)
      omega
    · rw [h1] at k5
      rcases k5 with ⟨_, h3, _⟩ | ⟨h3, _⟩
      · exact h3
      · rw [h2] at h3; cases h3
  refine ⟨_, h.atv _ hc, by omega, ?_⟩
  have other : ∀ c j, c ≤ mx → c ≠ ch s p → gB s c ≤ j → j < gB s (c + 1) → gB s (ch s p) + (PL s (ch s p) (seenL s i sa)).length ≠ j := by
    intro c j _ hne h1 h2 e
    exact hne (bucket_unique s h1 h2 (show gB s (ch s p) ≤ j by omega) (by omega))
  have hQ : seenL s (i + 1) (sa.set (gB s (ch s p) + (PL s (ch s p) (seenL s i sa)).length) (p : Int)) = seenL s i sa ++ [(p : Int) + 1] := by
    have h1 : (sa.set (gB s (ch s p) + (PL s (ch s p) (seenL s i sa)).length) (p : Int)).take (i + 1) = sa.take (i + 1) := List.take_set_of_le (by omega)
    show (s.length : Int) :: (sa.set _ _).take (i + 1) = _
    rw [h1, List.take_add_one, hv]
    rfl
  have hPL : ∀ c, PL s c (seenL s (i + 1) (sa.set (gB s (ch s p) + (PL s (ch s p) (seenL s i sa)).length) (p : Int))) = PL s c (seenL s i sa) ++ (if ch s p = c then [p] else []) := by
    intro c
    rw [hQ, PL_snoc, predL_at s c p hp]
    by_cases e : ch s p = c <;> simp [e]
  generalize ha : gB s (ch s p) + (PL s (ch s p) (seenL s i sa)).length = a at *
  refine ⟨by rw [List.length_set]; exact h.len, by rw [List.length_set]; exact h.alen, ?_, ?_, ?_, ?_, ?_, ?_, ?_⟩
  · intro c hcm
    rw [hPL]
    by_cases e : ch s p = c
    · subst e
      rw [List.getElem?_set_self (by rw [h.alen]; omega), if_pos rfl, List.length_append]
      simp; omega
    · rw [List.getElem?_set_ne e, h.atv c hcm, if_neg e]
      simp
  · intro c hcm j x hx
    rw [hPL] at hx
    by_cases e : ch s p = c
    · subst e
      rw [if_pos rfl, List.getElem?_append] at hx
      split at hx
      · exact place_set (h.pl _ hcm j x hx) (by omega)
      · have hj0 : j = (PL s (ch s p) (seenL s i sa)).length := by
          rcases Nat.lt_or_ge (PL s (ch s p) (seenL s i sa)).length j with h1 | h1
          · rw [List.getElem?_eq_none (by simp; omega)] at hx; cases hx
          · omega
        subst hj0
        simp at hx
        subst hx
        rw [ha, List.getElem?_set_self (by rw [h.len]; omega)]
    · rw [if_neg e, List.append_nil] at hx
      have hj := (List.getElem?_eq_some_iff.1 hx).1
      have h2 := h.le c
      have h3 := lB_le_gB s c
      have h4 : lB s c = gB s c + (Lpos s c).length := rfl
      exact place_set (h.pl c hcm j x hx) (other c _ hcm (fun e2 => e e2.symm) (by omega) (by omega))
  · intro c hcm j h1 h2
    have h3 := lB_le_gB s c
    rw [hPL] at h1
    by_cases e : ch s p = c
    · subst e
      rw [if_pos rfl, List.length_append] at h1
      simp at h1
      exact place_set (h.fr _ hcm j (by omega) h2) (by omega)
    · rw [if_neg e, List.append_nil] at h1
      exact place_set (h.fr c hcm j h1 h2) (other c j hcm (fun e2 => e e2.symm) (by omega) (by omega))
  · intro c hcm j m hm
    have hj := (List.getElem?_eq_some_iff.1 hm).1
    have h2 := (hM.ndCh c).length_le_of_subset (hM.sub c)
    have h3 := gB_succ s c
    have h4 := gB_le_lB s c
    by_cases e : c = ch s p
    · subst e
      exact place_set (h.ms _ hcm j m hm) (by omega)
    · exact place_set (h.ms c hcm j m hm) (other c _ hcm e (by omega) (by omega))
  · intro c hcm j h1 h2
    have h4 := gB_le_lB s c
    by_cases e : c = ch s p
    · subst e
      exact place_set (h.fs _ hcm j h1 h2) (by omega)
    · exact place_set (h.fs c hcm j h1 h2) (other c _ hcm e (by omega) (by omega))
  · intro v hv
    rcases List.mem_or_eq_of_mem_set hv with hv | rfl
    · exact h.rng v hv
    · omega
  · intro c
    rw [hPL]
    by_cases e : ch s p = c
    · subst e; rw [if_pos rfl]; exact hnd
    · rw [if_neg e, List.append_nil]; exact h.nd c
end
/-- The last suffix is laid. -/
theorem InvL.init {s : List Nat} {mx : Nat} {M : List Nat} {sa at0 at_ : List Int} (h : InvM s mx M M.length sa at0) (hM : MarksOk s M) (hmx : ∀ x ∈ s, x ≤ mx) (hn : 1 ≤ s.length) (halen : at_.length = mx + 2) (hat : ∀ c, c ≤ mx → at_[c]? = some (gB s c : Int)) :
    gB s (ch s (s.length - 1)) < s.length ∧ InvL s mx M 0 (sa.set (gB s (ch s (s.length - 1))) ((s.length : Int) - 1)) (at_.set (ch s (s.length - 1)) ((gB s (ch s (s.length - 1)) : Int) + 1)) := by
  obtain ⟨p, hp⟩ : ∃ p, p = s.length - 1 := ⟨_, rfl⟩
  have hs : s.length = p + 1 := by omega
  rw [← hp]
  have hsp := sm_last s p (by omega)
  have hc : ch s p ≤ mx := hmx _ (ch_mem s p (by omega))
  have hmem : p ∈ Lpos s (ch s p) := (mem_Lpos _ _ _).2 ⟨by omega, rfl, hsp⟩
  have hpos : 1 ≤ (Lpos s (ch s p)).length := List.length_pos_of_mem hmem
  have hgl : gB s (ch s p) < lB s (ch s p) := by unfold lB; omega
  have hlg := lB_le_gB s (ch s p)
  have htot := gB_total s mx hmx
  have hmono := gB_mono s (show ch s p + 1 ≤ mx + 1 by omega)
  have hM' := h.ms
  rw [List.take_length] at hM'
  have hfs := h.fs
  rw [List.take_length] at hfs
  have hPL : ∀ c (X : List Int), PL s c (seenL s 0 X) = if ch s p = c then [p] else [] := by
    intro c X
    have : seenL s 0 X = [] ++ [(p : Int) + 1] := by simp [seenL, hs]
    rw [this, PL_snoc, predL_at s c p hsp]
    by_cases e : ch s p = c <;> simp [e, PL]
  have other : ∀ c j, c ≤ mx → c ≠ ch s p → gB s c ≤ j → j < gB s (c + 1) → gB s (ch s p) ≠ j := by
    intro c j _ hne h1 h2 e
    exact hne (bucket_unique s h1 h2 (show gB s (ch s p) ≤ j by omega) (by omega))
  have hv : ((s.length : Int) - 1) = (p : Int) := by omega
  rw [hv]
  refine ⟨by omega, by rw [List.length_set]; exact h.len, by rw [List.length_set]; exact halen, ?_, ?_, ?_, ?_, ?_, ?_, ?_⟩
  · intro c hcm
    rw [hPL]
    by_cases e : ch s p = c
    · subst e
      rw [List.getElem?_set_self (by rw [halen]; omega), if_pos rfl]
      simp
    · rw [List.getElem?_set_ne e, hat c hcm, if_neg e]
      simp
  · intro c hcm j x hx
    rw [hPL] at hx
    by_cases e : ch s p = c
    · subst e
      rw [if_pos rfl] at hx
      cases j with
      | zero => simp at hx; subst hx; rw [Nat.add_zero, List.getElem?_set_self (by rw [h.len]; omega)]
      | succ j => simp at hx
    · rw [if_neg e] at hx; simp at hx
  · intro c hcm j h1 h2
    have h3 := lB_le_gB s c
    rw [hPL] at h1
    by_cases e : ch s p = c
    · subst e
      rw [if_pos rfl] at h1
      simp at h1
      exact place_set (h.fr _ hcm j (by omega) h2) (by omega)
    · rw [if_neg e] at h1
      simp at h1
      exact place_set (h.fr c hcm j h1 h2) (other c j hcm (fun e2 => e e2.symm) (by omega) (by omega))
  · intro c hcm j m hm
    have hj := (List.getElem?_eq_some_iff.1 hm).1
    have h2 := (hM.ndCh c).length_le_of_subset (hM.sub c)
    have h3 := gB_succ s c
    have h4 := gB_le_lB s c
    by_cases e : c = ch s p
    · subst e
      exact place_set (hM' _ hcm j m hm) (by omega)
    · exact place_set (hM' c hcm j m hm) (other c _ hcm e (by omega) (by omega))
  · intro c hcm j h1 h2
    have h4 := gB_le_lB s c
    by_cases e : c = ch s p
    · subst e
      exact place_set (hfs _ hcm j h1 h2) (by omega)
    · exact place_set (hfs c hcm j h1 h2) (other c _ hcm e (by omega) (by omega))
  · intro v hv
    rcases List.mem_or_eq_of_mem_set hv with hv | rfl
    · exact h.rng v hv
    · omega
  · intro c
    rw [hPL]
    by_cases e : ch s p = c
    · rw [if_pos e]; simp
    · rw [if_neg e]; simp
end Go.Proofs.Ytdgpbgdpdmikaab
