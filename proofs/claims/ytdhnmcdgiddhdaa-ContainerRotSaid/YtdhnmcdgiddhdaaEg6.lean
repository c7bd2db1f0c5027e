/-
  Texts joined: PureSais, PureSaisB.
-/
import Derived.Test.YtdhnmcdgiddhdaaEg5
/-
  Induced sorting of suffixes, plain: kinds, buckets, the three passes over the order's array, and that what comes out is in order by whatever keys go with them.
-/
set_option linter.unusedVariables false
set_option linter.unusedSimpArgs false
namespace Go.Proofs.Ytdhnmcdgiddhdaa

/-! Lists in the order of a dictionary -/
def lexlt : List Nat → List Nat → Bool
  | _, [] => false
  | [], _ :: _ => true
  | a :: as_, b :: bs => decide (a < b) || (a == b && lexlt as_ bs)
theorem lexlt_cons (a b : Nat) (as_ bs : List Nat) : lexlt (a :: as_) (b :: bs) = true ↔ a < b ∨ (a = b ∧ lexlt as_ bs = true) := by simp [lexlt]
theorem lexlt_nil (l : List Nat) : lexlt l [] = false := by cases l <;> rfl
theorem lexlt_irrefl : ∀ l, lexlt l l = false
  | [] => rfl
  | a :: l => by simp [lexlt, lexlt_irrefl l]
theorem lexlt_trans : ∀ a b c, lexlt a b = true → lexlt b c = true → lexlt a c = true
  | a, b, [], _, h => by rw [lexlt_nil] at h; cases h
  | a, [], c :: cs, h, _ => by rw [lexlt_nil] at h; cases h
  | [], b :: bs, c :: cs, _, _ => rfl
  | a :: as_, b :: bs, c :: cs, h1, h2 => by
    rw [lexlt_cons] at h1 h2 ⊢
    rcases h1 with h1 | ⟨rfl, h1⟩ <;> rcases h2 with h2 | ⟨rfl, h2⟩
    · exact .inl (by omega)
    · exact .inl h1
    · exact .inl h2
    · exact .inr ⟨rfl, lexlt_trans _ _ _ h1 h2⟩
theorem lexlt_total : ∀ a b, lexlt a b = true ∨ a = b ∨ lexlt b a = true
  | [], [] => .inr (.inl rfl)
  | [], _ :: _ => .inl rfl
  | _ :: _, [] => .inr (.inr rfl)
  | a :: as_, b :: bs => by
    rw [lexlt_cons, lexlt_cons]
    rcases Nat.lt_trichotomy a b with h | rfl | h
    · exact .inl (.inl h)
    · rcases lexlt_total as_ bs with h | rfl | h
      · exact .inl (.inr ⟨rfl, h⟩)
      · exact .inr (.inl rfl)
      · exact .inr (.inr (.inr ⟨rfl, h⟩))
    · exact .inr (.inr (.inl h))
theorem lexlt_asymm (a b : List Nat) (h : lexlt a b = true) : lexlt b a = false := by
  cases h2 : lexlt b a with
  | false => rfl
  | true => have := lexlt_trans _ _ _ h h2; rw [lexlt_irrefl] at this; cases this
/-- a is not behind b. -/
def lexle (a b : List Nat) : Prop := lexlt b a = false
theorem lexle_refl (a : List Nat) : lexle a a := lexlt_irrefl a
theorem lexle_nil (a : List Nat) : lexle [] a := lexlt_nil a
theorem lexle_of_lt {a b : List Nat} (h : lexlt a b = true) : lexle a b := lexlt_asymm a b h
theorem lexle_iff (a b : List Nat) : lexle a b ↔ a = b ∨ lexlt a b = true := by
  constructor
  · intro h
    rcases lexlt_total a b with h1 | h1 | h1
    · exact .inr h1
    · exact .inl h1
    · rw [show lexlt b a = false from h] at h1; cases h1
  · rintro (rfl | h)
    · exact lexle_refl _
    · exact lexle_of_lt h
theorem lexle_head {a b : Nat} (h : a < b) (as_ bs : List Nat) : lexle (a :: as_) (b :: bs) := lexle_of_lt ((lexlt_cons _ _ _ _).2 (.inl h))
theorem lexle_cons {a : Nat} {as_ bs : List Nat} (h : lexle as_ bs) : lexle (a :: as_) (a :: bs) := by
  unfold lexle at *
  cases h2 : lexlt (a :: bs) (a :: as_) with
  | false => rfl
  | true =>
    rw [lexlt_cons, h] at h2
    rcases h2 with h2 | ⟨_, h2⟩
    · omega
    · cases h2

/-! Kinds and buckets -/
def ch (s : List Nat) (i : Nat) : Nat := s.getD i 0
def smF (s : List Nat) : Nat → Nat → Bool
  | 0, _ => false
  | d + 1, i => decide (ch s i < ch s (i + 1)) || (ch s i == ch s (i + 1) && smF s d (i + 1))
/-- The suffix is less than the next one. -/
def sm (s : List Nat) (i : Nat) : Bool := smF s (s.length - 1 - i) i
theorem sm_last (s : List Nat) (i : Nat) (h : s.length ≤ i + 1) : sm s i = false := by
  unfold sm
  rw [show s.length - 1 - i = 0 from by omega]
  rfl
theorem sm_step (s : List Nat) (i : Nat) (h : i + 1 < s.length) : sm s i = (decide (ch s i < ch s (i + 1)) || (ch s i == ch s (i + 1) && sm s (i + 1))) := by
  unfold sm
  rw [show s.length - 1 - i = (s.length - 1 - (i + 1)) + 1 from by omega, smF]
theorem sm_true (s : List Nat) (i : Nat) (h : sm s i = true) : i + 1 < s.length ∧ (ch s i < ch s (i + 1) ∨ ch s i = ch s (i + 1) ∧ sm s (i + 1) = true) := by
  have h1 : i + 1 < s.length := by
    rcases Nat.lt_or_ge (i + 1) s.length with h1 | h1
    · exact h1
    · rw [sm_last s i h1] at h; cases h
  refine ⟨h1, ?_⟩
  rw [sm_step s i h1] at h
  simpa using h
theorem sm_false (s : List Nat) (i : Nat) (h : sm s i = false) (h1 : i + 1 < s.length) : ch s (i + 1) < ch s i ∨ ch s (i + 1) = ch s i ∧ sm s (i + 1) = false := by
  rw [sm_step s i h1] at h
  simp at h
  rcases Nat.lt_or_ge (ch s (i + 1)) (ch s i) with h2 | h2
  · exact .inl h2
  · have : ch s (i + 1) = ch s i := by omega
    exact .inr ⟨this, h.2 this.symm⟩
/-- A mark: small, behind one that is not. -/
def lms (s : List Nat) (i : Nat) : Bool := decide (1 ≤ i) && sm s i && !sm s (i - 1)
theorem lms_sm {s : List Nat} {i : Nat} (h : lms s i = true) : sm s i = true := by simp [lms] at h; exact h.1.2
theorem lms_succ (s : List Nat) (i : Nat) : lms s (i + 1) = (sm s (i + 1) && !sm s i) := by simp [lms]
def Lpos (s : List Nat) (c : Nat) : List Nat := (List.range s.length).filter fun i => ch s i == c && !sm s i
def Spos (s : List Nat) (c : Nat) : List Nat := (List.range s.length).filter fun i => ch s i == c && sm s i
theorem mem_Lpos (s : List Nat) (c i : Nat) : i ∈ Lpos s c ↔ i < s.length ∧ ch s i = c ∧ sm s i = false := by simp [Lpos]
theorem mem_Spos (s : List Nat) (c i : Nat) : i ∈ Spos s c ↔ i < s.length ∧ ch s i = c ∧ sm s i = true := by simp [Spos]
/-- Where the bucket of a number begins, and its small ones. -/
def gB (s : List Nat) : Nat → Nat
  | 0 => 0
  | c + 1 => gB s c + (Lpos s c).length + (Spos s c).length
def lB (s : List Nat) (c : Nat) : Nat := gB s c + (Lpos s c).length
theorem gB_succ (s : List Nat) (c : Nat) : gB s (c + 1) = lB s c + (Spos s c).length := rfl
theorem gB_le_lB (s : List Nat) (c : Nat) : gB s c ≤ lB s c := by unfold lB; omega
theorem lB_le_gB (s : List Nat) (c : Nat) : lB s c ≤ gB s (c + 1) := by rw [gB_succ]; omega
theorem gB_mono (s : List Nat) {a b : Nat} (h : a ≤ b) : gB s a ≤ gB s b := by
  induction b with
  | zero => have : a = 0 := by omega
            subst this; exact Nat.le_refl _
  | succ b ih =>
    by_cases e : a = b + 1
    · subst e; exact Nat.le_refl _
    · have h1 := ih (by omega)
      have h2 := gB_le_lB s b
      have h3 := lB_le_gB s b
      omega
theorem filter_parts (l : List Nat) (p q r : Nat → Bool) (t : Nat → Bool) (h : ∀ x, (t x).toNat = (p x).toNat + (q x).toNat + (r x).toNat) : (l.filter t).length = (l.filter p).length + (l.filter q).length + (l.filter r).length := by
  induction l with
  | nil => rfl
  | cons x l ih =>
    have hx := h x
    simp only [List.filter_cons]
    revert hx
    cases t x <;> cases p x <;> cases q x <;> cases r x <;> intro hx <;> simp only [Bool.toNat_true, Bool.toNat_false, if_true, if_false, Bool.false_eq_true, List.length_cons] at hx ⊢ <;> omega
theorem gB_eq (s : List Nat) (c : Nat) : gB s c = ((List.range s.length).filter fun i => decide (ch s i < c)).length := by
  induction c with
  | zero => rw [List.filter_eq_nil_iff.2 (by intro a _; simp)]; rfl
  | succ c ih =>
    rw [gB, ih, Lpos, Spos]
    symm
    apply filter_parts
    intro x
    by_cases h1 : ch s x < c
    · have h2 : ch s x < c + 1 := by omega
      have h3 : (ch s x == c) = false := by simp; omega
      simp [h1, h2, h3]
    · by_cases h2 : ch s x = c
      · cases hs : sm s x <;> simp [h2, hs]
      · have h3 : ¬ ch s x < c + 1 := by omega
        have h4 : (ch s x == c) = false := by simpa using h2
        simp [h1, h3, h4]
theorem ch_mem (s : List Nat) (i : Nat) (h : i < s.length) : ch s i ∈ s := by
  unfold ch
  rw [List.getD_eq_getElem?_getD, List.getElem?_eq_getElem h]
  exact List.getElem_mem _
theorem gB_total (s : List Nat) (mx : Nat) (h : ∀ x ∈ s, x ≤ mx) : gB s (mx + 1) = s.length := by
  rw [gB_eq, List.filter_eq_self.2, List.length_range]
  intro i hi
  have := h _ (ch_mem s i (by simpa using hi))
  simp; omega
/-- The bucket of a place. -/
theorem bucket (s : List Nat) (i : Nat) : ∀ m, i < gB s m → ∃ c, c < m ∧ gB s c ≤ i ∧ i < gB s (c + 1)
  | 0, h => by simp [gB] at h
  | m + 1, h => by
    by_cases h1 : i < gB s m
    · obtain ⟨c, h2, h3⟩ := bucket s i m h1
      exact ⟨c, by omega, h3⟩
    · exact ⟨m, by omega, by omega, h⟩
theorem bucket_unique (s : List Nat) {i c d : Nat} (h1 : gB s c ≤ i) (h2 : i < gB s (c + 1)) (h3 : gB s d ≤ i) (h4 : i < gB s (d + 1)) : c = d := by
  rcases Nat.lt_trichotomy c d with h | h | h
  · have := gB_mono s (show c + 1 ≤ d from h); omega
  · exact h
  · have := gB_mono s (show d + 1 ≤ c from h); omega
theorem nodup_at {l : List Nat} (h : l.Nodup) {i j x : Nat} (hi : l[i]? = some x) (hj : l[j]? = some x) : i = j :=
  (List.getElem?_inj (List.getElem?_eq_some_iff.1 hi).1 h).1 (hi.trans hj.symm)
theorem full_of_len {l m : List Nat} (hl : l.Nodup) (hm : m.Nodup) (hsub : l ⊆ m) (hlen : m.length ≤ l.length) : m ⊆ l := by
  intro x hx
  refine Classical.byContradiction fun hn => ?_
  have h1 : (x :: l).Nodup := List.nodup_cons.2 ⟨hn, hl⟩
  have h2 : (x :: l) ⊆ m := by
    intro y hy
    rcases List.mem_cons.1 hy with rfl | hy
    · exact hx
    · exact hsub hy
  have := h1.length_le_of_subset h2
  simp at this
  omega
theorem Lpos_nodup (s : List Nat) (c : Nat) : (Lpos s c).Nodup := List.Pairwise.filter _ List.nodup_range
theorem Spos_nodup (s : List Nat) (c : Nat) : (Spos s c).Nodup := List.Pairwise.filter _ List.nodup_range

/-! The marks are laid -/
structure MarksOk (s M : List Nat) : Prop where
  nd : M.Nodup
  mem : ∀ m, m ∈ M ↔ m < s.length ∧ lms s m = true
def ofCh (s M : List Nat) (c : Nat) : List Nat := M.filter fun m => ch s m == c
theorem mem_ofCh (s M : List Nat) (c m : Nat) : m ∈ ofCh s M c ↔ m ∈ M ∧ ch s m = c := by simp [ofCh]
theorem MarksOk.sub {s M : List Nat} (h : MarksOk s M) (c : Nat) : ofCh s M c ⊆ Spos s c := by
  intro m hm
  rw [mem_ofCh] at hm
  have := (h.mem m).1 hm.1
  exact (mem_Spos s c m).2 ⟨this.1, hm.2, lms_sm this.2⟩
theorem MarksOk.ndCh {s M : List Nat} (h : MarksOk s M) (c : Nat) : (ofCh s M c).Nodup := List.Pairwise.filter _ h.nd
theorem ofCh_take_succ (s M : List Nat) (k m c : Nat) (h : M[k]? = some m) : ofCh s (M.take (k + 1)) c = ofCh s (M.take k) c ++ (if ch s m = c then [m] else []) := by
  unfold ofCh
  rw [List.take_add_one, h, List.filter_append]
  congr 1
  by_cases e : ch s m = c <;> simp [e]
theorem ofCh_take_le (s M : List Nat) (k c : Nat) : (ofCh s (M.take k) c).length ≤ (ofCh s M c).length := ((List.take_sublist k M).filter _).length_le
structure InvM (s : List Nat) (mx : Nat) (M : List Nat) (k : Nat) (sa at_ : List Int) : Prop where
  len : sa.length = s.length
  alen : at_.length = mx + 2
  atv : ∀ c, c ≤ mx → at_[c]? = some ((lB s c + (ofCh s (M.take k) c).length : Nat) : Int)
  ms : ∀ c, c ≤ mx → ∀ (j m : Nat), (ofCh s (M.take k) c)[j]? = some m → sa[lB s c + j]? = some (m : Int)
  fr : ∀ c, c ≤ mx → ∀ j, gB s c ≤ j → j < lB s c → sa[j]? = some (-1)
  fs : ∀ c, c ≤ mx → ∀ j, lB s c + (ofCh s (M.take k) c).length ≤ j → j < gB s (c + 1) → sa[j]? = some (-1)
  rng : ∀ v ∈ sa, v < (s.length : Int)
theorem place_set {sa : List Int} {a j : Nat} {x y : Int} (h : sa[j]? = some y) (hne : a ≠ j) : (sa.set a x)[j]? = some y := by
  rw [List.getElem?_set_ne hne]; exact h
theorem InvM.step {s : List Nat} {mx : Nat} {M : List Nat} {k : Nat} {sa at_ : List Int} (h : InvM s mx M k sa at_) (hM : MarksOk s M) (hmx : ∀ x ∈ s, x ≤ mx) {m : Nat} (hm : M[k]? = some m) :
    ∃ a : Nat, at_[ch s m]? = some (a : Int) ∧ a < s.length ∧ InvM s mx M (k + 1) (sa.set a (m : Int)) (at_.set (ch s m) ((a : Int) + 1)) := by
  have hmM := (hM.mem m).1 (List.mem_of_getElem? hm)
  have hc : ch s m ≤ mx := hmx _ (ch_mem s m hmM.1)
  have hstep := ofCh_take_succ s M k m
  have hle : (ofCh s (M.take (k + 1)) (ch s m)).length ≤ (Spos s (ch s m)).length :=
    Nat.le_trans (ofCh_take_le s M (k + 1) _) ((hM.ndCh _).length_le_of_subset (hM.sub _))
  have hlen1 : (ofCh s (M.take (k + 1)) (ch s m)).length = (ofCh s (M.take k) (ch s m)).length + 1 := by rw [hstep _ hm]; simp
  have hlt : lB s (ch s m) + (ofCh s (M.take k) (ch s m)).length < gB s (ch s m + 1) := by rw [gB_succ]; omega
  have htot := gB_total s mx hmx
  have hmono := gB_mono s (show ch s m + 1 ≤ mx + 1 by omega)
  have hgl := gB_le_lB s (ch s m)
  refine ⟨_, h.atv _ hc, by omega, ?_⟩
  have other : ∀ c j, c ≤ mx → c ≠ ch s m → gB s c ≤ j → j < gB s (c + 1) → lB s (ch s m) + (ofCh s (M.take k) (ch s m)).length ≠ j := by
    intro c j _ hne h1 h2 e
    exact hne (bucket_unique s h1 h2 (show gB s (ch s m) ≤ j by omega) (by omega))
  refine ⟨by rw [List.length_set]; exact h.len, by rw [List.length_set]; exact h.alen, ?_, ?_, ?_, ?_, ?_⟩
  · intro c hcm
    by_cases e : c = ch s m
    · subst e
      rw [List.getElem?_set_self (by rw [h.alen]; omega), hlen1]
      simp; omega
    · rw [List.getElem?_set_ne (fun e2 => e e2.symm), h.atv c hcm, hstep c hm, if_neg (fun e2 => e e2.symm)]
      simp
  · intro c hcm j x hx
    rw [hstep c hm] at hx
    by_cases e : ch s m = c
    · subst e
      rw [if_pos rfl, List.getElem?_append] at hx
      split at hx
      · rename_i hj
        exact place_set (h.ms _ hcm j x hx) (by omega)
      · rename_i hj
        have hj0 : j = (ofCh s (M.take k) (ch s m)).length := by
          rcases Nat.lt_or_ge (ofCh s (M.take k) (ch s m)).length j with h1 | h1
          · rw [List.getElem?_eq_none (by simp; omega)] at hx; cases hx
          · omega
        subst hj0
        simp at hx
        subst hx
        rw [List.getElem?_set_self (by rw [h.len]; omega)]
    · rw [if_neg e, List.append_nil] at hx
      have hj := (List.getElem?_eq_some_iff.1 hx).1
      have hle2 : (ofCh s (M.take k) c).length ≤ (Spos s c).length := Nat.le_trans (ofCh_take_le s M k c) ((hM.ndCh c).length_le_of_subset (hM.sub c))
      have h2 := gB_succ s c
      have h3 := gB_le_lB s c
      exact place_set (h.ms c hcm j x hx) (other c _ hcm (fun e2 => e e2.symm) (by omega) (by omega))
  · intro c hcm j h1 h2
    have h3 := lB_le_gB s c
    by_cases e : c = ch s m
    · subst e
      exact place_set (h.fr _ hcm j h1 h2) (by omega)
    · exact place_set (h.fr c hcm j h1 h2) (other c j hcm e h1 (by omega))
  · intro c hcm j h1 h2
    have h3 := gB_le_lB s c
    rw [hstep c hm] at h1
    by_cases e : ch s m = c
    · subst e
      rw [if_pos rfl, List.length_append] at h1
      simp at h1
      exact place_set (h.fs _ hcm j (by omega) h2) (by omega)
    · rw [if_neg e, List.append_nil] at h1
      exact place_set (h.fs c hcm j h1 h2) (other c j hcm (fun e2 => e e2.symm) (by omega) h2)
  · intro v hv
    rcases List.mem_or_eq_of_mem_set hv with hv | rfl
    · exact h.rng v hv
    · exact Int.ofNat_lt.2 hmM.1
theorem InvM.init (s : List Nat) (mx : Nat) (M : List Nat) (at_ : List Int) (hmx : ∀ x ∈ s, x ≤ mx) (halen : at_.length = mx + 2) (hat : ∀ c, c ≤ mx → at_[c]? = some (lB s c : Int)) : InvM s mx M 0 (List.replicate s.length (-1)) at_ := by
  have htot := gB_total s mx hmx
  refine ⟨by simp, halen, ?_, ?_, ?_, ?_, ?_⟩
  · intro c hc; rw [hat c hc]; simp [ofCh]
  · intro c hc j m hm; simp [ofCh] at hm
  · intro c hc j h1 h2
    have h3 := lB_le_gB s c
    have h4 := gB_mono s (show c + 1 ≤ mx + 1 by omega)
    rw [List.getElem?_replicate, if_pos (by omega)]
  · intro c hc j h1 h2
    have h4 := gB_mono s (show c + 1 ≤ mx + 1 by omega)
    rw [List.getElem?_replicate, if_pos (by omega)]
  · intro v hv
    rw [List.mem_replicate] at hv
    omega

/-! The great ones follow -/
def predL (s : List Nat) (c : Nat) (v : Int) : Option Nat := if 1 ≤ v ∧ sm s (v.toNat - 1) = false ∧ ch s (v.toNat - 1) = c then some (v.toNat - 1) else none
def PL (s : List Nat) (c : Nat) (Q : List Int) : List Nat := Q.filterMap (predL s c)
theorem mem_PL (s : List Nat) (c : Nat) (Q : List Int) (p : Nat) : p ∈ PL s c Q ↔ ((p : Int) + 1) ∈ Q ∧ sm s p = false ∧ ch s p = c := by
  unfold PL
  rw [List.mem_filterMap]
  constructor
  · rintro ⟨v, hv, h⟩
    unfold predL at h
    split at h
    · rename_i h1
      simp at h
      obtain ⟨h1, h2, h3⟩ := h1
      have : v = (p : Int) + 1 := by omega
      subst this
      rw [show ((p : Int) + 1).toNat - 1 = p from by omega] at h2 h3
      exact ⟨hv, h2, h3⟩
    · cases h
  · rintro ⟨h1, h2, h3⟩
    refine ⟨_, h1, ?_⟩
    unfold predL
    rw [show ((p : Int) + 1).toNat - 1 = p from by omega, if_pos ⟨by omega, h2, h3⟩]
theorem PL_snoc (s : List Nat) (c : Nat) (Q : List Int) (v : Int) : PL s c (Q ++ [v]) = PL s c Q ++ (predL s c v).toList := by
  unfold PL
  rw [List.filterMap_append]
  congr 1
/-- What has been looked at, behind the end. -/
def seenL (s : List Nat) (i : Nat) (sa : List Int) : List Int := (s.length : Int) :: sa.take i
structure InvL (s : List Nat) (mx : Nat) (M : List Nat) (i : Nat) (sa at_ : List Int) : Prop where
  len : sa.length = s.length
  alen : at_.length = mx + 2
  atv : ∀ c, c ≤ mx → at_[c]? = some ((gB s c + (PL s c (seenL s i sa)).length : Nat) : Int)
  pl : ∀ c, c ≤ mx → ∀ (j p : Nat), (PL s c (seenL s i sa))[j]? = some p → sa[gB s c + j]? = some (p : Int)
  fr : ∀ c, c ≤ mx → ∀ j, gB s c + (PL s c (seenL s i sa)).length ≤ j → j < lB s c → sa[j]? = some (-1)
  ms : ∀ c, c ≤ mx → ∀ (j m : Nat), (ofCh s M c)[j]? = some m → sa[lB s c + j]? = some (m : Int)
  fs : ∀ c, c ≤ mx → ∀ j, lB s c + (ofCh s M c).length ≤ j → j < gB s (c + 1) → sa[j]? = some (-1)
  rng : ∀ v ∈ sa, v < (s.length : Int)
  nd : ∀ c, (PL s c (seenL s i sa)).Nodup
section
variable {s : List Nat} {mx : Nat} {M : List Nat} {i : Nat} {sa at_ : List Int}
theorem InvL.sub (h : InvL s mx M i sa at_) (c : Nat) : PL s c (seenL s i sa) ⊆ Lpos s c := by
  intro p hp
  rw [mem_PL] at hp
  refine (mem_Lpos s c p).2 ⟨?_, hp.2.2, hp.2.1⟩
  rcases List.mem_cons.1 hp.1 with h1 | h1
  · omega
  · have := h.rng _ (List.mem_of_mem_take h1); omega
theorem InvL.le (h : InvL s mx M i sa at_) (c : Nat) : (PL s c (seenL s i sa)).length ≤ (Lpos s c).length := (h.nd c).length_le_of_subset (h.sub c)
/-- What stands at a place. -/
theorem InvL.val (h : InvL s mx M i sa at_) (hM : MarksOk s M) (hmx : ∀ x ∈ s, x ≤ mx) {k : Nat} (hk : k < s.length) : ∃ c, c ≤ mx ∧ gB s c ≤ k ∧ k < gB s (c + 1) ∧
    ((∃ j p : Nat, k = gB s c + j ∧ (PL s c (seenL s i sa))[j]? = some p ∧ sa[k]? = some (p : Int)) ∨ sa[k]? = some (-1) ∨ (∃ j m : Nat, k = lB s c + j ∧ (ofCh s M c)[j]? = some m ∧ sa[k]? = some (m : Int))) := by
  obtain ⟨c, hc, h1, h2⟩ := bucket s k (mx + 1) (by rw [gB_total s mx hmx]; exact hk)
  refine ⟨c, by omega, h1, h2, ?_⟩
  by_cases g1 : k < gB s c + (PL s c (seenL s i sa)).length
  · left
    obtain ⟨p, hp⟩ : ∃ p, (PL s c (seenL s i sa))[k - gB s c]? = some p := ⟨_, List.getElem?_eq_getElem (by omega)⟩
    have := h.pl c (by omega) _ p hp
    rw [show gB s c + (k - gB s c) = k from by omega] at this
    exact ⟨k - gB s c, p, by omega, hp, this⟩
  · by_cases g2 : k < lB s c
    · exact .inr (.inl (h.fr c (by omega) k (by omega) g2))
    · by_cases g3 : k < lB s c + (ofCh s M c).length
      · right; right
        obtain ⟨p, hp⟩ : ∃ p, (ofCh s M c)[k - lB s c]? = some p := ⟨_, List.getElem?_eq_getElem (by omega)⟩
        have := h.ms c (by omega) _ p hp
        rw [show lB s c + (k - lB s c) = k from by omega] at this
        exact ⟨k - lB s c, p, by omega, hp, this⟩
      · exact .inr (.inl (h.fs c (by omega) k (by omega) h2))
/-- A place that holds a suffix: its bucket, and its kind. -/
theorem InvL.kind (h : InvL s mx M i sa at_) (hM : MarksOk s M) (hmx : ∀ x ∈ s, x ≤ mx) {k v : Nat} (hv : sa[k]? = some (v : Int)) : v < s.length ∧ ch s v ≤ mx ∧ gB s (ch s v) ≤ k ∧ k < gB s (ch s v + 1) ∧
    ((sm s v = false ∧ k < gB s (ch s v) + (PL s (ch s v) (seenL s i sa)).length ∧ (PL s (ch s v) (seenL s i sa))[k - gB s (ch s v)]? = some v) ∨ (sm s v = true ∧ lms s v = true ∧ lB s (ch s v) ≤ k ∧ (ofCh s M (ch s v))[k - lB s (ch s v)]? = some v)) := by
  have hk : k < s.length := by rw [← h.len]; exact (List.getElem?_eq_some_iff.1 hv).1
  obtain ⟨c, hc, h1, h2, h3⟩ := h.val hM hmx hk
  rcases h3 with ⟨j, p, e, hp, hx⟩ | hx | ⟨j, m, e, hm, hx⟩
  · rw [hv] at hx
    simp at hx
    obtain rfl : v = p := by omega
    have hm := (mem_Lpos s c v).1 (h.sub c (List.mem_of_getElem? hp))
    have hj := (List.getElem?_eq_some_iff.1 hp).1
    obtain ⟨h4, rfl, h6⟩ := hm
    refine ⟨h4, hc, h1, h2, .inl ⟨h6, by omega, ?_⟩⟩
    rw [show k - gB s (ch s v) = j from by omega]
    exact hp
  · rw [hv] at hx
    simp at hx
  · rw [hv] at hx
    simp at hx
    obtain rfl : v = m := by omega
    have hmm := (mem_ofCh s M c v).1 (List.mem_of_getElem? hm)
    have h4 := (hM.mem v).1 hmm.1
    obtain ⟨h5, rfl⟩ := hmm
    refine ⟨h4.1, hc, h1, h2, .inr ⟨lms_sm h4.2, h4.2, by omega, ?_⟩⟩
    rw [show k - lB s (ch s v) = j from by omega]
    exact hm
theorem InvL.inj (h : InvL s mx M i sa at_) (hM : MarksOk s M) (hmx : ∀ x ∈ s, x ≤ mx) {k l v : Nat} (hk : sa[k]? = some (v : Int)) (hl : sa[l]? = some (v : Int)) : k = l := by
  obtain ⟨_, _, a1, _, a2⟩ := h.kind hM hmx hk
  obtain ⟨_, _, b1, _, b2⟩ := h.kind hM hmx hl
  rcases a2 with ⟨a3, _, a4⟩ | ⟨a3, _, a5, a4⟩ <;> rcases b2 with ⟨b3, _, b4⟩ | ⟨b3, _, b5, b4⟩
  · have := nodup_at (h.nd _) a4 b4; omega
  · rw [a3] at b3; cases b3
  · rw [a3] at b3; cases b3
  · have := nodup_at (hM.ndCh _) a4 b4; omega
theorem seenL_succ (s : List Nat) (i : Nat) (sa : List Int) (v : Int) (hv : sa[i]? = some v) : seenL s (i + 1) sa = seenL s i sa ++ [v] := by
  unfold seenL
  rw [List.take_add_one, hv]
  rfl
theorem predL_none (s : List Nat) (c : Nat) (v : Int) (h : ¬ (1 ≤ v ∧ sm s (v.toNat - 1) = false)) : predL s c v = none := by
  unfold predL
  rw [if_neg fun e => h ⟨e.1, e.2.1⟩]
theorem predL_at (s : List Nat) (c p : Nat) (h : sm s p = false) : predL s c ((p : Int) + 1) = if ch s p = c then some p else none := by
  unfold predL
  rw [show ((p : Int) + 1).toNat - 1 = p from by omega]
  by_cases e : ch s p = c
  · rw [if_pos ⟨by omega, h, e⟩, if_pos e]
  · rw [if_neg (fun x => e x.2.2), if_neg e]
theorem InvL.skip (h : InvL s mx M i sa at_) (v : Int) (hv : sa[i]? = some v) (hn : ¬ (1 ≤ v ∧ sm s (v.toNat - 1) = false)) : InvL s mx M (i + 1) sa at_ := by
  have e : ∀ c, PL s c (seenL s (i + 1) sa) = PL s c (seenL s i sa) := by
    intro c
    rw [seenL_succ s i sa v hv, PL_snoc, predL_none s c v hn]
    simp
  exact ⟨h.len, h.alen, fun c hc => by rw [e]; exact h.atv c hc, fun c hc => by rw [e]; exact h.pl c hc, fun c hc => by rw [e]; exact h.fr c hc, h.ms, h.fs, h.rng, fun c => by rw [e]; exact h.nd c⟩
theorem InvL.step (h : InvL s mx M i sa at_) (hM : MarksOk s M) (hmx : ∀ x ∈ s, x ≤ mx) {p : Nat} (hv : sa[i]? = some ((p : Int) + 1)) (hp : sm s p = false) :
    p + 1 < s.length ∧ ∃ a : Nat, at_[ch s p]? = some (a : Int) ∧ a < s.length ∧ InvL s mx M (i + 1) (sa.set a (p : Int)) (at_.set (ch s p) ((a : Int) + 1)) := by
  have hv' : sa[i]? = some ((p + 1 : Nat) : Int) := by rw [hv]; simp
  obtain ⟨k1, k2, k3, k4, k5⟩ := h.kind hM hmx hv'
  refine ⟨k1, ?_⟩
  have hpn : p < s.length := by omega
  have hc : ch s p ≤ mx := hmx _ (ch_mem s p hpn)
  have hsf := sm_false s p hp k1
  have hnot : p ∉ PL s (ch s p) (seenL s i sa) := by
    intro hm
    rw [mem_PL] at hm
    rcases List.mem_cons.1 hm.1 with h1 | h1
    · omega
    · obtain ⟨j, hj⟩ := List.mem_iff_getElem?.1 h1
      rw [List.getElem?_take] at hj
      split at hj
      · rename_i hji
        rw [show ((p : Int) + 1) = ((p + 1 : Nat) : Int) from by simp] at hj
        have := h.inj hM hmx hj hv'
        omega
      · cases hj
  have hnd : (PL s (ch s p) (seenL s i sa) ++ [p]).Nodup := by
    rw [List.nodup_append]
    refine ⟨h.nd _, by simp, ?_⟩
    intro x hx y hy e
    simp at hy
    subst hy; subst e
    exact hnot hx
  have hle : (PL s (ch s p) (seenL s i sa)).length + 1 ≤ (Lpos s (ch s p)).length := by
    have := hnd.length_le_of_subset (l₂ := Lpos s (ch s p)) (by
      intro x hx
      rcases List.mem_append.1 hx with hx | hx
      · exact h.sub _ hx
      · simp at hx; subst hx; exact (mem_Lpos _ _ _).2 ⟨hpn, rfl, hp⟩)
    simpa using this
  have hgl : gB s (ch s p) + (PL s (ch s p) (seenL s i sa)).length < lB s (ch s p) := by unfold lB; omega
  have hlg := lB_le_gB s (ch s p)
  have htot := gB_total s mx hmx
  have hmono := gB_mono s (show ch s p + 1 ≤ mx + 1 by omega)
  have hai : i < gB s (ch s p) + (PL s (ch s p) (seenL s i sa)).length := by
    rcases hsf with h1 | ⟨h1, h2⟩
    · have := gB_mono s (show ch s (p + 1) + 1 ≤ ch s p by omega)
      omega
    · rw [h1] at k5
      rcases k5 with ⟨_, h3, _⟩ | ⟨h3, _⟩
      · exact h3
      · rw [h2] at h3; cases h3
  refine ⟨_, h.atv _ hc, by omega, ?_⟩
  have other : ∀ c j, c ≤ mx → c ≠ ch s p → gB s c ≤ j → j < gB s (c + 1) → gB s (ch s p) + (PL s (ch s p) (seenL s i sa)).length ≠ j := by
    intro c j _ hne h1 h2 e
    exact hne (bucket_unique s h1 h2 (show gB s (ch s p) ≤ j by omega) (by omega))
  have hQ : seenL s (i + 1) (sa.set (gB s (ch s p) + (PL s (ch s p) (seenL s i sa)).length) (p : Int)) = seenL s i sa ++ [(p : Int) + 1] := by
    have h1 : (sa.set (gB s (ch s p) + (PL s (ch s p) (seenL s i sa)).length) (p : Int)).take (i + 1) = sa.take (i + 1) := List.take_set_of_le (by omega)
    show (s.length : Int) :: (sa.set _ _).take (i + 1) = _
    rw [h1, List.take_add_one, hv]
    rfl
  have hPL : ∀ c, PL s c (seenL s (i + 1) (sa.set (gB s (ch s p) + (PL s (ch s p) (seenL s i sa)).length) (p : Int))) = PL s c (seenL s i sa) ++ (if ch s p = c then [p] else []) := by
    intro c
    rw [hQ, PL_snoc, predL_at s c p hp]
    by_cases e : ch s p = c <;> simp [e]
  generalize ha : gB s (ch s p) + (PL s (ch s p) (seenL s i sa)).length = a at *
  refine ⟨by rw [List.length_set]; exact h.len, by rw [List.length_set]; exact h.alen, ?_, ?_, ?_, ?_, ?_, ?_, ?_⟩
  · intro c hcm
    rw [hPL]
    by_cases e : ch s p = c
    · subst e
      rw [List.getElem?_set_self (by rw [h.alen]; omega), if_pos rfl, List.length_append]
      simp; omega
    · rw [List.getElem?_set_ne e, h.atv c hcm, if_neg e]
      simp
  · intro c hcm j x hx
    rw [hPL] at hx
    by_cases e : ch s p = c
    · subst e
      rw [if_pos rfl, List.getElem?_append] at hx
      split at hx
      · exact place_set (h.pl _ hcm j x hx) (by omega)
      · have hj0 : j = (PL s (ch s p) (seenL s i sa)).length := by
          rcases Nat.lt_or_ge (PL s (ch s p) (seenL s i sa)).length j with h1 | h1
          · rw [List.getElem?_eq_none (by simp; omega)] at hx; cases hx
          · omega
        subst hj0
        simp at hx
        subst hx
        rw [ha, List.getElem?_set_self (by rw [h.len]; omega)]
    · rw [if_neg e, List.append_nil] at hx
      have hj := (List.getElem?_eq_some_iff.1 hx).1
      have h2 := h.le c
      have h3 := lB_le_gB s c
      have h4 : lB s c = gB s c + (Lpos s c).length := rfl
      exact place_set (h.pl c hcm j x hx) (other c _ hcm (fun e2 => e e2.symm) (by omega) (by omega))
  · intro c hcm j h1 h2
    have h3 := lB_le_gB s c
    rw [hPL] at h1
    by_cases e : ch s p = c
    · subst e
      rw [if_pos rfl, List.length_append] at h1
      simp at h1
      exact place_set (h.fr _ hcm j (by omega) h2) (by omega)
    · rw [if_neg e, List.append_nil] at h1
      exact place_set (h.fr c hcm j h1 h2) (other c j hcm (fun e2 => e e2.symm) (by omega) (by omega))
  · intro c hcm j m hm
    have hj := (List.getElem?_eq_some_iff.1 hm).1
    have h2 := (hM.ndCh c).length_le_of_subset (hM.sub c)
    have h3 := gB_succ s c
    have h4 := gB_le_lB s c
    by_cases e : c = ch s p
    · subst e
      exact place_set (h.ms _ hcm j m hm) (by omega)
    · exact place_set (h.ms c hcm j m hm) (other c _ hcm e (by omega) (by omega))
  · intro c hcm j h1 h2
    have h4 := gB_le_lB s c
    by_cases e : c = ch s p
    · subst e
      exact place_set (h.fs _ hcm j h1 h2) (by omega)
    · exact place_set (h.fs c hcm j h1 h2) (other c _ hcm e (by omega) (by omega))
  · intro v hv
    rcases List.mem_or_eq_of_mem_set hv with hv | rfl
    · exact h.rng v hv
    · omega
  · intro c
    rw [hPL]
    by_cases e : ch s p = c
    · subst e; rw [if_pos rfl]; exact hnd
    · rw [if_neg e, List.append_nil]; exact h.nd c
end
/-- The last suffix is laid. -/
theorem InvL.init {s : List Nat} {mx : Nat} {M : List Nat} {sa at0 at_ : List Int} (h : InvM s mx M M.length sa at0) (hM : MarksOk s M) (hmx : ∀ x ∈ s, x ≤ mx) (hn : 1 ≤ s.length) (halen : at_.length = mx + 2) (hat : ∀ c, c ≤ mx → at_[c]? = some (gB s c : Int)) :
    gB s (ch s (s.length - 1)) < s.length ∧ InvL s mx M 0 (sa.set (gB s (ch s (s.length - 1))) ((s.length : Int) - 1)) (at_.set (ch s (s.length - 1)) ((gB s (ch s (s.length - 1)) : Int) + 1)) := by
  obtain ⟨p, hp⟩ : ∃ p, p = s.length - 1 := ⟨_, rfl⟩
  have hs : s.length = p + 1 := by omega
  rw [← hp]
  have hsp := sm_last s p (by omega)
  have hc : ch s p ≤ mx := hmx _ (ch_mem s p (by omega))
  have hmem : p ∈ Lpos s (ch s p) := (mem_Lpos _ _ _).2 ⟨by omega, rfl, hsp⟩
  have hpos : 1 ≤ (Lpos s (ch s p)).length := List.length_pos_of_mem hmem
  have hgl : gB s (ch s p) < lB s (ch s p) := by unfold lB; omega
  have hlg := lB_le_gB s (ch s p)
  have htot := gB_total s mx hmx
  have hmono := gB_mono s (show ch s p + 1 ≤ mx + 1 by omega)
  have hM' := h.ms
  rw [List.take_length] at hM'
  have hfs := h.fs
  rw [List.take_length] at hfs
  have hPL : ∀ c (X : List Int), PL s c (seenL s 0 X) = if ch s p = c then [p] else [] := by
    intro c X
    have : seenL s 0 X = [] ++ [(p : Int) + 1] := by simp [seenL, hs]
    rw [this, PL_snoc, predL_at s c p hsp]
    by_cases e : ch s p = c <;> simp [e, PL]
  have other : ∀ c j, c ≤ mx → c ≠ ch s p → gB s c ≤ j → j < gB s (c + 1) → gB s (ch s p) ≠ j := by
    intro c j _ hne h1 h2 e
    exact hne (bucket_unique s h1 h2 (show gB s (ch s p) ≤ j by omega) (by omega))
  have hv : ((s.length : Int) - 1) = (p : Int) := by omega
  rw [hv]
  refine ⟨by omega, by rw [List.length_set]; exact h.len, by rw [List.length_set]; exact halen, ?_, ?_, ?_, ?_, ?_, ?_, ?_⟩
  · intro c hcm
    rw [hPL]
    by_cases e : ch s p = c
    · subst e
      rw [List.getElem?_set_self (by rw [halen]; omega), if_pos rfl]
      simp
    · rw [List.getElem?_set_ne e, hat c hcm, if_neg e]
      simp
  · intro c hcm j x hx
    rw [hPL] at hx
    by_cases e : ch s p = c
    · subst e
      rw [if_pos rfl] at hx
      cases j with
      | zero => simp at hx; subst hx; rw [Nat.add_zero, List.getElem?_set_self (by rw [h.len]; omega)]
      | succ j => simp at hx
    · rw [if_neg e] at hx; simp at hx
  · intro c hcm j h1 h2
    have h3 := lB_le_gB s c
    rw [hPL] at h1
    by_cases e : ch s p = c
    · subst e
      rw [if_pos rfl] at h1
      simp at h1
      exact place_set (h.fr _ hcm j (by omega) h2) (by omega)
    · rw [if_neg e] at h1
      simp at h1
      exact place_set (h.fr c hcm j h1 h2) (other c j hcm (fun e2 => e e2.symm) (by omega) (by omega))
  · intro c hcm j m hm
    have hj := (List.getElem?_eq_some_iff.1 hm).1
    have h2 := (hM.ndCh c).length_le_of_subset (hM.sub c)
    have h3 := gB_succ s c
    have h4 := gB_le_lB s c
    by_cases e : c = ch s p
    · subst e
      exact place_set (hM' _ hcm j m hm) (by omega)
    · exact place_set (hM' c hcm j m hm) (other c _ hcm e (by omega) (by omega))
  · intro c hcm j h1 h2
    have h4 := gB_le_lB s c
    by_cases e : c = ch s p
    · subst e
      exact place_set (hfs _ hcm j h1 h2) (by omega)
    · exact place_set (hfs c hcm j h1 h2) (other c _ hcm e (by omega) (by omega))
  · intro v hv
    rcases List.mem_or_eq_of_mem_set hv with hv | rfl
    · exact h.rng v hv
    · omega
  · intro c
    rw [hPL]
    by_cases e : ch s p = c
    · rw [if_pos e]; simp
    · rw [if_neg e]; simp
end Go.Proofs.Ytdhnmcdgiddhdaa
/-
  Induced sorting, plain: the small ones, and the order that comes out.
-/
set_option linter.unusedVariables false
set_option linter.unusedSimpArgs false
namespace Go.Proofs.Ytdhnmcdgiddhdaa

/-! All great ones stand -/
section
variable {s : List Nat} {mx : Nat} {M : List Nat} {sa at_ : List Int}
theorem InvL.all (h : InvL s mx M s.length sa at_) (hM : MarksOk s M) (hmx : ∀ x ∈ s, x ≤ mx) : ∀ d p, p + d + 1 = s.length → sm s p = false → p ∈ PL s (ch s p) (seenL s s.length sa)
  | 0, p, hd, hp => by
    rw [mem_PL]
    exact ⟨by simp [seenL]; left; omega, hp, rfl⟩
  | d + 1, p, hd, hp => by
    rw [mem_PL]
    refine ⟨?_, hp, rfl⟩
    have hc := hmx _ (ch_mem s (p + 1) (by omega))
    refine List.mem_cons.2 (.inr ?_)
    rw [List.take_of_length_le (by rw [h.len]; exact Nat.le_refl _)]
    cases hs : sm s (p + 1) with
    | false =>
      have ih := InvL.all h hM hmx d (p + 1) (by omega) hs
      obtain ⟨j, hj⟩ := List.mem_iff_getElem?.1 ih
      have := h.pl _ hc j _ hj
      exact List.mem_of_getElem? (by simpa using this)
    | true =>
      have hm : p + 1 ∈ ofCh s M (ch s (p + 1)) := by
        rw [mem_ofCh, hM.mem]
        exact ⟨⟨by omega, by rw [lms_succ, hs, hp]; rfl⟩, rfl⟩
      obtain ⟨j, hj⟩ := List.mem_iff_getElem?.1 hm
      have := h.ms _ hc j _ hj
      exact List.mem_of_getElem? (by simpa using this)
/-- What the second pass leaves of the great ones. -/
structure GreatOk (s : List Nat) (mx : Nat) (sa : List Int) : Prop where
  len : sa.length = s.length
  full : ∀ p, p < s.length → sm s p = false → ∃ j : Nat, gB s (ch s p) ≤ j ∧ j < lB s (ch s p) ∧ sa[j]? = some (p : Int)
  kind : ∀ c, c ≤ mx → ∀ j, gB s c ≤ j → j < lB s c → ∃ p, p ∈ Lpos s c ∧ sa[j]? = some (p : Int)
  inj : ∀ (i j p : Nat), sa[i]? = some (p : Int) → sa[j]? = some (p : Int) → i = j
  rng : ∀ v ∈ sa, v < (s.length : Int)
theorem InvL.great (h : InvL s mx M s.length sa at_) (hM : MarksOk s M) (hmx : ∀ x ∈ s, x ≤ mx) : GreatOk s mx sa := by
  refine ⟨h.len, ?_, ?_, fun i j p h1 h2 => h.inj hM hmx h1 h2, h.rng⟩
  · intro p hp hs
    have := h.all hM hmx (s.length - 1 - p) p (by omega) hs
    obtain ⟨j, hj⟩ := List.mem_iff_getElem?.1 this
    have h1 := h.pl _ (hmx _ (ch_mem s p hp)) j _ hj
    have h2 := h.le (ch s p)
    have h3 := (List.getElem?_eq_some_iff.1 hj).1
    exact ⟨_, by omega, by unfold lB; omega, h1⟩
  · intro c hc j h1 h2
    have hsub : Lpos s c ⊆ PL s c (seenL s s.length sa) := by
      intro p hp
      rw [mem_Lpos] at hp
      have := h.all hM hmx (s.length - 1 - p) p (by omega) hp.2.2
      rw [hp.2.1] at this
      exact this
    have hle := (Lpos_nodup s c).length_le_of_subset hsub
    unfold lB at h2
    obtain ⟨p, hp⟩ : ∃ p, (PL s c (seenL s s.length sa))[j - gB s c]? = some p := ⟨_, List.getElem?_eq_getElem (by omega)⟩
    have h3 := h.pl c hc _ p hp
    rw [show gB s c + (j - gB s c) = j from by omega] at h3
    exact ⟨p, h.sub c (List.mem_of_getElem? hp), h3⟩
end

/-! The small ones follow -/
def predS (s : List Nat) (c : Nat) (v : Int) : Option Nat := if 1 ≤ v ∧ sm s (v.toNat - 1) = true ∧ ch s (v.toNat - 1) = c then some (v.toNat - 1) else none
def PS (s : List Nat) (c : Nat) (Q : List Int) : List Nat := Q.filterMap (predS s c)
theorem mem_PS (s : List Nat) (c : Nat) (Q : List Int) (p : Nat) : p ∈ PS s c Q ↔ ((p : Int) + 1) ∈ Q ∧ sm s p = true ∧ ch s p = c := by
  unfold PS
  rw [List.mem_filterMap]
  constructor
  · rintro ⟨v, hv, h⟩
    unfold predS at h
    split at h
    · rename_i h1
      simp at h
      obtain ⟨h1, h2, h3⟩ := h1
      have : v = (p : Int) + 1 := by omega
      subst this
      rw [show ((p : Int) + 1).toNat - 1 = p from by omega] at h2 h3
      exact ⟨hv, h2, h3⟩
    · cases h
  · rintro ⟨h1, h2, h3⟩
    refine ⟨_, h1, ?_⟩
    unfold predS
    rw [show ((p : Int) + 1).toNat - 1 = p from by omega, if_pos ⟨by omega, h2, h3⟩]
theorem PS_snoc (s : List Nat) (c : Nat) (Q : List Int) (v : Int) : PS s c (Q ++ [v]) = PS s c Q ++ (predS s c v).toList := by
  unfold PS
  rw [List.filterMap_append]
  congr 1
theorem predS_none (s : List Nat) (c : Nat) (v : Int) (h : ¬ (1 ≤ v ∧ sm s (v.toNat - 1) = true)) : predS s c v = none := by
  unfold predS
  rw [if_neg fun e => h ⟨e.1, e.2.1⟩]
theorem predS_at (s : List Nat) (c p : Nat) (h : sm s p = true) : predS s c ((p : Int) + 1) = if ch s p = c then some p else none := by
  unfold predS
  rw [show ((p : Int) + 1).toNat - 1 = p from by omega]
  by_cases e : ch s p = c
  · rw [if_pos ⟨by omega, h, e⟩, if_pos e]
  · rw [if_neg (fun x => e x.2.2), if_neg e]
/-- What has been looked at, from the end on. -/
def seenS (i : Nat) (sa : List Int) : List Int := (sa.drop i).reverse
theorem mem_seenS (i : Nat) (sa : List Int) (v : Int) : v ∈ seenS i sa ↔ ∃ j, i ≤ j ∧ sa[j]? = some v := by
  unfold seenS
  rw [List.mem_reverse, List.mem_iff_getElem?]
  constructor
  · rintro ⟨j, hj⟩
    rw [List.getElem?_drop] at hj
    exact ⟨i + j, by omega, hj⟩
  · rintro ⟨j, h1, h2⟩
    exact ⟨j - i, by rw [List.getElem?_drop, show i + (j - i) = j from by omega]; exact h2⟩
theorem seenS_succ (i : Nat) (sa : List Int) (v : Int) (hv : sa[i]? = some v) : seenS i sa = seenS (i + 1) sa ++ [v] := by
  unfold seenS
  obtain ⟨h, e⟩ := List.getElem?_eq_some_iff.1 hv
  rw [List.drop_eq_getElem_cons h, List.reverse_cons, e]
structure InvS (s : List Nat) (mx : Nat) (sa0 : List Int) (i : Nat) (sa at_ : List Int) : Prop where
  len : sa.length = s.length
  alen : at_.length = mx + 2
  atv : ∀ c, c ≤ mx → at_[c + 1]? = some ((gB s (c + 1) : Int) - (PS s c (seenS i sa)).length)
  ps : ∀ c, c ≤ mx → ∀ (j p : Nat), (PS s c (seenS i sa))[j]? = some p → sa[gB s (c + 1) - 1 - j]? = some (p : Int)
  lo : ∀ c, c ≤ mx → ∀ j, gB s c ≤ j → j < lB s c → sa[j]? = sa0[j]?
  rng : ∀ v ∈ sa, v < (s.length : Int)
  nd : ∀ c, (PS s c (seenS i sa)).Nodup
  comp : ∀ c, c ≤ mx → ∀ j, i ≤ j → lB s c ≤ j → j < gB s (c + 1) → gB s (c + 1) ≤ j + (PS s c (seenS i sa)).length
section
variable {s : List Nat} {mx : Nat} {i : Nat} {sa0 sa at_ : List Int}
theorem InvS.sub (h : InvS s mx sa0 i sa at_) (c : Nat) : PS s c (seenS i sa) ⊆ Spos s c := by
  intro p hp
  rw [mem_PS, mem_seenS] at hp
  obtain ⟨⟨j, _, hj⟩, h2, h3⟩ := hp
  have := h.rng _ (List.mem_of_getElem? hj)
  exact (mem_Spos s c p).2 ⟨by omega, h3, h2⟩
theorem InvS.le (h : InvS s mx sa0 i sa at_) (c : Nat) : (PS s c (seenS i sa)).length ≤ (Spos s c).length := (h.nd c).length_le_of_subset (h.sub c)
/-- A place that has been looked at, or is next. -/
theorem InvS.kind (h : InvS s mx sa0 i sa at_) (hG : GreatOk s mx sa0) (hmx : ∀ x ∈ s, x ≤ mx) {k : Nat} (hk : k < s.length) (hp : ∀ c, c ≤ mx → lB s c ≤ k → k < gB s (c + 1) → gB s (c + 1) ≤ k + (PS s c (seenS i sa)).length) :
    ∃ v : Nat, sa[k]? = some (v : Int) ∧ v < s.length ∧ gB s (ch s v) ≤ k ∧ k < gB s (ch s v + 1) ∧
      ((sm s v = false ∧ k < lB s (ch s v) ∧ sa0[k]? = some (v : Int)) ∨ (sm s v = true ∧ lB s (ch s v) ≤ k ∧ gB s (ch s v + 1) ≤ k + (PS s (ch s v) (seenS i sa)).length ∧ (PS s (ch s v) (seenS i sa))[gB s (ch s v + 1) - 1 - k]? = some v)) := by
  obtain ⟨c, hc, h1, h2⟩ := bucket s k (mx + 1) (by rw [gB_total s mx hmx]; exact hk)
  by_cases h3 : k < lB s c
  · obtain ⟨p, hp1, hp2⟩ := hG.kind c (by omega) k h1 h3
    obtain ⟨h4, rfl, h6⟩ := (mem_Lpos s c p).1 hp1
    exact ⟨p, (h.lo _ (by omega) k h1 h3).trans hp2, h4, h1, h2, .inl ⟨h6, h3, hp2⟩⟩
  · have h4 := hp c (by omega) (by omega) h2
    obtain ⟨p, hp1⟩ : ∃ p, (PS s c (seenS i sa))[gB s (c + 1) - 1 - k]? = some p := ⟨_, List.getElem?_eq_getElem (by omega)⟩
    have h5 := h.ps c (by omega) _ p hp1
    rw [show gB s (c + 1) - 1 - (gB s (c + 1) - 1 - k) = k from by omega] at h5
    obtain ⟨h6, rfl, h8⟩ := (mem_Spos s c p).1 (h.sub c (List.mem_of_getElem? hp1))
    exact ⟨p, h5, h6, h1, h2, .inr ⟨h8, by omega, h4, hp1⟩⟩
theorem InvS.inj (h : InvS s mx sa0 i sa at_) (hG : GreatOk s mx sa0) (hmx : ∀ x ∈ s, x ≤ mx) {k l v : Nat} (hv : sa[k]? = some (v : Int)) (hl : sa[l]? = some (v : Int))
    (hp : ∀ c, c ≤ mx → lB s c ≤ k → k < gB s (c + 1) → gB s (c + 1) ≤ k + (PS s c (seenS i sa)).length) (hp2 : ∀ c, c ≤ mx → lB s c ≤ l → l < gB s (c + 1) → gB s (c + 1) ≤ l + (PS s c (seenS i sa)).length) : k = l := by
  have hk : k < s.length := by rw [← h.len]; exact (List.getElem?_eq_some_iff.1 hv).1
  have hll : l < s.length := by rw [← h.len]; exact (List.getElem?_eq_some_iff.1 hl).1
  obtain ⟨u, a1, a2, a3, a4, a5⟩ := h.kind hG hmx hk hp
  obtain ⟨t, b1, b2, b3, b4, b5⟩ := h.kind hG hmx hll hp2
  rw [hv] at a1; rw [hl] at b1
  simp at a1 b1
  obtain rfl : v = u := by omega
  obtain rfl : v = t := by omega
  rcases a5 with ⟨a5, a6, a7⟩ | ⟨a5, a6, a7, a8⟩ <;> rcases b5 with ⟨b5, b6, b7⟩ | ⟨b5, b6, b7, b8⟩
  · exact hG.inj _ _ _ a7 b7
  · rw [a5] at b5; cases b5
  · rw [a5] at b5; cases b5
  · have := nodup_at (h.nd _) a8 b8; omega
/-- The next place is laid already. -/
theorem InvS.ready (h : InvS s mx sa0 (i + 1) sa at_) (hG : GreatOk s mx sa0) (hmx : ∀ x ∈ s, x ≤ mx) (hi : i < s.length) : ∀ c, c ≤ mx → lB s c ≤ i → i < gB s (c + 1) → gB s (c + 1) ≤ i + (PS s c (seenS (i + 1) sa)).length := by
  intro c hc h1 h2
  refine Classical.byContradiction fun hn => ?_
  have key : ∀ d p, p + d + 1 = s.length → p ∈ Spos s c → p ∈ PS s c (seenS (i + 1) sa) := by
    intro d
    induction d with
    | zero =>
      intro p hd hp
      have := (mem_Spos s c p).1 hp
      rw [sm_last s p (by omega)] at this
      simp at this
    | succ d ih =>
      intro p hd hp
      obtain ⟨p1, p2, p3⟩ := (mem_Spos s c p).1 hp
      obtain ⟨p4, p5⟩ := sm_true s p p3
      rw [mem_PS, mem_seenS]
      refine ⟨?_, p3, p2⟩
      have hc1 := hmx _ (ch_mem s (p + 1) p4)
      have e : ((p : Int) + 1) = ((p + 1 : Nat) : Int) := by simp
      rw [e]
      by_cases hsp : sm s (p + 1) = true
      · by_cases hcc : ch s (p + 1) = c
        · have h3 := ih (p + 1) (by omega) ((mem_Spos s c (p + 1)).2 ⟨p4, hcc, hsp⟩)
          obtain ⟨j, hj⟩ := List.mem_iff_getElem?.1 h3
          have hjl := (List.getElem?_eq_some_iff.1 hj).1
          exact ⟨_, by omega, h.ps c hc j _ hj⟩
        · have hgt : c + 1 ≤ ch s (p + 1) := by omega
          have h3 := gB_mono s hgt
          have h4 := gB_le_lB s (ch s (p + 1))
          have hmem : p + 1 ∈ Spos s (ch s (p + 1)) := (mem_Spos _ _ _).2 ⟨p4, rfl, hsp⟩
          have h5 := List.length_pos_of_mem hmem
          have h6 := gB_succ s (ch s (p + 1))
          have h7 := h.comp _ hc1 (lB s (ch s (p + 1))) (by omega) (Nat.le_refl _) (by omega)
          have h8 := full_of_len (h.nd _) (Spos_nodup s _) (h.sub (ch s (p + 1))) (by omega) hmem
          obtain ⟨j, hj⟩ := List.mem_iff_getElem?.1 h8
          have hjl := (List.getElem?_eq_some_iff.1 hj).1
          have h9 := h.le (ch s (p + 1))
          exact ⟨_, by omega, h.ps _ hc1 j _ hj⟩
      · have hsp' : sm s (p + 1) = false := by simpa using hsp
        have hgt : c + 1 ≤ ch s (p + 1) := by
          rcases p5 with p5 | ⟨_, p5⟩
          · omega
          · exact absurd p5 hsp
        obtain ⟨j, j1, j2, j3⟩ := hG.full (p + 1) p4 hsp'
        have h3 := gB_mono s hgt
        exact ⟨j, by omega, (h.lo _ hc1 j j1 j2).trans j3⟩
  have hsub : Spos s c ⊆ PS s c (seenS (i + 1) sa) := by
    intro p hp
    have := (mem_Spos s c p).1 hp
    exact key (s.length - 1 - p) p (by omega) hp
  have h3 := (Spos_nodup s c).length_le_of_subset hsub
  have h4 := gB_succ s c
  omega
theorem InvS.skip (h : InvS s mx sa0 (i + 1) sa at_) (hG : GreatOk s mx sa0) (hmx : ∀ x ∈ s, x ≤ mx) (hi : i < s.length) (v : Int) (hv : sa[i]? = some v) (hn : ¬ (1 ≤ v ∧ sm s (v.toNat - 1) = true)) : InvS s mx sa0 i sa at_ := by
  have e : ∀ c, PS s c (seenS i sa) = PS s c (seenS (i + 1) sa) := by
    intro c
    rw [seenS_succ i sa v hv, PS_snoc, predS_none s c v hn]
    simp
  have hr := h.ready hG hmx hi
  refine ⟨h.len, h.alen, fun c hc => by rw [e]; exact h.atv c hc, fun c hc => by rw [e]; exact h.ps c hc, h.lo, h.rng, fun c => by rw [e]; exact h.nd c, ?_⟩
  intro c hc j h1 h2 h3
  rw [e]
  by_cases hj : j = i
  · subst hj; exact hr c hc h2 h3
  · exact h.comp c hc j (by omega) h2 h3
theorem InvS.step (h : InvS s mx sa0 (i + 1) sa at_) (hG : GreatOk s mx sa0) (hmx : ∀ x ∈ s, x ≤ mx) {p : Nat} (hv : sa[i]? = some ((p : Int) + 1)) (hp : sm s p = true) :
    p + 1 < s.length ∧ ∃ a : Nat, at_[ch s p + 1]? = some ((a : Int) + 1) ∧ a < s.length ∧ InvS s mx sa0 i (sa.set a (p : Int)) (at_.set (ch s p + 1) (a : Int)) := by
  have hi : i < s.length := by rw [← h.len]; exact (List.getElem?_eq_some_iff.1 hv).1
  have hr := h.ready hG hmx hi
  have hv' : sa[i]? = some ((p + 1 : Nat) : Int) := by rw [hv]; simp
  obtain ⟨v, k0, k1, k3, k4, k5⟩ := h.kind hG hmx hi hr
  rw [hv'] at k0
  simp at k0
  obtain rfl : v = p + 1 := by omega
  refine ⟨k1, ?_⟩
  have hpn : p < s.length := by omega
  have hc : ch s p ≤ mx := hmx _ (ch_mem s p hpn)
  obtain ⟨_, hst⟩ := sm_true s p hp
  have hnot : p ∉ PS s (ch s p) (seenS (i + 1) sa) := by
    intro hm
    rw [mem_PS, mem_seenS] at hm
    obtain ⟨⟨j, hj1, hj2⟩, _⟩ := hm
    rw [show ((p : Int) + 1) = ((p + 1 : Nat) : Int) from by simp] at hj2
    have := h.inj hG hmx hv' hj2 hr (fun c hc h1 h2 => h.comp c hc j hj1 h1 h2)
    omega
  have hnd : (PS s (ch s p) (seenS (i + 1) sa) ++ [p]).Nodup := by
    rw [List.nodup_append]
    refine ⟨h.nd _, by simp, ?_⟩
    intro x hx y hy e
    simp at hy
    subst hy; subst e
    exact hnot hx
  have hle : (PS s (ch s p) (seenS (i + 1) sa)).length + 1 ≤ (Spos s (ch s p)).length := by
    have := hnd.length_le_of_subset (l₂ := Spos s (ch s p)) (by
      intro x hx
      rcases List.mem_append.1 hx with hx | hx
      · exact h.sub _ hx
      · simp at hx; subst hx; exact (mem_Spos _ _ _).2 ⟨hpn, rfl, hp⟩)
    simpa using this
  have hgs := gB_succ s (ch s p)
  have hgl := gB_le_lB s (ch s p)
  have htot := gB_total s mx hmx
  have hmono := gB_mono s (show ch s p + 1 ≤ mx + 1 by omega)
  obtain ⟨a, ha⟩ : ∃ a, gB s (ch s p + 1) = a + (PS s (ch s p) (seenS (i + 1) sa)).length + 1 := ⟨gB s (ch s p + 1) - (PS s (ch s p) (seenS (i + 1) sa)).length - 1, by omega⟩
  have hai : a < i := by
    rcases hst with h1 | ⟨h1, h2⟩
    · have := gB_mono s (show ch s p + 1 ≤ ch s (p + 1) by omega)
      omega
    · rw [← h1] at k5
      rcases k5 with ⟨h3, _⟩ | ⟨_, _, h3, _⟩
      · rw [h2] at h3; cases h3
      · omega
  have hal : lB s (ch s p) ≤ a := by omega
  refine ⟨a, by rw [h.atv _ hc]; congr 1; omega, by omega, ?_⟩
  have other : ∀ c j, c ≤ mx → c ≠ ch s p → gB s c ≤ j → j < gB s (c + 1) → a ≠ j := by
    intro c j _ hne h1 h2 e
    exact hne (bucket_unique s h1 h2 (show gB s (ch s p) ≤ j by omega) (by omega))
  have hQ : seenS i (sa.set a (p : Int)) = seenS (i + 1) sa ++ [(p : Int) + 1] := by
    have h1 : (sa.set a (p : Int)).drop i = sa.drop i := by
      rw [List.drop_set_of_lt hai]
    rw [← seenS_succ i sa _ hv]
    unfold seenS
    rw [h1]
  have hPS : ∀ c, PS s c (seenS i (sa.set a (p : Int))) = PS s c (seenS (i + 1) sa) ++ (if ch s p = c then [p] else []) := by
    intro c
    rw [hQ, PS_snoc, predS_at s c p hp]
    by_cases e : ch s p = c <;> simp [e]
  refine ⟨by rw [List.length_set]; exact h.len, by rw [List.length_set]; exact h.alen, ?_, ?_, ?_, ?_, ?_, ?_⟩
  · intro c hcm
    rw [hPS]
    by_cases e : ch s p = c
    · subst e
      rw [List.getElem?_set_self (by rw [h.alen]; omega), if_pos rfl, List.length_append]
      simp; omega
    · rw [List.getElem?_set_ne (by omega), h.atv c hcm, if_neg e]
      simp
  · intro c hcm j x hx
    rw [hPS] at hx
    by_cases e : ch s p = c
    · subst e
      rw [if_pos rfl, List.getElem?_append] at hx
      split at hx
      · exact place_set (h.ps _ hcm j x hx) (by omega)
      · have hj0 : j = (PS s (ch s p) (seenS (i + 1) sa)).length := by
          rcases Nat.lt_or_ge (PS s (ch s p) (seenS (i + 1) sa)).length j with h1 | h1
          · rw [List.getElem?_eq_none (by simp; omega)] at hx; cases hx
          · omega
        subst hj0
        simp at hx
        subst hx
        rw [show gB s (ch s p + 1) - 1 - (PS s (ch s p) (seenS (i + 1) sa)).length = a from by omega, List.getElem?_set_self (by rw [h.len]; omega)]
    · rw [if_neg e, List.append_nil] at hx
      have hj := (List.getElem?_eq_some_iff.1 hx).1
      have h2 := h.le c
      have h3 := gB_succ s c
      have h4 := gB_le_lB s c
      exact place_set (h.ps c hcm j x hx) (other c _ hcm (fun e2 => e e2.symm) (by omega) (by omega))
  · intro c hcm j h1 h2
    rw [← h.lo c hcm j h1 h2]
    have h3 := lB_le_gB s c
    have hne : a ≠ j := by
      by_cases e : c = ch s p
      · subst e; omega
      · exact other c j hcm e h1 (by omega)
    rw [List.getElem?_set_ne hne]
  · intro v hv
    rcases List.mem_or_eq_of_mem_set hv with hv | rfl
    · exact h.rng v hv
    · omega
  · intro c
    rw [hPS]
    by_cases e : ch s p = c
    · subst e; rw [if_pos rfl]; exact hnd
    · rw [if_neg e, List.append_nil]; exact h.nd c
  · intro c hcm j h1 h2 h3
    rw [hPS, List.length_append]
    by_cases hj : j = i
    · subst hj
      have := hr c hcm h2 h3
      omega
    · have := h.comp c hcm j (by omega) h2 h3
      omega
end
theorem InvS.init {s : List Nat} {mx : Nat} {sa at_ : List Int} (hG : GreatOk s mx sa) (hmx : ∀ x ∈ s, x ≤ mx) (halen : at_.length = mx + 2) (hat : ∀ c, c ≤ mx → at_[c + 1]? = some (gB s (c + 1) : Int)) : InvS s mx sa s.length sa at_ := by
  have e : seenS s.length sa = [] := by unfold seenS; rw [List.drop_of_length_le (by rw [hG.len]; exact Nat.le_refl _)]; rfl
  have htot := gB_total s mx hmx
  refine ⟨hG.len, halen, ?_, ?_, fun _ _ _ _ _ => rfl, hG.rng, ?_, ?_⟩
  · intro c hc; rw [hat c hc, e]; simp [PS]
  · intro c hc j p hp; rw [e] at hp; simp [PS] at hp
  · intro c; rw [e]; simp [PS]
  · intro c hc j h1 h2 h3
    have := gB_mono s (show c + 1 ≤ mx + 1 by omega)
    omega

/-! The order that comes out -/
/-- The array behind the three passes. -/
structure Induced (s : List Nat) (mx : Nat) (M : List Nat) (A : List Int) : Prop where
  out : ∃ sa0 at0 at_, InvL s mx M s.length sa0 at0 ∧ InvS s mx sa0 0 A at_
section
variable {s : List Nat} {mx : Nat} {M : List Nat} {A : List Int}
theorem Induced.kind (h : Induced s mx M A) (hM : MarksOk s M) (hmx : ∀ x ∈ s, x ≤ mx) {k : Nat} (hk : k < s.length) : ∃ v : Nat, A[k]? = some (v : Int) ∧ v < s.length := by
  obtain ⟨sa0, at0, at_, h1, h2⟩ := h.out
  obtain ⟨v, a, b, _⟩ := h2.kind (h1.great hM hmx) hmx hk (fun c hc => h2.comp c hc k (by omega))
  exact ⟨v, a, b⟩
theorem Induced.inj (h : Induced s mx M A) (hM : MarksOk s M) (hmx : ∀ x ∈ s, x ≤ mx) {k l v : Nat} (hk : A[k]? = some (v : Int)) (hl : A[l]? = some (v : Int)) : k = l := by
  obtain ⟨sa0, at0, at_, h1, h2⟩ := h.out
  exact h2.inj (h1.great hM hmx) hmx hk hl (fun c hc => h2.comp c hc k (by omega)) (fun c hc => h2.comp c hc l (by omega))
theorem Induced.len (h : Induced s mx M A) : A.length = s.length := by
  obtain ⟨sa0, at0, at_, h1, h2⟩ := h.out
  exact h2.len
/-- The order, as places. -/
theorem Induced.perm (h : Induced s mx M A) (hM : MarksOk s M) (hmx : ∀ x ∈ s, x ≤ mx) : ∃ T : List Nat, A = T.map Int.ofNat ∧ T.Perm (List.range s.length) := by
  have hnn : ∀ v ∈ A, 0 ≤ v ∧ v < (s.length : Int) := by
    intro v hv
    obtain ⟨k, hk⟩ := List.mem_iff_getElem?.1 hv
    obtain ⟨u, h1, h2⟩ := h.kind hM hmx (k := k) (by rw [← h.len]; exact (List.getElem?_eq_some_iff.1 hk).1)
    rw [hk] at h1
    simp at h1
    omega
  refine ⟨A.map Int.toNat, ?_, ?_⟩
  · rw [List.map_map]
    symm
    have : A.map (Int.ofNat ∘ Int.toNat) = A.map id := by
      apply List.map_congr_left
      intro v hv
      have := hnn v hv
      simp only [Function.comp, id]
      exact Int.toNat_of_nonneg this.1
    rw [this, List.map_id]
  · have hnd : (A.map Int.toNat).Nodup := by
      rw [List.nodup_iff_pairwise_ne, List.pairwise_iff_getElem]
      intro i j hi hj hij e
      rw [List.getElem_map, List.getElem_map] at e
      have hi' : i < A.length := by simpa using hi
      have hj' : j < A.length := by simpa using hj
      have h1 := hnn A[i] (List.getElem_mem _)
      have h2 := hnn A[j] (List.getElem_mem _)
      have h3 : A[i]? = some ((A[i].toNat : Nat) : Int) := by rw [List.getElem?_eq_getElem hi']; congr 1; omega
      have h4 : A[j]? = some ((A[i].toNat : Nat) : Int) := by rw [List.getElem?_eq_getElem hj']; congr 1; omega
      have := h.inj hM hmx h3 h4
      omega
    have hsub : A.map Int.toNat ⊆ List.range s.length := by
      intro x hx
      obtain ⟨v, hv, rfl⟩ := List.mem_map.1 hx
      have := hnn v hv
      simp
      omega
    have hfull := full_of_len hnd List.nodup_range hsub (by rw [List.length_range, List.length_map, h.len]; exact Nat.le_refl _)
    rw [List.perm_ext_iff_of_nodup hnd List.nodup_range]
    exact fun a => ⟨fun x => hsub x, fun x => hfull x⟩
/-- Keys of suffixes: K of all, K' of what follows on one. -/
def code (s : List Nat) (i : Nat) : Nat := 2 * ch s i + (sm s i).toNat
structure Keys (s M : List Nat) (K K' : Nat → List Nat) : Prop where
  cons : ∀ j, j < s.length → K j = code s j :: K' (j + 1)
  same : ∀ j, lms s j = false → K' j = K j
  nil : K' s.length = []
  head : ∀ j, j < s.length → ∃ t, K' j = code s j :: t
  marks : ∀ (i j a b : Nat), M[i]? = some a → M[j]? = some b → i < j → ch s a = ch s b → lexle (K' a) (K' b)
theorem code_lt_of_ch {s : List Nat} {u v : Nat} (h : ch s u < ch s v) : code s u < code s v := by
  unfold code
  cases sm s u <;> cases sm s v <;> simp <;> omega
theorem code_lt_of_kind {s : List Nat} {u v : Nat} (h : ch s u = ch s v) (hu : sm s u = false) (hv : sm s v = true) : code s u < code s v := by
  unfold code
  rw [hu, hv, h]
  simp
theorem filter_order (l : List Nat) (p : Nat → Bool) : ∀ (i j a b : Nat), (l.filter p)[i]? = some a → (l.filter p)[j]? = some b → i < j → ∃ (i' j' : Nat), i' < j' ∧ l[i']? = some a ∧ l[j']? = some b := by
  induction l with
  | nil => intro i j a b h; simp at h
  | cons x l ih =>
    intro i j a b h1 h2 hij
    rw [List.filter_cons] at h1 h2
    split at h1
    · rename_i hx
      rw [if_pos hx] at h2
      cases j with
      | zero => omega
      | succ j =>
        rw [List.getElem?_cons_succ] at h2
        cases i with
        | zero =>
          simp at h1
          subst h1
          obtain ⟨j', hj'⟩ := List.mem_iff_getElem?.1 ((List.filter_sublist (p := p) (l := l)).subset (List.mem_of_getElem? h2))
          exact ⟨0, j' + 1, by omega, rfl, hj'⟩
        | succ i =>
          rw [List.getElem?_cons_succ] at h1
          obtain ⟨i', j', h3, h4, h5⟩ := ih i j a b h1 h2 (by omega)
          exact ⟨i' + 1, j' + 1, by omega, h4, h5⟩
    · rename_i hx
      rw [if_neg hx] at h2
      obtain ⟨i', j', h3, h4, h5⟩ := ih i j a b h1 h2 hij
      exact ⟨i' + 1, j' + 1, by omega, h4, h5⟩
theorem filterMap_order {α β : Type} (f : α → Option β) (l : List α) : ∀ (i j : Nat) (a b : β), (l.filterMap f)[i]? = some a → (l.filterMap f)[j]? = some b → i < j → ∃ (i' j' : Nat) (x y : α), i' < j' ∧ l[i']? = some x ∧ l[j']? = some y ∧ f x = some a ∧ f y = some b := by
  induction l with
  | nil => intro i j a b h; simp at h
  | cons x l ih =>
    intro i j a b h1 h2 hij
    cases hx : f x with
    | none =>
      rw [List.filterMap_cons_none hx] at h1 h2
      obtain ⟨i', j', u, v, h3, h4, h5, h6⟩ := ih i j a b h1 h2 hij
      exact ⟨i' + 1, j' + 1, u, v, by omega, h4, h5, h6⟩
    | some y =>
      rw [List.filterMap_cons_some hx] at h1 h2
      cases j with
      | zero => omega
      | succ j =>
        rw [List.getElem?_cons_succ] at h2
        cases i with
        | zero =>
          simp at h1
          subst h1
          obtain ⟨v, hv1, hv2⟩ := List.mem_filterMap.1 (List.mem_of_getElem? h2)
          obtain ⟨j', hj'⟩ := List.mem_iff_getElem?.1 hv1
          exact ⟨0, j' + 1, x, v, by omega, rfl, hj', hx, hv2⟩
        | succ i =>
          rw [List.getElem?_cons_succ] at h1
          obtain ⟨i', j', u, v, h3, h4, h5, h6⟩ := ih i j a b h1 h2 (by omega)
          exact ⟨i' + 1, j' + 1, u, v, by omega, h4, h5, h6⟩
theorem predL_some {s : List Nat} {c : Nat} {v : Int} {p : Nat} (h : predL s c v = some p) : v = (p : Int) + 1 ∧ sm s p = false ∧ ch s p = c := by
  unfold predL at h
  split at h
  · rename_i h1
    simp at h
    obtain ⟨h1, h2, h3⟩ := h1
    have : v = (p : Int) + 1 := by omega
    subst this
    rw [show ((p : Int) + 1).toNat - 1 = p from by omega] at h2 h3
    exact ⟨rfl, h2, h3⟩
  · cases h
theorem predS_some {s : List Nat} {c : Nat} {v : Int} {p : Nat} (h : predS s c v = some p) : v = (p : Int) + 1 ∧ sm s p = true ∧ ch s p = c := by
  unfold predS at h
  split at h
  · rename_i h1
    simp at h
    obtain ⟨h1, h2, h3⟩ := h1
    have : v = (p : Int) + 1 := by omega
    subst this
    rw [show ((p : Int) + 1).toNat - 1 = p from by omega] at h2 h3
    exact ⟨rfl, h2, h3⟩
  · cases h
theorem InvL.sorted {sa at_ : List Int} (h : InvL s mx M s.length sa at_) (hM : MarksOk s M) (hmx : ∀ x ∈ s, x ≤ mx) {K K' : Nat → List Nat} (hK : Keys s M K K') :
    ∀ d (u v a b : Nat), u + d = s.length → a < b → sa[a]? = some (u : Int) → sa[b]? = some (v : Int) → lexle (K' u) (K' v) := by
  intro d
  induction d with
  | zero =>
    intro u v a b hd hab ha hb
    have := (h.kind hM hmx ha).1
    omega
  | succ d ih =>
    intro u v a b hd hab ha hb
    obtain ⟨u1, u2, u3, u4, u5⟩ := h.kind hM hmx ha
    obtain ⟨v1, v2, v3, v4, v5⟩ := h.kind hM hmx hb
    obtain ⟨tu, hu⟩ := hK.head u u1
    obtain ⟨tv, hv⟩ := hK.head v v1
    have hchs : ch s u ≤ ch s v := by
      rcases Nat.lt_or_ge (ch s v) (ch s u) with h1 | h1
      · have := gB_mono s (show ch s v + 1 ≤ ch s u from h1); omega
      · exact h1
    by_cases hc : ch s u = ch s v
    · rcases u5 with ⟨a1, a2, a3⟩ | ⟨a1, a4, a2, a3⟩ <;> rcases v5 with ⟨b1, b2, b3⟩ | ⟨b1, b4, b2, b3⟩
      · rw [hK.same u (by simp [lms, a1]), hK.same v (by simp [lms, b1]), hK.cons u u1, hK.cons v v1]
        have hcode : code s u = code s v := by unfold code; rw [a1, b1, hc]
        rw [hcode]
        apply lexle_cons
        rw [← hc] at b3
        obtain ⟨i', j', x, y, hij, hx, hy, fx, fy⟩ := filterMap_order _ _ _ _ _ _ a3 b3 (by rw [← hc] at v3; omega)
        obtain ⟨rfl, _, _⟩ := predL_some fx
        obtain ⟨rfl, _, _⟩ := predL_some fy
        unfold seenL at hx hy
        rw [List.take_of_length_le (by rw [h.len]; exact Nat.le_refl _)] at hx hy
        cases j' with
        | zero => omega
        | succ j' =>
          rw [List.getElem?_cons_succ] at hy
          cases i' with
          | zero =>
            simp at hx
            have : u + 1 = s.length := by omega
            rw [this, hK.nil]
            exact lexle_nil _
          | succ i' =>
            rw [List.getElem?_cons_succ] at hx
            exact ih (u + 1) (v + 1) i' j' (by omega) (by omega) (by simpa using hx) (by simpa using hy)
      · rw [hu, hv]
        exact lexle_head (code_lt_of_kind hc a1 b1) _ _
      · exfalso
        rw [hc] at a2
        have h1 := h.le (ch s v)
        unfold lB at a2
        omega
      · rw [← hc] at b3
        obtain ⟨i', j', hij, hx, hy⟩ := filter_order M _ _ _ _ _ a3 b3 (by rw [← hc] at b2; omega)
        exact hK.marks i' j' u v hx hy hij hc
    · rw [hu, hv]
      exact lexle_head (code_lt_of_ch (by omega)) _ _
/-- What stands ahead is not behind, by keys. -/
theorem Induced.sorted (h : Induced s mx M A) (hM : MarksOk s M) (hmx : ∀ x ∈ s, x ≤ mx) {K K' : Nat → List Nat} (hK : Keys s M K K') :
    ∀ d (u v a b : Nat), u + d = s.length → a < b → A[a]? = some (u : Int) → A[b]? = some (v : Int) → lexle (K u) (K v) := by
  obtain ⟨sa0, at0, at_, hL, hS⟩ := h.out
  have hG := hL.great hM hmx
  have hkind : ∀ {k v : Nat}, A[k]? = some (v : Int) → v < s.length ∧ gB s (ch s v) ≤ k ∧ k < gB s (ch s v + 1) ∧
      ((sm s v = false ∧ k < lB s (ch s v) ∧ sa0[k]? = some (v : Int)) ∨ (sm s v = true ∧ lB s (ch s v) ≤ k ∧ gB s (ch s v + 1) ≤ k + (PS s (ch s v) (seenS 0 A)).length ∧ (PS s (ch s v) (seenS 0 A))[gB s (ch s v + 1) - 1 - k]? = some v)) := by
    intro k v hv
    obtain ⟨u, a1, a2⟩ := hS.kind hG hmx (k := k) (by rw [← hS.len]; exact (List.getElem?_eq_some_iff.1 hv).1) (fun c hc => hS.comp c hc k (by omega))
    rw [hv] at a1
    simp at a1
    obtain rfl : v = u := by omega
    exact a2
  intro d
  induction d with
  | zero =>
    intro u v a b hd hab ha hb
    have := (hkind ha).1
    omega
  | succ d ih =>
    intro u v a b hd hab ha hb
    obtain ⟨u1, u3, u4, u5⟩ := hkind ha
    obtain ⟨v1, v3, v4, v5⟩ := hkind hb
    have hchs : ch s u ≤ ch s v := by
      rcases Nat.lt_or_ge (ch s v) (ch s u) with h1 | h1
      · have := gB_mono s (show ch s v + 1 ≤ ch s u from h1); omega
      · exact h1
    by_cases hc : ch s u = ch s v
    · rcases u5 with ⟨a1, a2, a3⟩ | ⟨a1, a2, a3, a4⟩ <;> rcases v5 with ⟨b1, b2, b3⟩ | ⟨b1, b2, b3, b4⟩
      · have := hL.sorted hM hmx hK (d + 1) u v a b hd hab a3 b3
        rwa [hK.same u (by simp [lms, a1]), hK.same v (by simp [lms, b1])] at this
      · rw [hK.cons u u1, hK.cons v v1]
        exact lexle_head (code_lt_of_kind hc a1 b1) _ _
      · exfalso
        rw [hc] at a2
        omega
      · rw [hK.cons u u1, hK.cons v v1]
        have hcode : code s u = code s v := by unfold code; rw [a1, b1, hc]
        rw [hcode]
        apply lexle_cons
        rw [← hc] at b4 v4
        obtain ⟨i', j', x, y, hij, hx, hy, fx, fy⟩ := filterMap_order _ _ _ _ _ _ b4 a4 (by omega)
        obtain ⟨rfl, _, _⟩ := predS_some fx
        obtain ⟨rfl, _, _⟩ := predS_some fy
        have su := sm_true s u a1
        have sv := sm_true s v b1
        rw [hK.same (u + 1) (by simp [lms, a1]), hK.same (v + 1) (by simp [lms, b1])]
        unfold seenS at hx hy
        rw [List.drop_zero] at hx hy
        have hil := (List.getElem?_eq_some_iff.1 hx).1
        have hjl := (List.getElem?_eq_some_iff.1 hy).1
        rw [List.length_reverse] at hil hjl
        rw [List.getElem?_reverse hil] at hx
        rw [List.getElem?_reverse hjl] at hy
        exact ih (u + 1) (v + 1) (A.length - 1 - j') (A.length - 1 - i') (by omega) (by omega) (by simpa using hy) (by simpa using hx)
    · rw [hK.cons u u1, hK.cons v v1]
      exact lexle_head (code_lt_of_ch (by omega)) _ _
end
end Go.Proofs.Ytdhnmcdgiddhdaa
