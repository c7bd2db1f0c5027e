/-
  Texts joined: PureSaisC, Suf, SufInd, SufNames.
-/
import Derived.Test.YtdhnmcdgiddhdaaEg6
import Derived.Test.YtdhnmcdgiddhdaaEg1
import Derived.Test.YtdhnmcdgiddhdaaEg5
import Derived.WalkMore
/-
  Induced sorting, plain: the two kinds of keys, names of pieces, and that the marks' order comes out of the names'.
-/
set_option linter.unusedVariables false
set_option linter.unusedSimpArgs false
namespace Go.Proofs.Ytdhnmcdgiddhdaa

/-! Whole suffixes as keys -/
def fullK (s : List Nat) (j : Nat) : List Nat := ((List.range s.length).map (code s)).drop j
theorem fullK_cons (s : List Nat) (j : Nat) (h : j < s.length) : fullK s j = code s j :: fullK s (j + 1) := by
  unfold fullK
  rw [List.drop_eq_getElem_cons (by simpa using h)]
  simp
theorem fullK_nil (s : List Nat) (j : Nat) (h : s.length ≤ j) : fullK s j = [] := List.drop_of_length_le (by simpa using h)
theorem fullK_len (s : List Nat) (j : Nat) : (fullK s j).length = s.length - j := by simp [fullK]
theorem fullK_inj (s : List Nat) (i j : Nat) (hi : i ≤ s.length) (hj : j ≤ s.length) (h : fullK s i = fullK s j) : i = j := by
  have := congrArg List.length h
  rw [fullK_len, fullK_len] at this
  omega
theorem drop_ch (s : List Nat) (i : Nat) (h : i < s.length) : s.drop i = ch s i :: s.drop (i + 1) := by
  rw [List.drop_eq_getElem_cons h]
  congr 1
  unfold ch
  rw [List.getD_eq_getElem?_getD, List.getElem?_eq_getElem h]
  rfl
/-- Of two suffixes that begin alike the great one is less than the small one. -/
theorem kinds_lt (s : List Nat) : ∀ d i j, i + d = s.length → j < s.length → ch s i = ch s j → sm s i = false → sm s j = true → i < s.length → lexlt (s.drop i) (s.drop j) = true
  | 0, i, j, hd, _, _, _, _, hi => by omega
  | d + 1, i, j, hd, hj, hc, hi, hjs, hil => by
    obtain ⟨j1, j2⟩ := sm_true s j hjs
    rw [drop_ch s i hil, drop_ch s j hj, lexlt_cons]
    refine .inr ⟨hc, ?_⟩
    rcases Nat.lt_or_ge (i + 1) s.length with h1 | h1
    · rw [drop_ch s (i + 1) h1, drop_ch s (j + 1) j1, lexlt_cons]
      rcases sm_false s i hi h1 with h2 | ⟨h2, h3⟩
      · left; rcases j2 with h4 | ⟨h4, _⟩ <;> omega
      · rcases j2 with h4 | ⟨h4, h5⟩
        · left; omega
        · right
          have h6 : ch s (i + 1) = ch s (j + 1) := by omega
          refine ⟨h6, ?_⟩
          have := kinds_lt s d (i + 1) (j + 1) (by omega) j1 h6 h3 h5 h1
          rw [drop_ch s (i + 1) h1, drop_ch s (j + 1) j1, lexlt_cons] at this
          rcases this with h7 | h7
          · omega
          · exact h7.2
    · rw [List.drop_of_length_le h1, drop_ch s (j + 1) j1]
      rfl
theorem code_eq {s : List Nat} {i j : Nat} (h : code s i = code s j) : ch s i = ch s j ∧ sm s i = sm s j := by
  unfold code at h
  cases hi : sm s i <;> cases hj : sm s j <;> rw [hi, hj] at h <;> simp at h <;> first | exact ⟨by omega, rfl⟩ | (exfalso; omega)
theorem code_lt {s : List Nat} {i j : Nat} (h : code s i < code s j) : ch s i < ch s j ∨ ch s i = ch s j ∧ sm s i = false ∧ sm s j = true := by
  unfold code at h
  cases hi : sm s i <;> cases hj : sm s j <;> rw [hi, hj] at h <;> simp at h <;> first | (left; omega) | (rcases Nat.lt_or_ge (ch s i) (ch s j) with h1 | h1; exact .inl h1; right; exact ⟨by omega, rfl, rfl⟩)
theorem full_raw (s : List Nat) : ∀ d i j, i + d = s.length → j ≤ s.length → lexlt (fullK s i) (fullK s j) = true → lexlt (s.drop i) (s.drop j) = true
  | d, i, j, hd, hj, h => by
    rcases Nat.lt_or_ge j s.length with h1 | h1
    · rcases Nat.lt_or_ge i s.length with h2 | h2
      · rw [fullK_cons s i h2, fullK_cons s j h1, lexlt_cons] at h
        rw [drop_ch s i h2, drop_ch s j h1, lexlt_cons]
        rcases h with h | ⟨h, h3⟩
        · rcases code_lt h with h4 | ⟨h4, h5, h6⟩
          · exact .inl h4
          · have := kinds_lt s d i j hd h1 h4 h5 h6 h2
            rw [drop_ch s i h2, drop_ch s j h1, lexlt_cons] at this
            exact this
        · obtain ⟨d, rfl⟩ : ∃ k, d = k + 1 := ⟨d - 1, by omega⟩
          exact .inr ⟨(code_eq h).1, full_raw s d (i + 1) (j + 1) (by omega) h1 h3⟩
      · rw [List.drop_of_length_le h2, drop_ch s j h1]
        rfl
    · rw [fullK_nil s j h1, lexlt_nil] at h
      cases h

/-! An order of suffixes -/
structure IsSA (s : List Nat) (T : List Nat) : Prop where
  perm : T.Perm (List.range s.length)
  sorted : T.Pairwise fun u v => lexlt (s.drop u) (s.drop v) = true
theorem IsSA.unique {s T U : List Nat} (h : IsSA s T) (h' : IsSA s U) : T = U := by
  refine List.Perm.eq_of_pairwise (le := fun u v => lexlt (s.drop u) (s.drop v) = true) ?_ h.sorted h'.sorted (h.perm.trans h'.perm.symm)
  intro a b _ _ h1 h2
  have := lexlt_asymm _ _ h1
  rw [this] at h2
  cases h2
theorem Keys.full {s M : List Nat} (hM : ∀ (i j a b : Nat), M[i]? = some a → M[j]? = some b → i < j → ch s a = ch s b → lexle (fullK s a) (fullK s b)) : Keys s M (fullK s) (fullK s) :=
  ⟨fun j hj => fullK_cons s j hj, fun _ _ => rfl, fullK_nil s _ (Nat.le_refl _), fun j hj => ⟨_, fullK_cons s j hj⟩, hM⟩
theorem Induced.isSA {s : List Nat} {mx : Nat} {M : List Nat} {A : List Int} (h : Induced s mx M A) (hM : MarksOk s M) (hmx : ∀ x ∈ s, x ≤ mx)
    (hs : ∀ (i j a b : Nat), M[i]? = some a → M[j]? = some b → i < j → ch s a = ch s b → lexle (fullK s a) (fullK s b)) : ∃ T : List Nat, A = T.map Int.ofNat ∧ IsSA s T := by
  obtain ⟨T, rfl, hT⟩ := h.perm hM hmx
  refine ⟨T, rfl, hT, ?_⟩
  have hnd : T.Nodup := (List.Perm.nodup_iff hT).2 List.nodup_range
  rw [List.pairwise_iff_getElem]
  intro i j hi hj hij
  have h1 : (T.map Int.ofNat)[i]? = some ((T[i] : Nat) : Int) := by simp [hi]
  have h2 : (T.map Int.ofNat)[j]? = some ((T[j] : Nat) : Int) := by simp [hj]
  have hu : T[i] < s.length := by have := hT.subset (List.getElem_mem hi); simpa using this
  have hv : T[j] < s.length := by have := hT.subset (List.getElem_mem hj); simpa using this
  have h3 := h.sorted hM hmx (Keys.full hs) (s.length - T[i]) T[i] T[j] i j (by omega) hij h1 h2
  rcases (lexle_iff _ _).1 h3 with h4 | h4
  · have := fullK_inj s _ _ (by omega) (by omega) h4
    have := (List.getElem_inj hnd).1 this
    omega
  · exact full_raw s (s.length - T[i]) T[i] T[j] (by omega) (by omega) h4

/-! Pieces as keys -/
def preF (s : List Nat) : Nat → Nat → List Nat
  | 0, _ => []
  | d + 1, j => if lms s j then [code s j] else code s j :: preF s d (j + 1)
def preK' (s : List Nat) (j : Nat) : List Nat := preF s (s.length - j) j
def preK (s : List Nat) (j : Nat) : List Nat := if j < s.length then code s j :: preK' s (j + 1) else []
theorem preK'_nil (s : List Nat) (j : Nat) (h : s.length ≤ j) : preK' s j = [] := by unfold preK'; rw [show s.length - j = 0 from by omega]; rfl
theorem preK'_at (s : List Nat) (j : Nat) (h : j < s.length) : preK' s j = if lms s j then [code s j] else code s j :: preK' s (j + 1) := by
  unfold preK'
  rw [show s.length - j = (s.length - (j + 1)) + 1 from by omega, preF]
theorem preK_at (s : List Nat) (j : Nat) (h : j < s.length) : preK s j = code s j :: preK' s (j + 1) := by unfold preK; rw [if_pos h]
theorem lms_lt {s : List Nat} {i : Nat} (h : lms s i = true) : i + 1 < s.length := (sm_true s i (lms_sm h)).1
theorem preK'_lms (s : List Nat) (j : Nat) (h : lms s j = true) : preK' s j = [code s j] := by rw [preK'_at s j (by have := lms_lt h; omega), if_pos h]
theorem preK'_not (s : List Nat) (j : Nat) (h : lms s j = false) : preK' s j = preK s j := by
  rcases Nat.lt_or_ge j s.length with h1 | h1
  · rw [preK'_at s j h1, preK_at s j h1, if_neg (by simp [h])]
  · rw [preK'_nil s j h1]; unfold preK; rw [if_neg (by omega)]
theorem preK'_head (s : List Nat) (j : Nat) (h : j < s.length) : ∃ t, preK' s j = code s j :: t := by
  rw [preK'_at s j h]
  split
  · exact ⟨_, rfl⟩
  · exact ⟨_, rfl⟩
theorem Keys.pre {s M : List Nat} (hM : MarksOk s M) : Keys s M (preK s) (preK' s) := by
  refine ⟨fun j hj => preK_at s j hj, fun j hj => preK'_not s j hj, preK'_nil s _ (Nat.le_refl _), fun j hj => preK'_head s j hj, ?_⟩
  intro i j a b ha hb _ hc
  have h1 := (hM.mem a).1 (List.mem_of_getElem? ha)
  have h2 := (hM.mem b).1 (List.mem_of_getElem? hb)
  rw [preK'_lms s a h1.2, preK'_lms s b h2.2]
  have : code s a = code s b := by unfold code; rw [lms_sm h1.2, lms_sm h2.2, hc]
  rw [this]
  exact lexle_refl _
/-- The next mark behind a place, or the end. -/
def nxF (s : List Nat) : Nat → Nat → Nat
  | 0, j => j
  | d + 1, j => if lms s j then j else nxF s d (j + 1)
def nx (s : List Nat) (a : Nat) : Nat := nxF s (s.length - (a + 1)) (a + 1)
theorem nxF_spec (s : List Nat) : ∀ d j, j + d = s.length → j ≤ nxF s d j ∧ nxF s d j ≤ s.length ∧ (∀ i, j ≤ i → i < nxF s d j → lms s i = false) ∧ (nxF s d j < s.length → lms s (nxF s d j) = true)
  | 0, j, h => ⟨Nat.le_refl _, by show j ≤ _; omega, fun i h1 h2 => by have : nxF s 0 j = j := rfl; omega, fun h1 => by have : nxF s 0 j = j := rfl; omega⟩
  | d + 1, j, h => by
    rw [nxF]
    cases hl : lms s j with
    | true => exact ⟨Nat.le_refl _, by simp; omega, fun i h1 h2 => by simp at h2; omega, fun _ => hl⟩
    | false =>
      obtain ⟨h1, h2, h3, h4⟩ := nxF_spec s d (j + 1) (by omega)
      simp only [Bool.false_eq_true, if_false]
      refine ⟨by omega, h2, fun i h5 h6 => ?_, h4⟩
      by_cases e : i = j
      · subst e; exact hl
      · exact h3 i (by omega) h6
theorem nx_step (s : List Nat) (a : Nat) (h : a + 1 < s.length) : nx s a = if lms s (a + 1) then a + 1 else nx s (a + 1) := by
  unfold nx
  rw [show s.length - (a + 1) = (s.length - (a + 1 + 1)) + 1 from by omega, nxF]
theorem nx_end (s : List Nat) (a : Nat) (h : a + 1 = s.length) : nx s a = a + 1 := by
  unfold nx
  rw [show s.length - (a + 1) = 0 from by omega]
  rfl
theorem lms_of_codes {s : List Nat} {a b : Nat} (h0 : code s a = code s b) (h1 : code s (a + 1) = code s (b + 1)) : lms s (a + 1) = lms s (b + 1) := by
  rw [lms_succ, lms_succ, (code_eq h0).2, (code_eq h1).2]
/-- Pieces that stand one ahead of the other: so do the suffixes. -/
theorem pre_full_lt (s : List Nat) : ∀ d a b, a + d = s.length → a < s.length → b < s.length → lexlt (preK s a) (preK s b) = true → lexlt (fullK s a) (fullK s b) = true
  | 0, a, b, hd, ha, _, _ => by omega
  | d + 1, a, b, hd, ha, hb, h => by
    rw [preK_at s a ha, preK_at s b hb, lexlt_cons] at h
    rw [fullK_cons s a ha, fullK_cons s b hb, lexlt_cons]
    rcases h with h | ⟨h0, h⟩
    · exact .inl h
    · refine .inr ⟨h0, ?_⟩
      rcases Nat.lt_or_ge (b + 1) s.length with hb1 | hb1
      · rcases Nat.lt_or_ge (a + 1) s.length with ha1 | ha1
        · cases hla : lms s (a + 1) with
          | true =>
            rw [preK'_lms s _ hla] at h
            cases hlb : lms s (b + 1) with
            | true =>
              rw [preK'_lms s _ hlb, lexlt_cons] at h
              rw [fullK_cons s _ ha1, fullK_cons s _ hb1, lexlt_cons]
              rcases h with h | ⟨_, h⟩
              · exact .inl h
              · cases h
            | false =>
              rw [preK'_not s _ hlb, preK_at s _ hb1, lexlt_cons] at h
              rw [fullK_cons s _ ha1, fullK_cons s _ hb1, lexlt_cons]
              rcases h with h | ⟨h, _⟩
              · exact .inl h
              · have := lms_of_codes h0 h
                rw [hla, hlb] at this
                cases this
          | false =>
            rw [preK'_not s _ hla] at h
            cases hlb : lms s (b + 1) with
            | true =>
              rw [preK'_lms s _ hlb, preK_at s _ ha1, lexlt_cons, lexlt_nil] at h
              rw [fullK_cons s _ ha1, fullK_cons s _ hb1, lexlt_cons]
              rcases h with h | ⟨_, h⟩
              · exact .inl h
              · cases h
            | false =>
              rw [preK'_not s _ hlb] at h
              exact pre_full_lt s d (a + 1) (b + 1) (by omega) ha1 hb1 h
        · rw [fullK_nil s _ ha1, fullK_cons s _ hb1]
          rfl
      · rw [preK'_nil s _ hb1, lexlt_nil] at h
        cases h
/-- The same piece: what follows decides. -/
theorem pre_full_eq (s : List Nat) : ∀ d a b, a + d = s.length → a < s.length → b < s.length → preK s a = preK s b → lexlt (fullK s (nx s a)) (fullK s (nx s b)) = true → lexlt (fullK s a) (fullK s b) = true
  | 0, a, b, hd, ha, _, _, _ => by omega
  | d + 1, a, b, hd, ha, hb, h, hn => by
    rw [preK_at s a ha, preK_at s b hb, List.cons.injEq] at h
    obtain ⟨h0, h⟩ := h
    rw [fullK_cons s a ha, fullK_cons s b hb, lexlt_cons]
    refine .inr ⟨h0, ?_⟩
    rcases Nat.lt_or_ge (a + 1) s.length with ha1 | ha1
    · obtain ⟨ta, hta⟩ := preK'_head s (a + 1) ha1
      have hb1 : b + 1 < s.length := by
        rcases Nat.lt_or_ge (b + 1) s.length with hb1 | hb1
        · exact hb1
        · rw [preK'_nil s _ hb1, hta] at h; cases h
      obtain ⟨tb, htb⟩ := preK'_head s (b + 1) hb1
      have h1 : code s (a + 1) = code s (b + 1) := by rw [hta, htb] at h; exact (List.cons.inj h).1
      have hl := lms_of_codes h0 h1
      rw [nx_step s a ha1, nx_step s b hb1, ← hl] at hn
      cases hla : lms s (a + 1) with
      | true => rw [hla] at hn; exact hn
      | false =>
        rw [hla] at hn hl
        rw [preK'_not s _ hla, preK'_not s _ hl.symm] at h
        exact pre_full_eq s d (a + 1) (b + 1) (by omega) ha1 hb1 h hn
    · have hb1 : s.length ≤ b + 1 := by
        rcases Nat.lt_or_ge (b + 1) s.length with hb1 | hb1
        · obtain ⟨tb, htb⟩ := preK'_head s (b + 1) hb1
          rw [preK'_nil s _ ha1, htb] at h; cases h
        · exact hb1
      rw [nx_end s a (by omega), nx_end s b (by omega), fullK_nil s _ hb1, lexlt_nil] at hn
      cases hn

/-! When two pieces are the same -/
theorem pre_same (s : List Nat) : ∀ e a b, a + e = s.length → a < s.length → b < s.length → a ≠ b → preK s a = preK s b → ∃ d, nx s a = a + d ∧ nx s b = b + d ∧ 1 ≤ d ∧ nx s a < s.length ∧ nx s b < s.length ∧ ∀ k, k ≤ d → ch s (a + k) = ch s (b + k)
  | 0, a, b, hd, ha, _, _, _ => by omega
  | e + 1, a, b, hd, ha, hb, hne, h => by
    rw [preK_at s a ha, preK_at s b hb, List.cons.injEq] at h
    obtain ⟨h0, h⟩ := h
    rcases Nat.lt_or_ge (a + 1) s.length with ha1 | ha1
    · obtain ⟨ta, hta⟩ := preK'_head s (a + 1) ha1
      have hb1 : b + 1 < s.length := by
        rcases Nat.lt_or_ge (b + 1) s.length with hb1 | hb1
        · exact hb1
        · rw [preK'_nil s _ hb1, hta] at h; cases h
      obtain ⟨tb, htb⟩ := preK'_head s (b + 1) hb1
      have h1 : code s (a + 1) = code s (b + 1) := by rw [hta, htb] at h; exact (List.cons.inj h).1
      have hl := lms_of_codes h0 h1
      rw [nx_step s a ha1, nx_step s b hb1, ← hl]
      cases hla : lms s (a + 1) with
      | true =>
        refine ⟨1, by simp, by simp, Nat.le_refl _, by simpa using ha1, by simpa using hb1, ?_⟩
        intro k hk
        have : k = 0 ∨ k = 1 := by omega
        rcases this with rfl | rfl
        · exact (code_eq h0).1
        · exact (code_eq h1).1
      | false =>
        rw [hla] at hl
        rw [preK'_not s _ hla, preK'_not s _ hl.symm] at h
        obtain ⟨d, d1, d2, d3, d4, d5, d6⟩ := pre_same s e (a + 1) (b + 1) (by omega) ha1 hb1 (by omega) h
        simp only [Bool.false_eq_true, if_false]
        refine ⟨d + 1, by omega, by omega, by omega, d4, d5, ?_⟩
        intro k hk
        cases k with
        | zero => exact (code_eq h0).1
        | succ k => have := d6 k (by omega); rwa [show a + 1 + k = a + (k + 1) from by omega, show b + 1 + k = b + (k + 1) from by omega] at this
    · exfalso
      rcases Nat.lt_or_ge (b + 1) s.length with hb1 | hb1
      · obtain ⟨tb, htb⟩ := preK'_head s (b + 1) hb1
        rw [preK'_nil s _ ha1, htb] at h; cases h
      · omega
theorem same_pre (s : List Nat) (a b d : Nat) (h1 : nx s a = a + d) (h2 : nx s b = b + d) (h3 : nx s a < s.length) (h4 : nx s b < s.length) (hc : ∀ k, k ≤ d → ch s (a + k) = ch s (b + k)) (ha : a < s.length) (hb : b < s.length) : preK s a = preK s b := by
  obtain ⟨a1, a2, a3, a4⟩ := nxF_spec s (s.length - (a + 1)) (a + 1) (by omega)
  obtain ⟨b1, b2, b3, b4⟩ := nxF_spec s (s.length - (b + 1)) (b + 1) (by omega)
  have hla : lms s (nx s a) = true := a4 h3
  have hlb : lms s (nx s b) = true := b4 h4
  have hd : 1 ≤ d := by have : a + 1 ≤ nx s a := a1; omega
  rw [h1] at hla h3
  rw [h2] at hlb h4
  have hsm : ∀ e k, k + e = d → sm s (a + k) = sm s (b + k) := by
    intro e
    induction e with
    | zero => intro k hk; obtain rfl : k = d := by omega
              rw [lms_sm hla, lms_sm hlb]
    | succ e ih =>
      intro k hk
      have h5 := ih (k + 1) (by omega)
      have h6 := hc k (by omega)
      have h7 := hc (k + 1) (by omega)
      rw [← Nat.add_assoc, ← Nat.add_assoc] at h5 h7
      rw [sm_step s (a + k) (by omega), sm_step s (b + k) (by omega), h5, h6, h7]
  have hcode : ∀ k, k ≤ d → code s (a + k) = code s (b + k) := by
    intro k hk
    unfold code
    rw [hc k hk, hsm (d - k) k (by omega)]
  have key : ∀ e k, k + e = d → 1 ≤ e → preK s (a + k) = preK s (b + k) := by
    intro e
    induction e with
    | zero => intro k _ h; omega
    | succ e ih =>
      intro k hk _
      rw [preK_at s (a + k) (by omega), preK_at s (b + k) (by omega), hcode k (by omega)]
      congr 1
      by_cases he : e = 0
      · subst he
        rw [show a + k + 1 = a + d from by omega, show b + k + 1 = b + d from by omega, preK'_lms s _ hla, preK'_lms s _ hlb, hcode d (Nat.le_refl _)]
      · rw [preK'_not s _ (a3 (a + k + 1) (by omega) (by show _ < nx s a; omega)), preK'_not s _ (b3 (b + k + 1) (by omega) (by show _ < nx s b; omega))]
        exact ih (k + 1) (by omega) (by omega)
  exact key d 0 (by omega) hd

/-! The marks, by their numbers -/
def marksP (s : List Nat) : List Nat := (List.range s.length).filter (lms s)
/-- How many marks stand ahead of a place. -/
def cntM (s : List Nat) (p : Nat) : Nat := ((List.range p).filter (lms s)).length
theorem marksP_ok (s : List Nat) : MarksOk s (marksP s) := ⟨List.Pairwise.filter _ List.nodup_range, fun m => by simp [marksP]⟩
theorem cntM_succ (s : List Nat) (p : Nat) : cntM s (p + 1) = cntM s p + (lms s p).toNat := by
  unfold cntM
  rw [List.range_succ, List.filter_append, List.length_append]
  congr 1
  cases h : lms s p <;> simp [h]
theorem cntM_mono (s : List Nat) {a b : Nat} (h : a ≤ b) : cntM s a ≤ cntM s b := by
  induction b with
  | zero => have : a = 0 := by omega
            subst this; exact Nat.le_refl _
  | succ b ih =>
    by_cases e : a = b + 1
    · subst e; exact Nat.le_refl _
    · have := ih (by omega)
      rw [cntM_succ]; omega
theorem filter_range_at (q : Nat → Bool) : ∀ (n a : Nat), a < n → q a = true → ((List.range n).filter q)[((List.range a).filter q).length]? = some a
  | 0, a, h, _ => by omega
  | n + 1, a, h, hq => by
    rw [List.range_succ, List.filter_append]
    by_cases e : a = n
    · subst e
      rw [List.getElem?_append_right (Nat.le_refl _), Nat.sub_self]
      simp [hq]
    · have h1 := filter_range_at q n a (by omega) hq
      rw [List.getElem?_append_left (List.getElem?_eq_some_iff.1 h1).1]
      exact h1
theorem marksP_at (s : List Nat) (a : Nat) (h : lms s a = true) : (marksP s)[cntM s a]? = some a := filter_range_at (lms s) s.length a (by have := lms_lt h; omega) h
theorem marksP_idx (s : List Nat) (k a : Nat) (h : (marksP s)[k]? = some a) : a < s.length ∧ lms s a = true ∧ cntM s a = k := by
  have h1 := ((marksP_ok s).mem a).1 (List.mem_of_getElem? h)
  exact ⟨h1.1, h1.2, nodup_at (marksP_ok s).nd (marksP_at s a h1.2) h⟩
theorem marksP_len (s : List Nat) : (marksP s).length = cntM s s.length := rfl
theorem marksP_lt (s : List Nat) (h : 1 ≤ s.length) : (marksP s).length < s.length := by
  have h1 : 0 ∉ marksP s := by intro h; have := ((marksP_ok s).mem 0).1 h; simp [lms] at this
  have h2 : (0 :: marksP s).Nodup := List.nodup_cons.2 ⟨h1, (marksP_ok s).nd⟩
  have h3 : (0 :: marksP s) ⊆ List.range s.length := by
    intro x hx
    rcases List.mem_cons.1 hx with rfl | hx
    · simp; omega
    · have := ((marksP_ok s).mem x).1 hx
      simpa using this.1
  have := h2.length_le_of_subset h3
  simp at this
  omega
/-- The mark of a number; the end behind the last one. -/
def mkAt (s : List Nat) (k : Nat) : Nat := (marksP s).getD k s.length
theorem mkAt_some (s : List Nat) (k a : Nat) (h : (marksP s)[k]? = some a) : mkAt s k = a := by unfold mkAt; rw [List.getD_eq_getElem?_getD, h]; rfl
theorem mkAt_end (s : List Nat) (k : Nat) (h : (marksP s).length ≤ k) : mkAt s k = s.length := by unfold mkAt; rw [List.getD_eq_getElem?_getD, List.getElem?_eq_none h]; rfl
theorem cntM_flat (s : List Nat) (a : Nat) : ∀ d, (∀ i, a ≤ i → i < a + d → lms s i = false) → cntM s (a + d) = cntM s a
  | 0, _ => rfl
  | d + 1, h => by
    rw [← Nat.add_assoc, cntM_succ, cntM_flat s a d (fun i h1 h2 => h i h1 (by omega)), h (a + d) (by omega) (by omega)]
    rfl
/-- The next mark is the mark of the next number. -/
theorem mkAt_next (s : List Nat) (k a : Nat) (h : (marksP s)[k]? = some a) : mkAt s (k + 1) = nx s a := by
  obtain ⟨h1, h2, h3⟩ := marksP_idx s k a h
  obtain ⟨n1, n2, n3, n4⟩ := nxF_spec s (s.length - (a + 1)) (a + 1) (by omega)
  have hc : cntM s (nx s a) = k + 1 := by
    have e : nx s a = (a + 1) + (nx s a - (a + 1)) := by unfold nx; omega
    rw [e, cntM_flat s (a + 1) _ (fun i h5 h6 => n3 i h5 (by unfold nx at h6; omega)), cntM_succ, h2, h3]
    rfl
  rcases Nat.lt_or_ge (nx s a) s.length with h4 | h4
  · have h5 : lms s (nx s a) = true := n4 h4
    have := marksP_at s _ h5
    rw [hc] at this
    exact mkAt_some s _ _ this
  · have h5 : nx s a = s.length := by unfold nx at h4 ⊢; omega
    rw [h5] at hc ⊢
    exact mkAt_end s _ (by rw [marksP_len, hc]; exact Nat.le_refl _)
/-- The marks' names: their order goes with the pieces'. -/
structure Named (s : List Nat) (R : List Nat) : Prop where
  len : R.length = (marksP s).length
  lt : ∀ (i j a b : Nat), (marksP s)[i]? = some a → (marksP s)[j]? = some b → ch R i < ch R j → lexlt (preK s a) (preK s b) = true
  eq : ∀ (i j a b : Nat), (marksP s)[i]? = some a → (marksP s)[j]? = some b → ch R i = ch R j → preK s a = preK s b
theorem Named.full {s R : List Nat} (h : Named s R) : ∀ d k j, k + d = R.length → j ≤ R.length → lexlt (R.drop k) (R.drop j) = true → lexlt (fullK s (mkAt s k)) (fullK s (mkAt s j)) = true
  | d, k, j, hd, hj, hl => by
    rcases Nat.lt_or_ge j R.length with hj1 | hj1
    · obtain ⟨b, hb⟩ : ∃ b, (marksP s)[j]? = some b := ⟨_, List.getElem?_eq_getElem (by rw [← h.len]; exact hj1)⟩
      have hbl := (marksP_idx s j b hb).1
      rw [mkAt_some s j b hb]
      rcases Nat.lt_or_ge k R.length with hk1 | hk1
      · obtain ⟨a, ha⟩ : ∃ a, (marksP s)[k]? = some a := ⟨_, List.getElem?_eq_getElem (by rw [← h.len]; exact hk1)⟩
        have hal := (marksP_idx s k a ha).1
        rw [mkAt_some s k a ha]
        rw [drop_ch R k hk1, drop_ch R j hj1, lexlt_cons] at hl
        rcases hl with hl | ⟨h0, hl⟩
        · exact pre_full_lt s (s.length - a) a b (by omega) hal hbl (h.lt k j a b ha hb hl)
        · obtain ⟨d, rfl⟩ : ∃ e, d = e + 1 := ⟨d - 1, by omega⟩
          have ih := Named.full h d (k + 1) (j + 1) (by omega) hj1 hl
          rw [mkAt_next s k a ha, mkAt_next s j b hb] at ih
          exact pre_full_eq s (s.length - a) a b (by omega) hal hbl (h.eq k j a b ha hb h0) ih
      · rw [mkAt_end s k (by rw [← h.len]; exact hk1), fullK_nil s _ (Nat.le_refl _), fullK_cons s b hbl]
        rfl
    · rw [List.drop_of_length_le hj1, lexlt_nil] at hl
      cases hl
/-- The marks in the order of their names' suffixes are in the order of the suffixes. -/
theorem Named.marks {s R T : List Nat} (h : Named s R) (hT : IsSA R T) : MarksOk s (T.map (mkAt s)) ∧ ∀ (i j a b : Nat), (T.map (mkAt s))[i]? = some a → (T.map (mkAt s))[j]? = some b → i < j → ch s a = ch s b → lexle (fullK s a) (fullK s b) := by
  have hmem : ∀ k ∈ T, k < (marksP s).length := by
    intro k hk
    have := hT.perm.subset hk
    rw [← h.len]
    simpa using this
  have hget : ∀ k, k < (marksP s).length → (marksP s)[k]? = some (mkAt s k) := by
    intro k hk
    have h1 : (marksP s)[k]? = some (marksP s)[k] := List.getElem?_eq_getElem hk
    rw [mkAt_some s k _ h1, h1]
  constructor
  · have hp : (T.map (mkAt s)).Perm (marksP s) := by
      have h1 := hT.perm.map (mkAt s)
      have h2 : (List.range R.length).map (mkAt s) = marksP s := by
        apply List.ext_getElem?
        intro k
        rw [h.len]
        by_cases hk : k < (marksP s).length
        · rw [hget k hk]; simp [hk]
        · rw [List.getElem?_eq_none (by simp; omega), List.getElem?_eq_none (by omega)]
      rw [h2] at h1
      exact h1
    exact ⟨(List.Perm.nodup_iff hp).2 (marksP_ok s).nd, fun m => by rw [hp.mem_iff]; exact (marksP_ok s).mem m⟩
  · intro i j a b ha hb hij _
    rw [List.getElem?_map] at ha hb
    obtain ⟨k, hk, rfl⟩ := Option.map_eq_some_iff.1 ha
    obtain ⟨m, hm, rfl⟩ := Option.map_eq_some_iff.1 hb
    obtain ⟨hi1, hk2⟩ := List.getElem?_eq_some_iff.1 hk
    obtain ⟨hj1, hm2⟩ := List.getElem?_eq_some_iff.1 hm
    have h1 := List.pairwise_iff_getElem.1 hT.sorted i j hi1 hj1 hij
    rw [hk2, hm2] at h1
    have hkl := hmem k (List.mem_of_getElem? hk)
    have hml := hmem m (List.mem_of_getElem? hm)
    exact lexle_of_lt (h.full (R.length - k) k m (by rw [h.len]; omega) (by rw [h.len]; omega) h1)

/-! Names out of an order by pieces -/
def nmAt (s : List Nat) (Ms : List Nat) : Nat → Nat
  | 0 => 0
  | t + 1 => nmAt s Ms t + (if preK s (Ms.getD t 0) = preK s (Ms.getD (t + 1) 0) then 0 else 1)
theorem nmAt_mono (s Ms : List Nat) (t : Nat) : ∀ d, nmAt s Ms t ≤ nmAt s Ms (t + d)
  | 0 => Nat.le_refl _
  | d + 1 => by have := nmAt_mono s Ms t d; rw [← Nat.add_assoc, nmAt]; omega
theorem nmAt_eq (s Ms : List Nat) (t : Nat) : ∀ d, nmAt s Ms t = nmAt s Ms (t + d) → preK s (Ms.getD t 0) = preK s (Ms.getD (t + d) 0)
  | 0, _ => rfl
  | d + 1, h => by
    rw [← Nat.add_assoc, nmAt] at h
    have h1 := nmAt_mono s Ms t d
    have h2 := nmAt_eq s Ms t d (by omega)
    rw [h2]
    by_cases e : preK s (Ms.getD (t + d) 0) = preK s (Ms.getD (t + d + 1) 0)
    · exact e
    · rw [if_neg e] at h; omega
theorem named_of {s R Ms : List Nat} (hMs : Ms.Perm (marksP s)) (hs : ∀ (i j a b : Nat), Ms[i]? = some a → Ms[j]? = some b → i < j → lexle (preK s a) (preK s b)) (hl : R.length = (marksP s).length)
    (hR : ∀ (t k m : Nat), Ms[t]? = some m → (marksP s)[k]? = some m → ch R k = nmAt s Ms t) : Named s R := by
  have find : ∀ (k a : Nat), (marksP s)[k]? = some a → ∃ t, Ms[t]? = some a ∧ ch R k = nmAt s Ms t := by
    intro k a h
    obtain ⟨t, ht⟩ := List.mem_iff_getElem?.1 (hMs.symm.subset (List.mem_of_getElem? h))
    exact ⟨t, ht, hR t k a ht h⟩
  have hD : ∀ (t a : Nat), Ms[t]? = some a → Ms.getD t 0 = a := fun t a h => by rw [List.getD_eq_getElem?_getD, h]; rfl
  have heq : ∀ (t u a b : Nat), Ms[t]? = some a → Ms[u]? = some b → nmAt s Ms t = nmAt s Ms u → preK s a = preK s b := by
    intro t u a b ha hb h
    rcases Nat.le_total t u with h1 | h1
    · have := nmAt_eq s Ms t (u - t) (by rw [show t + (u - t) = u from by omega]; exact h)
      rw [show t + (u - t) = u from by omega, hD t a ha, hD u b hb] at this
      exact this
    · have := nmAt_eq s Ms u (t - u) (by rw [show u + (t - u) = t from by omega]; exact h.symm)
      rw [show u + (t - u) = t from by omega, hD t a ha, hD u b hb] at this
      exact this.symm
  refine ⟨hl, ?_, ?_⟩
  · intro i j a b ha hb h
    obtain ⟨t, ht, e1⟩ := find i a ha
    obtain ⟨u, hu, e2⟩ := find j b hb
    rw [e1, e2] at h
    have htu : t < u := by
      rcases Nat.lt_or_ge t u with h1 | h1
      · exact h1
      · have := nmAt_mono s Ms u (t - u)
        rw [show u + (t - u) = t from by omega] at this
        omega
    rcases (lexle_iff _ _).1 (hs t u a b ht hu htu) with h2 | h2
    · exfalso
      have key : ∀ d, t + d ≤ u → nmAt s Ms (t + d) = nmAt s Ms t := by
        intro d
        induction d with
        | zero => intro _; rfl
        | succ d ih =>
          intro hd
          have ih := ih (by omega)
          rw [← Nat.add_assoc, nmAt, ih]
          obtain ⟨x, hx⟩ : ∃ x, Ms[t + d]? = some x := ⟨_, List.getElem?_eq_getElem (by have := (List.getElem?_eq_some_iff.1 hu).1; omega)⟩
          obtain ⟨y, hy⟩ : ∃ y, Ms[t + d + 1]? = some y := ⟨_, List.getElem?_eq_getElem (by have := (List.getElem?_eq_some_iff.1 hu).1; omega)⟩
          rw [hD _ _ hx, hD _ _ hy]
          have h3 := heq t (t + d) a x ht hx ih.symm
          have h4 := hs (t + d) (t + d + 1) x y hx hy (by omega)
          have h5 : lexle (preK s y) (preK s b) := by
            rcases Nat.lt_or_ge (t + d + 1) u with h6 | h6
            · exact hs _ _ y b hy hu h6
            · have : t + d + 1 = u := by omega
              rw [this, hu] at hy
              cases hy
              exact lexle_refl _
          rw [← h3] at h4 ⊢
          rw [← h2] at h5
          rcases (lexle_iff _ _).1 h4 with h6 | h6
          · rw [if_pos h6]; omega
          · have h5' : lexlt (preK s a) (preK s y) = false := h5
            rw [h5'] at h6
            cases h6
      have := key (u - t) (by omega)
      rw [show t + (u - t) = u from by omega] at this
      omega
    · exact h2
  · intro i j a b ha hb h
    obtain ⟨t, ht, e1⟩ := find i a ha
    obtain ⟨u, hu, e2⟩ := find j b hb
    exact heq t u a b ht hu (by rw [← e1, ← e2]; exact h)
end Go.Proofs.Ytdhnmcdgiddhdaa
/-
  Suffix sorting: rows of numbers by functions, slices.Clone, and the two functions of the sorter that only read: end, same.
-/
set_option linter.unusedVariables false
set_option linter.unusedSimpArgs false
namespace Go.Proofs.Ytdhnmcdgiddhdaa
open Go.RowKit
set_option maxRecDepth 100000
/-- A text of numbers, as numbers. -/
def tI (s : List Nat) : List Int := s.map Int.ofNat
theorem tI_length (s : List Nat) : (tI s).length = s.length := by simp [tI]
theorem tI_get (s : List Nat) (i : Nat) (h : i < s.length) : (tI s)[i]? = some (ch s i : Int) := by
  unfold tI ch
  rw [List.getElem?_map, List.getElem?_eq_getElem h, List.getD_eq_getElem?_getD, List.getElem?_eq_getElem h]
  rfl
/-! slices.Clone -/
@[go_sem] theorem eql_nil_ints (w : World) (ao : Option Addr) (n c : Nat) : (binOp .eql 36 (.slice ao n c) (.slice none 0 0)).run Try.prog w = .ok (.bool ao.isNone) w := Lib.run_eql_slice_nil w _ _ _ _ _ _ _ Try.underlying36
theorem clonei_some (ad : Addr) (n cap : Nat) (l : List Int) (w : World) (h : Rd w 1 (.slice (some ad) n cap) n (iv l)) (hn : n ≤ 17592186044416) :
    Calls Try.prog 77 #[.slice (some ad) n cap] w fun e w' => ∃ v c, e = .returned v ∧ RowC 3 1 v n (iv l) c ∧ St w.heap.size w w' [c] := by
  obtain ⟨i0, i0a, i0b, i0c, i0d⟩ := info_parts infoInt
  go_enter Try.func77, Try.ntmps77
  go_wp2_with (at_builtin; (refine wpList_app 0 36 i0 (.int .i64 0) _ _ rfl rfl rfl rfl Try.underlying36 i0a i0b i0c i0d rfl (by decide) ((St.init w).alloc _) rfl (RowC.fresh w.heap.size [] rfl (Nat.le_refl 0) (Nat.zero_le _) rfl rfl) (h.keep (Below.alloc (Below.refl _ _) (Nat.le_refl _) _)) (iv_one l) ?_ ?_ ?_); (unfold maxLen; omega); omega; intro v1 c1 w1 hr1 hs1)
  go_ret
  simp only [Nat.zero_add, List.nil_append] at hr1
  exact ⟨v1, c1, rfl, hr1, hs1⟩
theorem clonei_any (v : Value) (n : Nat) (l : List Int) (w : World) (h : Rd w 1 v n (iv l)) (hn : n ≤ 17592186044416) :
    Calls Try.prog 77 #[v] w fun e w' => ∃ v c, e = .returned v ∧ RowC 3 1 v n (iv l) c ∧ St w.heap.size w w' [c] := by
  obtain ⟨ao, cap, rfl⟩ := h.shape
  cases ao with
  | some ad => exact clonei_some ad n cap l w h hn
  | none =>
    obtain ⟨rfl, rfl, hx⟩ := h.none_iff
    have hbs : l = [] := by simpa [iv] using hx
    subst hbs
    clear h hx hn
    go_enter Try.func77, Try.ntmps77
    go_wp2
    go_ret
    exact ⟨_, [], rfl, RowC.nil _ _, (St.init w).one_nil⟩

/-! What a sorter tells -/
/-- The numbers of the marks, by places. -/
def numP (s : List Nat) (i : Nat) : Int := if lms s i then (cntM s i : Int) else -1
/-- A sorter that is prepared, as it is read. -/
structure SoR (w : World) (p : Nat) (s : List Nat) : Prop where
  t : ∃ v, w.cell? ⟨p, 0, none⟩ = some v ∧ Rd w 1 v s.length (iv (tI s))
  m : ∃ v, w.cell? ⟨p, 5, none⟩ = some v ∧ Rd w 1 v (marksP s).length (iv (tI (marksP s)))
  n : ∃ v, w.cell? ⟨p, 6, none⟩ = some v ∧ Rd w 1 v (s.length + 1) (iv (mkI (numP s) (s.length + 1)))
theorem SoR.drewN {w : World} {p : Nat} {s : List Nat} (h : SoR w p s) (k : Nat) : SoR (w.drewN k) p s := by
  obtain ⟨⟨v0, a0, b0⟩, ⟨v1, a1, b1⟩, ⟨v2, a2, b2⟩⟩ := h
  exact ⟨⟨v0, by rw [World.cell?_drewN]; exact a0, b0.drewN k⟩, ⟨v1, by rw [World.cell?_drewN]; exact a1, b1.drewN k⟩, ⟨v2, by rw [World.cell?_drewN]; exact a2, b2.drewN k⟩⟩
theorem end_any (p : Nat) (s : List Nat) (a : Nat) (w : World) (h : SoR w p s) (hn : s.length ≤ 1000000) (ha : lms s a = true) :
    Calls Try.prog 80 #[.pointer (some ⟨p, 0, none⟩), .int .i64 (a : Int)] w fun e w' => e = .returned (.int .i64 (nx s a : Int)) ∧ w = w' := by
  obtain ⟨⟨v0, a0, b0⟩, ⟨v1, a1, b1⟩, ⟨v2, a2, b2⟩⟩ := h
  have hal := lms_lt ha
  have hmk := marksP_at s a ha
  have hnx := mkAt_next s _ a hmk
  have hkl := (List.getElem?_eq_some_iff.1 hmk).1
  have hml := marksP_lt s (by omega)
  obtain ⟨ao2, cap2, rfl⟩ := b2.shape
  obtain ⟨ao1, cap1, rfl⟩ := b1.shape
  obtain ⟨ao0, cap0, rfl⟩ := b0.shape
  have hnum : (mkI (numP s) (s.length + 1))[a]? = some (cntM s a : Int) := by
    rw [mkI_get _ _ _ (by omega)]
    unfold numP
    rw [if_pos ha]
  obtain ⟨ad2, rfl, hc2⟩ := b2.at (iv_get _ a _ hnum)
  have hlen : ((marksP s).length : Int) ≤ 1000000 := by omega
  have hci : (cntM s a : Int) ≤ 1000000 := by omega
  have hai : (a : Int) < s.length + 1 := by omega
  have hnl : (s.length : Int) ≤ 1000000 := by omega
  rw [← hnx]
  clear hnum hnx hmk ha
  by_cases q : cntM s a + 1 < (marksP s).length
  · have hg : (marksP s)[cntM s a + 1]? = some (mkAt s (cntM s a + 1)) := by
      have h1 : (marksP s)[cntM s a + 1]? = some (marksP s)[cntM s a + 1] := List.getElem?_eq_getElem q
      rw [mkAt_some s _ _ h1, h1]
    have hg2 : (tI (marksP s))[cntM s a + 1]? = some (mkAt s (cntM s a + 1) : Int) := by
      unfold tI
      rw [List.getElem?_map, hg]
      rfl
    obtain ⟨ad1, rfl, hc1⟩ := b1.at (iv_get _ _ _ hg2)
    replace hc1 : w.cell? ⟨ad1.block, ad1.off + (cntM s a + 1), none⟩ = some (.int .i64 (mkAt s (cntM s a + 1) : Int)) := hc1
    have q2 : (cntM s a : Int) + 1 < ((marksP s).length : Int) := by omega
    clear hg hg2
    go_enter Try.func80, Try.ntmps80
    go_wp2
    go_ret
    exact ⟨rfl, rfl⟩
  · rw [mkAt_end s _ (by omega)]
    have q2 : ¬ (cntM s a : Int) + 1 < ((marksP s).length : Int) := by omega
    go_enter Try.func80, Try.ntmps80
    go_wp2
    go_ret
    exact ⟨rfl, rfl⟩
set_option maxHeartbeats 2000000 in
theorem same_any (p : Nat) (s : List Nat) (a b : Nat) (w : World) (h : SoR w p s) (hn : s.length ≤ 1000000) (ha : lms s a = true) (hb : lms s b = true) (hab : a ≠ b) :
    Calls Try.prog 78 #[.pointer (some ⟨p, 0, none⟩), .int .i64 (a : Int), .int .i64 (b : Int)] w fun e w' => e = .returned (.bool (decide (preK s a = preK s b))) ∧ Drew w w' := by
  have hal := lms_lt ha
  have hbl := lms_lt hb
  have hps := pre_same s (s.length - a) a b (by omega) (by omega) (by omega) hab
  have hsp := same_pre s a b
  obtain ⟨a1, a2, a3, a4⟩ := nxF_spec s (s.length - (a + 1)) (a + 1) (by omega)
  obtain ⟨b1, b2, b3, b4⟩ := nxF_spec s (s.length - (b + 1)) (b + 1) (by omega)
  have HA : a + 1 ≤ nx s a ∧ nx s a ≤ s.length := ⟨a1, a2⟩
  have HB : b + 1 ≤ nx s b ∧ nx s b ≤ s.length := ⟨b1, b2⟩
  have HPS := Lib.hid (And.intro hps hsp)
  have HR := Lib.hid h
  obtain ⟨⟨v0, c0, r0⟩, _, _⟩ := h
  obtain ⟨ao, cap, rfl⟩ := r0.shape
  obtain ⟨ad, rfl, _⟩ := r0.at (iv_get _ a _ (tI_get s a (by omega)))
  have hat : ∀ k, k < s.length → w.cell? (ad.add k) = some (.int .i64 (ch s k : Int)) := by
    intro k hk
    obtain ⟨ad', e, hc⟩ := r0.at (iv_get _ k _ (tI_get s k hk))
    cases e
    exact hc
  have HAT := Lib.hid hat
  clear hat
  generalize hea : nx s a = ea at *
  generalize heb : nx s b = eb at *
  have HE := Lib.hid (And.intro hea heb)
  clear hps hsp a1 a2 a3 a4 b1 b2 b3 b4 hea heb
  have i1 : (ea : Int) ≤ 1000000 := by omega
  have i2 : (eb : Int) ≤ 1000000 := by omega
  have i3 : (a : Int) ≤ 1000000 := by omega
  have i4 : (b : Int) ≤ 1000000 := by omega
  have hnl : (s.length : Int) ≤ 1000000 := by omega
  go_enter Try.func78, Try.ntmps78
  go_wp2_with fail
  refine (end_any p s a w HR.out hn ha).mono ?_
  rintro e w1 ⟨rfl, rfl⟩
  rw [HE.out.1]
  go_wp2_with fail
  refine (end_any p s b w HR.out hn hb).mono ?_
  rintro e w1 ⟨rfl, rfl⟩
  rw [HE.out.2]
  by_cases hd : ea - a = eb - b
  · obtain ⟨d, hda⟩ : ∃ d, ea = a + d := ⟨ea - a, by omega⟩
    have hdb : eb = b + d := by omega
    subst hda
    subst hdb
    have q1 : (((a + d : Nat) : Int) - (a : Int) != ((b + d : Nat) : Int) - (b : Int)) = false := by simp <;> omega
    have q1' : ((a : Int) + (d : Int) - (a : Int) != (b : Int) + (d : Int) - (b : Int)) = false := by simp <;> omega
    go_wp2_with fail
    go_loopg [1, 2] d (fun m s1 s2 wr => ∃ i : Nat, i + m = d ∧ s1 = .int .i64 ((a : Int) + (i : Int)) ∧ s2 = .int .i64 ((b : Int) + (i : Int)) ∧ Hid (∀ k, k < i → ch s (a + k) = ch s (b + k)) ∧ Drew w wr)
    case atStart => exact ⟨0, by omega, by simp, by simp, Lib.hid (by intro k hk; omega), Drew.refl _⟩
    case round =>
      obtain ⟨i, hi, rfl, rfl, HC, hdr⟩ := hrel
      obtain ⟨nd, rfl⟩ := hdr.out
      have hle : a + i ≤ s.length ∧ b + i ≤ s.length := by omega
      cases gk with
      | zero =>
        obtain rfl : i = d := by omega
        clear hi
        have q2 : ¬ (a : Int) + (i : Int) < (a : Int) + (i : Int) := by omega
        by_cases qa : a + i < s.length
        · by_cases qb : b + i < s.length
          · have hca := (HAT.out (a + i) qa)
            have hcb := (HAT.out (b + i) qb)
            by_cases qc : ch s (a + i) = ch s (b + i)
            · have hpre : preK s a = preK s b := by
                refine HPS.out.2 i rfl rfl qa qb (fun k hk => ?_) (by omega) (by omega)
                by_cases e : k = i
                · subst e; exact qc
                · exact HC.out k (by omega)
              have HP := Lib.hid hpre
              have q3 : ((ch s (a + i) : Int) == (ch s (b + i) : Int)) = true := by rw [qc]; simp
              have q4 : (a : Int) + (i : Int) < (s.length : Int) := by omega
              have q5 : (b : Int) + (i : Int) < (s.length : Int) := by omega
              clear hpre qc
              go_wp2_with (first | ((with_reducible refine wp_draw_all (id := 4) mixed ?_ (fun _ _ => ?_)); kernel_rfl) | ((with_reducible refine wp_draw_all (id := 7) mixed ?_ (fun _ _ => ?_)); kernel_rfl) | ((with_reducible refine wpStill_plain ?_ ?_ (fun _ _ => ?_)); rfl; rfl) | ((with_reducible refine wpStill_want ?_ ?_ (fun _ _ => ?_)); (focus (simp [Region.wanted, yielded]; done)); rfl) | ((with_reducible refine wpStill_skip ?_ ?_); (focus (simp [Region.wanted, yielded]; done)); (simp only [Act.put, List.setIfInBounds_toArray, List.set_cons_zero, List.set_cons_succ])) | (with_reducible refine wpStill_nil ?_))
              go_ret
              exact ⟨by simp [HP.out], Drew.mk _ (nd + 2)⟩
            · have hpre : preK s a ≠ preK s b := by
                intro e
                obtain ⟨d', d1, d2, _, _, _, d6⟩ := HPS.out.1 e
                have h1 := HE.out.1
                exact qc (d6 i (by omega))
              have HP := Lib.hid hpre
              have q3 : ((ch s (a + i) : Int) == (ch s (b + i) : Int)) = false := by rw [beq_eq_false_iff_ne]; omega
              have q4 : (a : Int) + (i : Int) < (s.length : Int) := by omega
              have q5 : (b : Int) + (i : Int) < (s.length : Int) := by omega
              clear hpre qc
              go_wp2_with (first | ((with_reducible refine wp_draw_all (id := 4) mixed ?_ (fun _ _ => ?_)); kernel_rfl) | ((with_reducible refine wp_draw_all (id := 7) mixed ?_ (fun _ _ => ?_)); kernel_rfl) | ((with_reducible refine wpStill_plain ?_ ?_ (fun _ _ => ?_)); rfl; rfl) | ((with_reducible refine wpStill_want ?_ ?_ (fun _ _ => ?_)); (focus (simp [Region.wanted, yielded]; done)); rfl) | ((with_reducible refine wpStill_skip ?_ ?_); (focus (simp [Region.wanted, yielded]; done)); (simp only [Act.put, List.setIfInBounds_toArray, List.set_cons_zero, List.set_cons_succ])) | (with_reducible refine wpStill_nil ?_))
              go_ret
              exact ⟨by simp [HP.out], Drew.mk _ (nd + 2)⟩
          · have hpre : preK s a ≠ preK s b := by
              intro e
              obtain ⟨d', d1, d2, _, _, d5, d6⟩ := HPS.out.1 e
              have h1 := HE.out.2
              omega
            have HP := Lib.hid hpre
            have q4 : (a : Int) + (i : Int) < (s.length : Int) := by omega
            have q5 : ¬ (b : Int) + (i : Int) < (s.length : Int) := by omega
            clear hpre
            go_wp2_with (first | ((with_reducible refine wp_draw_all (id := 4) mixed ?_ (fun _ _ => ?_)); kernel_rfl) | ((with_reducible refine wp_draw_all (id := 7) mixed ?_ (fun _ _ => ?_)); kernel_rfl) | ((with_reducible refine wpStill_plain ?_ ?_ (fun _ _ => ?_)); rfl; rfl) | ((with_reducible refine wpStill_want ?_ ?_ (fun _ _ => ?_)); (focus (simp [Region.wanted, yielded]; done)); rfl) | ((with_reducible refine wpStill_skip ?_ ?_); (focus (simp [Region.wanted, yielded]; done)); (simp only [Act.put, List.setIfInBounds_toArray, List.set_cons_zero, List.set_cons_succ])) | (with_reducible refine wpStill_nil ?_))
            go_ret
            exact ⟨by simp [HP.out], Drew.mk _ (nd + 2)⟩
        · have hpre : preK s a ≠ preK s b := by
            intro e
            obtain ⟨d', d1, d2, _, d4, _, d6⟩ := HPS.out.1 e
            have h1 := HE.out.1
            omega
          have HP := Lib.hid hpre
          have q4 : ¬ (a : Int) + (i : Int) < (s.length : Int) := by omega
          clear hpre
          go_wp2_with (first | ((with_reducible refine wp_draw_all (id := 4) mixed ?_ (fun _ _ => ?_)); kernel_rfl) | ((with_reducible refine wp_draw_all (id := 7) mixed ?_ (fun _ _ => ?_)); kernel_rfl) | ((with_reducible refine wpStill_plain ?_ ?_ (fun _ _ => ?_)); rfl; rfl) | ((with_reducible refine wpStill_want ?_ ?_ (fun _ _ => ?_)); (focus (simp [Region.wanted, yielded]; done)); rfl) | ((with_reducible refine wpStill_skip ?_ ?_); (focus (simp [Region.wanted, yielded]; done)); (simp only [Act.put, List.setIfInBounds_toArray, List.set_cons_zero, List.set_cons_succ])) | (with_reducible refine wpStill_nil ?_))
          go_ret
          exact ⟨by simp [HP.out], Drew.mk _ (nd + 2)⟩
      | succ m =>
        have qi : i < d := by omega
        have qa : a + i < s.length := by omega
        have qb : b + i < s.length := by omega
        have hca := (HAT.out (a + i) qa)
        have hcb := (HAT.out (b + i) qb)
        have q2 : (a : Int) + (i : Int) < (a : Int) + (d : Int) := by omega
        have q2' : (i : Int) < (d : Int) := by omega
        by_cases qc : ch s (a + i) = ch s (b + i)
        · have q3 : ((ch s (a + i) : Int) == (ch s (b + i) : Int)) = true := by rw [qc]; simp
          have HQ := Lib.hid qc
          clear qc
          go_wp2_with (first | ((with_reducible refine wp_draw_all (id := 4) mixed ?_ (fun _ _ => ?_)); kernel_rfl) | ((with_reducible refine wpStill_plain ?_ ?_ (fun _ _ => ?_)); rfl; rfl) | ((with_reducible refine wpStill_want ?_ ?_ (fun _ _ => ?_)); (focus (simp [Region.wanted, yielded]; done)); rfl) | ((with_reducible refine wpStill_skip ?_ ?_); (focus (simp [Region.wanted, yielded]; done)); (simp only [Act.put, List.setIfInBounds_toArray, List.set_cons_zero, List.set_cons_succ])) | (with_reducible refine wpStill_nil ?_))
          go_roundg m
          case measure => omega
          case rel =>
            refine ⟨i + 1, by omega, by go_num, by go_num, Lib.hid (fun k hk => ?_), Drew.mk _ (nd + 1)⟩
            by_cases e : k = i
            · subst e; exact HQ.out
            · exact HC.out k (by omega)
        · have hpre : preK s a ≠ preK s b := by
            intro e
            obtain ⟨d', d1, d2, _, _, _, d6⟩ := HPS.out.1 e
            have h1 := HE.out.1
            exact qc (d6 i (by omega))
          have HP := Lib.hid hpre
          have q3 : ((ch s (a + i) : Int) == (ch s (b + i) : Int)) = false := by rw [beq_eq_false_iff_ne]; omega
          have q6 : ((a : Int) + (i : Int) == (a : Int) + (d : Int)) = false := by rw [beq_eq_false_iff_ne]; omega
          clear hpre qc
          go_wp2_with (first | ((with_reducible refine wp_draw_all (id := 4) mixed ?_ (fun _ _ => ?_)); kernel_rfl) | ((with_reducible refine wp_draw_all (id := 7) mixed ?_ (fun _ _ => ?_)); kernel_rfl) | ((with_reducible refine wpStill_plain ?_ ?_ (fun _ _ => ?_)); rfl; rfl) | ((with_reducible refine wpStill_want ?_ ?_ (fun _ _ => ?_)); (focus (simp [Region.wanted, yielded]; done)); rfl) | ((with_reducible refine wpStill_skip ?_ ?_); (focus (simp [Region.wanted, yielded]; done)); (simp only [Act.put, List.setIfInBounds_toArray, List.set_cons_zero, List.set_cons_succ])) | (with_reducible refine wpStill_nil ?_))
          go_ret
          exact ⟨by simp [HP.out], Drew.mk _ (nd + 2)⟩
  · have hnb : preK s a ≠ preK s b := by
      intro e
      obtain ⟨d, d1, d2, _⟩ := HPS.out.1 e
      omega
    have q1 : ((ea : Int) - (a : Int) != (eb : Int) - (b : Int)) = true := by rw [bne_iff_ne]; omega
    have HN := Lib.hid hnb
    clear hnb
    go_wp2_with fail
    go_ret
    exact ⟨by simp [HN.out], Drew.refl _⟩
end Go.Proofs.Ytdhnmcdgiddhdaa
/-
  Contract of the sorter's induce.
-/
set_option linter.unusedVariables false
set_option linter.unusedSimpArgs false
namespace Go.Proofs.Ytdhnmcdgiddhdaa
open Go.RowKit
set_option maxRecDepth 100000
/-- The sorter's own block. -/
def soB (p : Nat) (sv v1 v2 v3 v4 v5 v6 : Value) : HL := [(p, Obj.cells #[sv, v1, v2, v3, v4, v5, v6] 118 (0, 0))]
def litP (s : List Nat) (mx c : Nat) : Int := if c ≤ mx then (lB s c : Int) else 0
/-- What induce is told, and leaves. -/
structure IndIn (s : List Nat) (mx : Nat) (M : List Nat) : Prop where
  n1 : 1 ≤ s.length
  n : s.length ≤ 1000000
  m : mx ≤ 1000000
  mx : ∀ x ∈ s, x ≤ mx
  ok : MarksOk s M
theorem MarksOk.len {s M : List Nat} (h : MarksOk s M) : M.length ≤ s.length := by
  have : M ⊆ List.range s.length := fun x hx => by have := (h.mem x).1 hx; simpa using this.1
  have := h.nd.length_le_of_subset this
  simpa using this
def IndOut (B : Nat) (w0 : World) (s : List Nat) (mx : Nat) (M : List Nat) (obj c1 c2 c3 : HL) (v4 : Value) (F : List HL) (e : Ending) (w' : World) : Prop :=
  e = .returned (.tuple #[]) ∧ ∃ A c4, RowC 3 1 v4 s.length (iv A) c4 ∧ St B w0 w' (obj :: c1 :: c2 :: c3 :: c4 :: F) ∧ Induced s mx M A
section
variable {B : Nat} {w0 w : World} {F : List HL} {c1 c2 c3 c4 : HL}
set_option maxHeartbeats 4000000 in
theorem induce_any (p : Nat) (s : List Nat) (mx : Nat) (M : List Nat) (sv v1 v2 v3 v4 v5 v6 vm : Value) (A0 : List Int) (hI : IndIn s mx M) (hS : St B w0 w (soB p sv v1 v2 v3 v4 v5 v6 :: c1 :: c2 :: c3 :: c4 :: F))
    (h1 : RowC 4 1 v1 s.length (bl (mkB (sm s) s.length)) c1) (h2 : RowC 3 1 v2 (mx + 2) (iv (mkI (fun c => (gB s c : Int)) (mx + 2))) c2) (h3 : RowC 3 1 v3 (mx + 2) (iv (mkI (litP s mx) (mx + 2))) c3) (h4 : RowC 3 1 v4 s.length (iv A0) c4)
    (hT : ∀ w' c4', St B w0 w' (soB p sv v1 v2 v3 v4 v5 v6 :: c1 :: c2 :: c3 :: c4' :: F) → Rd w' 1 sv s.length (iv (tI s)))
    (hM : ∀ w' c4', St B w0 w' (soB p sv v1 v2 v3 v4 v5 v6 :: c1 :: c2 :: c3 :: c4' :: F) → Rd w' 1 vm M.length (iv (tI M))) :
    Calls Try.prog 73 #[.pointer (some ⟨p, 0, none⟩), vm] w (IndOut B w0 s mx M (soB p sv v1 v2 v3 v4 v5 v6) c1 c2 c3 v4 F) := by
  obtain ⟨in1, inn, inm, imx, iok⟩ := hI
  have HMX := Lib.hid imx
  have hA0 : A0.length = s.length := by have := h4.len; simpa [iv_length] using this
  obtain ⟨g4, cap4, cur4, rfl, hc4⟩ := h4.form (by omega)
  obtain ⟨g2, cap2, cur2, rfl, hc2⟩ := h2.form (by omega)
  obtain ⟨g3, cap3, cur3, rfl, hc3⟩ := h3.form (by omega)
  obtain ⟨g1, cap1, cur1, rfl, hc1⟩ := h1.form (by omega)
  have hml := iok.len
  have hnl : (s.length : Int) ≤ 1000000 := by omega
  have hmi : (mx : Int) ≤ 1000000 := by omega
  have hMl : (M.length : Int) ≤ 1000000 := by omega
  have HT := Lib.hid hT
  have HM := Lib.hid hM
  have H123 := Lib.hid (And.intro h1 (And.intro h2 h3))
  have hat0 := hT w c4 hS
  obtain ⟨aot, capt, rfl⟩ := hat0.shape
  obtain ⟨adt, rfl, _⟩ := hat0.at (iv_get _ 0 _ (tI_get s 0 (by omega)))
  obtain ⟨aom, capm, rfl⟩ := (hM w c4 hS).shape
  have HS := Lib.hid (And.intro hS h4)
  have HO : Hid (∀ w' X, St B w0 w' (soB p (.slice (some adt) s.length capt) (.slice (some ⟨g1, 0, none⟩) s.length cap1) (.slice (some ⟨g2, 0, none⟩) (mx + 2) cap2) (.slice (some ⟨g3, 0, none⟩) (mx + 2) cap3) (.slice (some ⟨g4, 0, none⟩) s.length cap4) v5 v6 :: X) →
      w'.cell? ⟨p, 0, none⟩ = some (.slice (some adt) s.length capt) ∧ w'.cell? ⟨p, 1, none⟩ = some (.slice (some ⟨g1, 0, none⟩) s.length cap1) ∧ w'.cell? ⟨p, 2, none⟩ = some (.slice (some ⟨g2, 0, none⟩) (mx + 2) cap2) ∧ w'.cell? ⟨p, 3, none⟩ = some (.slice (some ⟨g3, 0, none⟩) (mx + 2) cap3) ∧ w'.cell? ⟨p, 4, none⟩ = some (.slice (some ⟨g4, 0, none⟩) s.length cap4)) :=
    Lib.hid fun w' X h => ⟨h.cell 0 rfl (List.mem_singleton.2 rfl) 0, h.cell 0 rfl (List.mem_singleton.2 rfl) 1, h.cell 0 rfl (List.mem_singleton.2 rfl) 2, h.cell 0 rfl (List.mem_singleton.2 rfl) 3, h.cell 0 rfl (List.mem_singleton.2 rfl) 4⟩
  have HTX : Hid (∀ w' c4', St B w0 w' (soB p (.slice (some adt) s.length capt) (.slice (some ⟨g1, 0, none⟩) s.length cap1) (.slice (some ⟨g2, 0, none⟩) (mx + 2) cap2) (.slice (some ⟨g3, 0, none⟩) (mx + 2) cap3) (.slice (some ⟨g4, 0, none⟩) s.length cap4) v5 v6 :: c1 :: c2 :: c3 :: c4' :: F) → ∀ k, k < s.length → w'.cell? (adt.add k) = some (.int .i64 (ch s k : Int))) := Lib.hid fun w' c4' h k hk => by
    obtain ⟨ad', e, hc⟩ := (hT w' c4' h).at (iv_get _ k _ (tI_get s k hk))
    cases e
    exact hc
  clear hc1 hc2 hc3 hc4 hT hM h1 h2 h3 hat0 imx hS h4
  generalize soB p (.slice (some adt) s.length capt) (.slice (some ⟨g1, 0, none⟩) s.length cap1) (.slice (some ⟨g2, 0, none⟩) (mx + 2) cap2) (.slice (some ⟨g3, 0, none⟩) (mx + 2) cap3) (.slice (some ⟨g4, 0, none⟩) s.length cap4) v5 v6 = obj at *
  have hx4 := (HO.out _ _ HS.out.1).2.2.2.2
  go_enter Try.func73, Try.ntmps73
  go_wp2_with fail
  clear hx4
  go_loopg [19] s.length (fun m s19 wr => ∃ i : Nat, i + m = s.length ∧ s19 = .int .i64 (i : Int) ∧ ∃ c4, Hid (RowC 3 1 (.slice (some ⟨g4, 0, none⟩) s.length cap4) s.length (iv (List.replicate i (-1) ++ A0.drop i)) c4 ∧ St B w0 wr (obj :: c1 :: c2 :: c3 :: c4 :: F)))
  case atStart => exact ⟨0, by omega, rfl, c4, Lib.hid ⟨by simpa using HS.out.2, HS.out.1⟩⟩
  case round =>
    clear HS
    obtain ⟨i, hi, rfl, c4, HQ⟩ := hrel
    have hS := HQ.out.2
    have h4 := HQ.out.1
    obtain ⟨hx0, hx1, hx2, hx3, hx4⟩ := HO.out _ _ hS
    cases gk with
    | zero =>
      obtain rfl : i = s.length := by omega
      clear hi HQ
      rw [List.drop_of_length_le (by omega), List.append_nil] at h4
      go_wp2_with fail
      refine (clonei_any _ _ _ _ (H123.out.2.2.rd hS 3 rfl) (by omega)).mono ?_
      rintro e w1 ⟨va, ca, rfl, hra, hsa⟩
      obtain ⟨ga, capa, cura, rfl, _⟩ := hra.form (by omega)
      have HQ : Hid (InvM s mx M 0 (List.replicate s.length (-1)) (mkI (litP s mx) (mx + 2)) ∧ RowC 3 1 (.slice (some ⟨g4, 0, none⟩) s.length cap4) s.length (iv (List.replicate s.length (-1))) c4 ∧ RowC 3 1 (.slice (some ⟨ga, 0, none⟩) (mx + 2) capa) (mx + 2) (iv (mkI (litP s mx) (mx + 2))) ca ∧ St B w0 w1 (ca :: obj :: c1 :: c2 :: c3 :: c4 :: F)) :=
        Lib.hid ⟨InvM.init s mx M _ HMX.out (mkI_length _ _) (fun c hc => by rw [mkI_get _ _ _ (by omega)]; unfold litP; rw [if_pos hc]), h4, hra, hS.join hsa⟩
      clear hra hsa hS h4 hx0 hx1 hx2 hx3 hx4
      go_wp2_with fail
      go_loopg [36] M.length (fun m s36 wr => ∃ k : Nat, k + m = M.length ∧ s36 = .int .i64 (k : Int) ∧ ∃ (sa at_ : List Int) (ca c4 : HL), Hid (InvM s mx M k sa at_ ∧ RowC 3 1 (.slice (some ⟨g4, 0, none⟩) s.length cap4) s.length (iv sa) c4 ∧ RowC 3 1 (.slice (some ⟨ga, 0, none⟩) (mx + 2) capa) (mx + 2) (iv at_) ca ∧ St B w0 wr (ca :: obj :: c1 :: c2 :: c3 :: c4 :: F)))
      case atStart => exact ⟨0, by omega, rfl, _, _, _, _, HQ⟩
      case round =>
        clear HQ
        obtain ⟨k, hk, rfl, sa, at_, ca, c4, HQ⟩ := hrel
        have hS := HQ.out.2.2.2
        have h4 := HQ.out.2.1
        have ha := HQ.out.2.2.1
        obtain ⟨hx0, hx1, hx2, hx3, hx4⟩ := HO.out _ _ hS.tl
        cases gk with
        | zero =>
          obtain rfl : k = M.length := by omega
          clear hk ha
          have hS2 := hS.tl
          have HIM := Lib.hid HQ.out.1
          clear HQ hS
          go_wp2_with fail
          refine (clonei_any _ _ _ _ (H123.out.2.1.rd hS2 2 rfl) (by omega)).mono ?_
          rintro e w2 ⟨vb, cb, rfl, hrb, hsb⟩
          obtain ⟨gb, capb, curb, rfl, _⟩ := hrb.form (by omega)
          have hS := hS2.join hsb
          replace hS : St B w0 w2 (cb :: obj :: c1 :: c2 :: c3 :: c4 :: F) := hS
          obtain ⟨hi1, hi2⟩ := InvL.init HIM.out iok HMX.out in1 (mkI_length (fun c => (gB s c : Int)) (mx + 2)) (fun c hc => mkI_get _ _ _ (by omega))
          have HI2 := Lib.hid hi2
          clear hS2 hsb hi2 hx0 hx1 hx2 hx3 hx4
          obtain ⟨q, hq⟩ : ∃ q, s.length = q + 1 := ⟨s.length - 1, by omega⟩
          have hqn : s.length - 1 = q := by omega
          have hqi : (s.length : Int) - 1 = (q : Int) := by omega
          rw [hqn] at hi1
          have hqc : ch s q ≤ mx := HMX.out _ (ch_mem s q (by omega))
          have hql : q < s.length := by omega
          have HQN := Lib.hid (And.intro hqn hqi)
          have hqs : (q : Int) ≤ 1000000 := by omega
          obtain ⟨hx0, hx1, hx2, hx3, hx4⟩ := HO.out _ _ hS.tl
          have hct := HTX.out w2 c4 hS.tl q hql
          have hgb : (mkI (fun c => (gB s c : Int)) (mx + 2))[ch s q]? = some (gB s (ch s q) : Int) := mkI_get _ _ _ (by omega)
          have hla := hrb.cellAt hS 0 rfl (iv_get _ _ _ hgb)
          obtain ⟨z, hz⟩ : ∃ z, sa[gB s (ch s q)]? = some z := ⟨_, List.getElem?_eq_getElem (by rw [HIM.out.len]; exact hi1)⟩
          have hl4 := h4.cellAt hS 5 rfl (iv_get _ _ z hz)
          have hf4 := h4.freeAt hS 5 rfl (gB s (ch s q))
          have HGB := Lib.hid hgb
          have hgi : (gB s (ch s q) : Int) ≤ 1000000 := by omega
          clear hgb hz hqn hq
          go_upto_region 14 with (fail)
          go_cut [8] (fun s8 wc => s8 = .int .i64 (s.length : Int) ∧ ∃ c4', Hid (RowC 3 1 (.slice (some ⟨g4, 0, none⟩) s.length cap4) s.length (iv (sa.set (gB s (ch s q)) (q : Int))) c4' ∧ St B w0 wc (cb :: obj :: c1 :: c2 :: c3 :: c4' :: F)))
          case first =>
            go_wp2_with (first | ((with_reducible refine wpStill_plain ?_ ?_ (fun _ _ => ?_)); rfl; rfl) | (with_reducible refine wpStill_nil ?_) | ((with_reducible refine wp_draw_tail (id := 14) 18 mixed ?_ (fun _ hK => ?_)); kernel_rfl; simp only [List.take_succ_cons, List.take_zero, List.drop_succ_cons, List.drop_zero] at hK ⊢))
            go_meet
            case rel =>
              obtain ⟨c4', h4', hS'⟩ := h4.store hS.drew 5 rfl rfl (gB s (ch s q)) (.int .i64 (q : Int))
              exact ⟨rfl, c4', Lib.hid ⟨by rw [← iv_set]; exact h4', hS'⟩⟩
          case rest =>
            obtain ⟨rfl, c4', HC⟩ := hcut
            clear hS h4 hx0 hx1 hx2 hx3 hx4 hct hla hl4 hf4
            have hS := HC.out.2
            obtain ⟨hx0, hx1, hx2, hx3, hx4⟩ := HO.out _ _ hS.tl
            have hct := HTX.out wc c4' hS.tl q hql
            have hla := hrb.cellAt hS 0 rfl (iv_get _ _ _ HGB.out)
            have hfa := hrb.freeAt hS 0 rfl (ch s q)
            obtain ⟨cb', hb', hS'⟩ := hrb.store hS 0 rfl rfl (ch s q) (.int .i64 ((gB s (ch s q) : Int) + 1))
            rw [iv_set] at hb'
            have hi2 := HI2.out
            rw [HQN.out.1, HQN.out.2] at hi2
            have HL0 := Lib.hid (And.intro hi2 (And.intro HC.out.1 (And.intro hb' hS')))
            clear hi2 hb' hS' HI2 hrb
            go_wp2_with fail
            go_loopg [111] s.length (fun m s111 wr => ∃ i : Nat, i + m = s.length ∧ s111 = .int .i64 (i : Int) ∧ ∃ (sa at_ : List Int) (cb c4 : HL), Hid (InvL s mx M i sa at_ ∧ RowC 3 1 (.slice (some ⟨g4, 0, none⟩) s.length cap4) s.length (iv sa) c4 ∧ RowC 3 1 (.slice (some ⟨gb, 0, none⟩) (mx + 2) capb) (mx + 2) (iv at_) cb ∧ St B w0 wr (cb :: obj :: c1 :: c2 :: c3 :: c4 :: F)))
            case atStart => exact ⟨0, by omega, rfl, _, _, _, _, HL0⟩
            case round =>
              clear HL0 hS hx0 hx1 hx2 hx3 hx4 hct hla hfa
              obtain ⟨i, hi, rfl, sa, at_, cb, c4, HQ⟩ := hrel
              have hS := HQ.out.2.2.2
              have h4 := HQ.out.2.1
              have hb := HQ.out.2.2.1
              obtain ⟨hx0, hx1, hx2, hx3, hx4⟩ := HO.out _ _ hS.tl
              cases gk with
              | zero =>
                obtain rfl : i = s.length := by omega
                clear hi hb
                have hS2 := hS.tl
                have HIL := Lib.hid HQ.out.1
                have hG := HQ.out.1.great iok HMX.out
                have HG := Lib.hid hG
                clear HQ hS hG
                go_wp2_with fail
                refine (clonei_any _ _ _ _ (H123.out.2.1.rd hS2 2 rfl) (by omega)).mono ?_
                rintro e w3 ⟨vd, cd, rfl, hrd, hsd⟩
                obtain ⟨gd, capd, curd, rfl, _⟩ := hrd.form (by omega)
                have hS := hS2.join hsd
                replace hS : St B w0 w3 (cd :: obj :: c1 :: c2 :: c3 :: c4 :: F) := hS
                have HQ : Hid (InvS s mx sa s.length sa (mkI (fun c => (gB s c : Int)) (mx + 2)) ∧ RowC 3 1 (.slice (some ⟨g4, 0, none⟩) s.length cap4) s.length (iv sa) c4 ∧ RowC 3 1 (.slice (some ⟨gd, 0, none⟩) (mx + 2) capd) (mx + 2) (iv (mkI (fun c => (gB s c : Int)) (mx + 2))) cd ∧ St B w0 w3 (cd :: obj :: c1 :: c2 :: c3 :: c4 :: F)) :=
                  Lib.hid ⟨InvS.init HG.out HMX.out (mkI_length _ _) (fun c hc => mkI_get _ _ _ (by omega)), h4, hrd, hS⟩
                obtain ⟨sa0, hsa0⟩ : ∃ x, x = sa := ⟨_, rfl⟩
                rw [← hsa0] at HIL HG
                have HQ' : Hid (InvS s mx sa0 s.length sa (mkI (fun c => (gB s c : Int)) (mx + 2)) ∧ RowC 3 1 (.slice (some ⟨g4, 0, none⟩) s.length cap4) s.length (iv sa) c4 ∧ RowC 3 1 (.slice (some ⟨gd, 0, none⟩) (mx + 2) capd) (mx + 2) (iv (mkI (fun c => (gB s c : Int)) (mx + 2))) cd ∧ St B w0 w3 (cd :: obj :: c1 :: c2 :: c3 :: c4 :: F)) := by rw [hsa0]; exact HQ
                clear hS2 hsd hx0 hx1 hx2 hx3 hx4 h4 hS hrd HQ hsa0
                go_wp2_with fail
                go_loopg [11] s.length (fun i s11 wr => i ≤ s.length ∧ s11 = .int .i64 ((i : Int) - 1) ∧ ∃ (sa at_ : List Int) (cd c4 : HL), Hid (InvS s mx sa0 i sa at_ ∧ RowC 3 1 (.slice (some ⟨g4, 0, none⟩) s.length cap4) s.length (iv sa) c4 ∧ RowC 3 1 (.slice (some ⟨gd, 0, none⟩) (mx + 2) capd) (mx + 2) (iv at_) cd ∧ St B w0 wr (cd :: obj :: c1 :: c2 :: c3 :: c4 :: F)))
                case atStart => exact ⟨Nat.le_refl _, by rw [HQN.out.2], _, _, _, _, HQ'⟩
                case round =>
                  clear HQ'
                  obtain ⟨hin, rfl, sa, at_, cd, c4, HQ⟩ := hrel
                  have hS := HQ.out.2.2.2
                  have h4 := HQ.out.2.1
                  have hd := HQ.out.2.2.1
                  obtain ⟨hx0, hx1, hx2, hx3, hx4⟩ := HO.out _ _ hS.tl
                  cases gk with
                  | zero =>
                    go_wp2_with fail
                    go_end0
                    exact ⟨rfl, sa, c4, h4, hS.tl, ⟨sa0, _, _, HIL.out, HQ.out.1⟩⟩
                  | succ i =>
                    have e : (((i + 1 : Nat) : Int) - 1) = (i : Int) := by omega
                    rw [e]
                    clear e
                    have hlt : i < s.length := by omega
                    have hii : (i : Int) ≤ 1000000 := by omega
                    obtain ⟨y, hy⟩ : ∃ y, sa[i]? = some y := ⟨_, List.getElem?_eq_getElem (by rw [HQ.out.1.len]; exact hlt)⟩
                    have hyr := HQ.out.1.rng y (List.mem_of_getElem? hy)
                    have hl4 := h4.cellAt hS 5 rfl (iv_get _ _ y hy)
                    by_cases q1 : y < 1
                    · have hsk := HQ.out.1.skip HG.out HMX.out hlt y hy (fun h => by omega)
                      have HSK := Lib.hid hsk
                      clear hsk hy
                      go_wp2_with fail
                      go_roundg i
                      case measure => omega
                      case rel => exact ⟨by omega, by go_num, _, _, cd, c4, Lib.hid ⟨HSK.out, h4, hd, hS⟩⟩
                    · obtain ⟨P, rfl⟩ : ∃ P : Nat, y = (P : Int) + 1 := ⟨(y - 1).toNat, by omega⟩
                      have hPn : P < s.length := by omega
                      have hl1 := H123.out.1.cellAt hS 2 rfl (bl_get _ P _ (mkB_get (sm s) s.length P hPn))
                      cases hsm : sm s P with
                      | false =>
                        rw [hsm] at hl1
                        have hsk := HQ.out.1.skip HG.out HMX.out hlt _ hy (fun h => by
                          have h2 := h.2
                          rw [show ((P : Int) + 1).toNat - 1 = P from by omega, hsm] at h2
                          cases h2)
                        have HSK := Lib.hid hsk
                        clear hsk hy
                        go_wp2_with fail
                        go_roundg i
                        case measure => omega
                        case rel => exact ⟨by omega, by go_num, _, _, cd, c4, Lib.hid ⟨HSK.out, h4, hd, hS⟩⟩
                      | true =>
                        rw [hsm] at hl1
                        obtain ⟨hP1, a, hat, han, hstep⟩ := HQ.out.1.step HG.out HMX.out hy hsm
                        have hcy : ch s P ≤ mx := HMX.out _ (ch_mem s P hPn)
                        have hct := HTX.out wr c4 hS.tl P hPn
                        have hla := hd.cellAt hS 0 rfl (iv_get _ _ _ hat)
                        have hfa := hd.freeAt hS 0 rfl (ch s P + 1)
                        obtain ⟨z, hz⟩ : ∃ z, sa[a]? = some z := ⟨_, List.getElem?_eq_getElem (by rw [HQ.out.1.len]; exact han)⟩
                        have HST := Lib.hid (And.intro hstep hz)
                        have hai : (a : Int) ≤ 1000000 := by omega
                        have hci : (ch s P : Int) ≤ 1000000 := by omega
                        obtain ⟨cd', hd', hS'⟩ := hd.store hS 0 rfl rfl (ch s P + 1) (.int .i64 (a : Int))
                        rw [iv_set] at hd'
                        have hat2 : (at_.set (ch s P + 1) (a : Int))[ch s P + 1]? = some (a : Int) := List.getElem?_set_self (by rw [HQ.out.1.alen]; omega)
                        obtain ⟨ky0, ky1, ky2, ky3, ky4⟩ := HO.out _ _ hS'.tl
                        have kla := hd'.cellAt hS' 0 rfl (iv_get _ _ _ hat2)
                        have kl4 := h4.cellAt hS' 5 rfl (iv_get _ a z hz)
                        have kf4 := h4.freeAt hS' 5 rfl a
                        have HD := Lib.hid (And.intro hd' hS')
                        clear hy hstep hat hz hsm hd' hS' hat2 ky0 ky1 ky2 ky3
                        go_wp2_with (first | ((with_reducible refine wpStill_plain ?_ ?_ (fun _ _ => ?_)); rfl; rfl) | (with_reducible refine wpStill_nil ?_) | ((with_reducible refine wp_draw_tail (id := 32) 11 mixed ?_ (fun _ hK => ?_)); kernel_rfl; simp only [List.take_succ_cons, List.take_zero, List.drop_succ_cons, List.drop_zero] at hK ⊢))
                        go_roundg i
                        case measure => omega
                        case rel =>
                          obtain ⟨c4', h4', hS2⟩ := h4.store HD.out.2.drew 5 rfl rfl a (.int .i64 (P : Int))
                          exact ⟨by omega, by go_num, _, _, cd', c4', Lib.hid ⟨HST.out.1, by rw [← iv_set]; exact h4', HD.out.1, hS2⟩⟩
              | succ m =>
                have hlt : i < s.length := by omega
                obtain ⟨y, hy⟩ : ∃ y, sa[i]? = some y := ⟨_, List.getElem?_eq_getElem (by rw [HQ.out.1.len]; exact hlt)⟩
                have hyr := HQ.out.1.rng y (List.mem_of_getElem? hy)
                have hl4 := h4.cellAt hS 5 rfl (iv_get _ _ y hy)
                by_cases q1 : y < 1
                · have hsk := HQ.out.1.skip y hy (fun h => by omega)
                  have HSK := Lib.hid hsk
                  clear hsk hy
                  go_wp2_with fail
                  go_roundg m
                  case measure => omega
                  case rel => exact ⟨i + 1, by omega, by go_num, _, _, cb, c4, Lib.hid ⟨HSK.out, h4, hb, hS⟩⟩
                · obtain ⟨P, rfl⟩ : ∃ P : Nat, y = (P : Int) + 1 := ⟨(y - 1).toNat, by omega⟩
                  have hPn : P < s.length := by omega
                  have hl1 := H123.out.1.cellAt hS 2 rfl (bl_get _ P _ (mkB_get (sm s) s.length P hPn))
                  cases hsm : sm s P with
                  | true =>
                    rw [hsm] at hl1
                    have hsk := HQ.out.1.skip _ hy (fun h => by
                      have h2 := h.2
                      rw [show ((P : Int) + 1).toNat - 1 = P from by omega, hsm] at h2
                      cases h2)
                    have HSK := Lib.hid hsk
                    clear hsk hy
                    go_wp2_with fail
                    go_roundg m
                    case measure => omega
                    case rel => exact ⟨i + 1, by omega, by go_num, _, _, cb, c4, Lib.hid ⟨HSK.out, h4, hb, hS⟩⟩
                  | false =>
                    rw [hsm] at hl1
                    obtain ⟨hP1, a, hat, han, hstep⟩ := HQ.out.1.step iok HMX.out hy hsm
                    have hcy : ch s P ≤ mx := HMX.out _ (ch_mem s P hPn)
                    have hct := HTX.out wr c4 hS.tl P hPn
                    have hla := hb.cellAt hS 0 rfl (iv_get _ _ _ hat)
                    obtain ⟨z, hz⟩ : ∃ z, sa[a]? = some z := ⟨_, List.getElem?_eq_getElem (by rw [HQ.out.1.len]; exact han)⟩
                    have hl4a := h4.cellAt hS 5 rfl (iv_get _ a z hz)
                    have hf4 := h4.freeAt hS 5 rfl a
                    have HST := Lib.hid (And.intro hstep hat)
                    clear hy hstep hat hz hsm
                    go_upto_region 21 with (fail)
                    go_cut [10] (fun s10 wc => s10 = .int .i64 ((P : Int) + 1) ∧ ∃ c4', Hid (RowC 3 1 (.slice (some ⟨g4, 0, none⟩) s.length cap4) s.length (iv (sa.set a (P : Int))) c4' ∧ St B w0 wc (cb :: obj :: c1 :: c2 :: c3 :: c4' :: F)))
                    case first =>
                      go_wp2_with (first | ((with_reducible refine wpStill_plain ?_ ?_ (fun _ _ => ?_)); rfl; rfl) | (with_reducible refine wpStill_nil ?_) | ((with_reducible refine wp_draw_tail (id := 21) 18 mixed ?_ (fun _ hK => ?_)); kernel_rfl; simp only [List.take_succ_cons, List.take_zero, List.drop_succ_cons, List.drop_zero] at hK ⊢))
                      go_meet
                      case rel =>
                        obtain ⟨c4', h4', hS'⟩ := h4.store hS.drew 5 rfl rfl a (.int .i64 (P : Int))
                        exact ⟨rfl, c4', Lib.hid ⟨by rw [← iv_set]; exact h4', hS'⟩⟩
                    case rest =>
                      obtain ⟨rfl, c4', HC⟩ := hcut
                      clear hS h4 hx0 hx1 hx2 hx3 hx4 hct hla hl4 hf4 hl4a hl1
                      have hS := HC.out.2
                      obtain ⟨hx0, hx1, hx2, hx3, hx4⟩ := HO.out _ _ hS.tl
                      have hct := HTX.out wc c4' hS.tl P hPn
                      have hla := hb.cellAt hS 0 rfl (iv_get _ _ _ HST.out.2)
                      have hfa := hb.freeAt hS 0 rfl (ch s P)
                      have hai : (a : Int) ≤ 1000000 := by omega
                      go_wp2_with fail
                      go_roundg m
                      case measure => omega
                      case rel =>
                        obtain ⟨cb', hb', hS'⟩ := hb.store hS 0 rfl rfl (ch s P) (.int .i64 ((a : Int) + 1))
                        rw [iv_set] at hb'
                        exact ⟨i + 1, by omega, by go_num, _, _, cb', c4', Lib.hid ⟨HST.out.1, HC.out.1, hb', hS'⟩⟩
        | succ m =>
          have hlt : k < M.length := by omega
          obtain ⟨y, hy⟩ : ∃ y, M[k]? = some y := ⟨_, List.getElem?_eq_getElem hlt⟩
          have hyT : (tI M)[k]? = some (y : Int) := by unfold tI; rw [List.getElem?_map, hy]; rfl
          obtain ⟨adm, rfl, hcm⟩ := (HM.out wr c4 hS.tl).at (iv_get _ k _ hyT)
          have hym := (iok.mem y).1 (List.mem_of_getElem? hy)
          obtain ⟨a, hat, han, hstep⟩ := HQ.out.1.step iok HMX.out hy
          have hcy : ch s y ≤ mx := HMX.out _ (ch_mem s y hym.1)
          have hct := HTX.out wr c4 hS.tl y hym.1
          have hla := ha.cellAt hS 0 rfl (iv_get _ _ _ hat)
          obtain ⟨z, hz⟩ : ∃ z, sa[a]? = some z := ⟨_, List.getElem?_eq_getElem (by rw [HQ.out.1.len]; exact han)⟩
          have hl4 := h4.cellAt hS 5 rfl (iv_get _ a z hz)
          have hf4 := h4.freeAt hS 5 rfl a
          have HST := Lib.hid (And.intro hstep hat)
          have hyn : y < s.length := hym.1
          clear hyT hy hym hstep hat hz
          go_upto_region 9 with (fail)
          go_cut [55] (fun s55 wc => ∃ c4', Hid (RowC 3 1 (.slice (some ⟨g4, 0, none⟩) s.length cap4) s.length (iv (sa.set a (y : Int))) c4' ∧ St B w0 wc (ca :: obj :: c1 :: c2 :: c3 :: c4' :: F)))
          case first =>
            go_wp2_with (first | ((with_reducible refine wpStill_plain ?_ ?_ (fun _ _ => ?_)); rfl; rfl) | (with_reducible refine wpStill_nil ?_) | ((with_reducible refine wp_draw_tail (id := 9) 16 mixed ?_ (fun _ hK => ?_)); kernel_rfl; simp only [List.take_succ_cons, List.take_zero, List.drop_succ_cons, List.drop_zero] at hK ⊢))
            go_meet
            case rel =>
              obtain ⟨c4', h4', hS'⟩ := h4.store hS.drew 5 rfl rfl a (.int .i64 (y : Int))
              exact ⟨c4', Lib.hid ⟨by rw [← iv_set]; exact h4', hS'⟩⟩
          case rest =>
            obtain ⟨c4', HC⟩ := hcut
            clear hS h4 hx0 hx1 hx2 hx3 hx4 hct hla hl4 hf4 hcm
            have hS := HC.out.2
            obtain ⟨hx0, hx1, hx2, hx3, hx4⟩ := HO.out _ _ hS.tl
            have hct := HTX.out wc c4' hS.tl y hyn
            have hla := ha.cellAt hS 0 rfl (iv_get _ _ _ HST.out.2)
            have hfa := ha.freeAt hS 0 rfl (ch s y)
            have hai : (a : Int) ≤ 1000000 := by omega
            go_wp2_with fail
            go_roundg m
            case measure => omega
            case rel =>
              obtain ⟨ca', ha', hS'⟩ := ha.store hS 0 rfl rfl (ch s y) (.int .i64 ((a : Int) + 1))
              rw [iv_set] at ha'
              exact ⟨k + 1, by omega, by go_num, _, _, ca', c4', Lib.hid ⟨HST.out.1, HC.out.1, ha', hS'⟩⟩
    | succ m =>
      have hlt : i < s.length := by omega
      have hrl : (List.replicate i (-1 : Int) ++ A0.drop i).length = s.length := by simp; omega
      obtain ⟨y, hy⟩ : ∃ y, (List.replicate i (-1 : Int) ++ A0.drop i)[i]? = some y := ⟨_, List.getElem?_eq_getElem (by omega)⟩
      have hld := h4.cellAt hS 4 rfl (iv_get _ i y hy)
      have hfr := h4.freeAt hS 4 rfl i
      clear hrl hy
      go_wp2_with fail
      go_roundg m
      case measure => omega
      case rel =>
        obtain ⟨c4', h4', hS'⟩ := h4.store hS 4 rfl rfl i (.int .i64 (-1))
        refine ⟨i + 1, by omega, by go_num, c4', Lib.hid ⟨?_, hS'⟩⟩
        have e : (List.replicate i (-1 : Int) ++ A0.drop i).set i (-1) = List.replicate (i + 1) (-1) ++ A0.drop (i + 1) := by
          rw [List.set_append_right _ _ (by simp), List.length_replicate, Nat.sub_self, List.drop_eq_getElem_cons (by omega), List.set_cons_zero, List.replicate_succ', List.append_assoc]
          rfl
        rw [← e, ← iv_set]
        exact h4'
end
end Go.Proofs.Ytdhnmcdgiddhdaa
/-
  Contract of the sorter's names.
-/
set_option linter.unusedVariables false
set_option linter.unusedSimpArgs false
namespace Go.Proofs.Ytdhnmcdgiddhdaa
open Go.RowKit
set_option maxRecDepth 100000
theorem tI_set (s : List Nat) (i v : Nat) : (tI s).set i (v : Int) = tI (s.set i v) := by
  unfold tI
  rw [List.map_set]
  rfl
/-- The last mark; -1. -/
def lastI (Ms : List Nat) (t : Nat) : Int := if t = 0 then -1 else (Ms.getD (t - 1) 0 : Int)
structure NmTo (s T Ms : List Nat) (i t : Nat) (R : List Nat) : Prop where
  tk : Ms.take t = (T.take i).filter (lms s)
  tl : t ≤ Ms.length
  len : R.length = (marksP s).length
  r : ∀ (u m : Nat), u < t → Ms[u]? = some m → R[cntM s m]? = some (nmAt s Ms u)
theorem NmTo.skip {s T Ms : List Nat} {i t : Nat} {R : List Nat} (h : NmTo s T Ms i t R) (m : Nat) (hm : T[i]? = some m) (hl : lms s m = false) : NmTo s T Ms (i + 1) t R :=
  ⟨by rw [List.take_add_one, hm, List.filter_append, h.tk]; simp [hl], h.tl, h.len, h.r⟩
theorem NmTo.at {s T Ms : List Nat} (hMs : Ms = T.filter (lms s)) {i t : Nat} {R : List Nat} (h : NmTo s T Ms i t R) (m : Nat) (hm : T[i]? = some m) (hl : lms s m = true) : Ms[t]? = some m := by
  have hi := (List.getElem?_eq_some_iff.1 hm).1
  have h1 : T = T.take i ++ (m :: T.drop (i + 1)) := by
    have h2 := List.drop_eq_getElem_cons hi
    rw [(List.getElem?_eq_some_iff.1 hm).2] at h2
    rw [← h2, List.take_append_drop]
  have h3 : Ms = Ms.take t ++ (m :: (T.drop (i + 1)).filter (lms s)) := by
    rw [h.tk]
    conv => lhs; rw [hMs, h1, List.filter_append]
    simp [hl]
  have h4 : (Ms.take t).length = t := by rw [List.length_take]; have := h.tl; omega
  rw [h3, List.getElem?_append_right (by rw [h4]; exact Nat.le_refl _), h4]
  simp
theorem NmTo.step {s T Ms : List Nat} (hMs : Ms = T.filter (lms s)) (hnd : Ms.Nodup) {i t : Nat} {R : List Nat} (h : NmTo s T Ms i t R) (m : Nat) (hm : T[i]? = some m) (hl : lms s m = true) : NmTo s T Ms (i + 1) (t + 1) (R.set (cntM s m) (nmAt s Ms t)) := by
  have hat := h.at hMs m hm hl
  have hlt := (List.getElem?_eq_some_iff.1 hat).1
  refine ⟨?_, by omega, by rw [List.length_set]; exact h.len, ?_⟩
  · rw [List.take_add_one, hat, h.tk, List.take_add_one, hm, List.filter_append]
    simp [hl]
  · intro u x hu hx
    by_cases e : u = t
    · subst e
      rw [hat] at hx
      cases hx
      have h1 := (List.getElem?_eq_some_iff.1 (marksP_at s m hl)).1
      rw [List.getElem?_set_self (by rw [h.len]; exact h1)]
    · have hne : x ≠ m := by
        rintro rfl
        exact e (nodup_at hnd hx hat)
      have h1 := h.r u x (by omega) hx
      have hxl : lms s x = true := by
        have := List.mem_of_getElem? hx
        rw [hMs] at this
        exact (List.mem_filter.1 this).2
      have hc : cntM s m ≠ cntM s x := by
        intro e2
        have h5 := marksP_at s m hl
        have h6 := marksP_at s x hxl
        rw [e2] at h5
        rw [h5] at h6
        cases h6
        exact hne rfl
      rw [List.getElem?_set_ne hc]
      exact h1
theorem NmTo.init (s T Ms : List Nat) : NmTo s T Ms 0 0 (List.replicate (marksP s).length 0) := ⟨by simp, by omega, by simp, by intro u m h; omega⟩
theorem filter_perm_marks {s T : List Nat} (hT : T.Perm (List.range s.length)) : (T.filter (lms s)).Perm (marksP s) := hT.filter _
theorem NmTo.named {s T Ms : List Nat} (hMs : Ms = T.filter (lms s)) (hT : T.Perm (List.range s.length)) (hs : ∀ (i j a b : Nat), T[i]? = some a → T[j]? = some b → i < j → lexle (preK s a) (preK s b))
    {t : Nat} {R : List Nat} (h : NmTo s T Ms s.length t R) : Named s R ∧ ∀ x ∈ R, x ≤ nmAt s Ms (t - 1) := by
  have hTl : T.length = s.length := by have := hT.length_eq; simpa using this
  have hp : Ms.Perm (marksP s) := by rw [hMs]; exact filter_perm_marks hT
  have htk := h.tk
  rw [← hTl, List.take_length, ← hMs] at htk
  have ht : Ms.length ≤ t := by
    have := congrArg List.length htk
    rw [List.length_take] at this
    omega
  have htl := h.tl
  have hfind : ∀ k, k < (marksP s).length → ∃ (u m : Nat), Ms[u]? = some m ∧ cntM s m = k := by
    intro k hk
    have h1 : (marksP s)[k]? = some (marksP s)[k] := List.getElem?_eq_getElem hk
    obtain ⟨u, hu⟩ := List.mem_iff_getElem?.1 (hp.symm.subset (List.mem_of_getElem? h1))
    exact ⟨u, _, hu, (marksP_idx s k _ h1).2.2⟩
  refine ⟨named_of hp ?_ h.len ?_, ?_⟩
  · intro i j a b ha hb hij
    rw [hMs] at ha hb
    obtain ⟨i', j', h1, h2, h3⟩ := filter_order T _ i j a b ha hb hij
    exact hs i' j' a b h2 h3 h1
  · intro u k m hu hk
    have h1 := (marksP_idx s k m hk).2.2
    have h2 := h.r u m (by have := (List.getElem?_eq_some_iff.1 hu).1; omega) hu
    rw [h1] at h2
    unfold ch
    rw [List.getD_eq_getElem?_getD, h2]
    rfl
  · intro x hx
    obtain ⟨k, hk⟩ := List.mem_iff_getElem?.1 hx
    obtain ⟨u, m, hu, hc⟩ := hfind k (by rw [← h.len]; exact (List.getElem?_eq_some_iff.1 hk).1)
    have hul := (List.getElem?_eq_some_iff.1 hu).1
    have h2 := h.r u m (by omega) hu
    rw [hc, hk] at h2
    cases h2
    have := nmAt_mono s Ms u (t - 1 - u)
    rwa [show u + (t - 1 - u) = t - 1 from by omega] at this
def NamesOut (s : List Nat) (w : World) (e : Ending) (w' : World) : Prop :=
  ∃ (u : Value) (R : List Nat) (g : Nat) (c : HL), e = .returned (.tuple #[u, .int .i64 (g : Int)]) ∧ RowC 3 1 u R.length (iv (tI R)) c ∧ St w.heap.size w w' [c] ∧ Named s R ∧ (∀ x ∈ R, x ≤ g) ∧ g ≤ s.length
theorem nmAt_le (s Ms : List Nat) : ∀ t, nmAt s Ms t ≤ t
  | 0 => Nat.le_refl _
  | t + 1 => by have := nmAt_le s Ms t; rw [nmAt]; split <;> omega
set_option maxHeartbeats 4000000 in
theorem names_any (p : Nat) (s T : List Nat) (v4 : Value) (w : World) (hn : s.length ≤ 1000000) (hn1 : 1 ≤ s.length) (hT : T.Perm (List.range s.length)) (hs : ∀ (i j a b : Nat), T[i]? = some a → T[j]? = some b → i < j → lexle (preK s a) (preK s b))
    (hR : ∀ w', Below w.heap.size w w' → SoR w' p s) (hA : ∀ w', Below w.heap.size w w' → w'.cell? ⟨p, 4, none⟩ = some v4 ∧ Rd w' 1 v4 s.length (iv (tI T))) :
    Calls Try.prog 74 #[.pointer (some ⟨p, 0, none⟩)] w (NamesOut s w) := by
  obtain ⟨i0, i0a, i0b, i0c, i0d⟩ := info_parts infoInt
  have hTl : T.length = s.length := by have := hT.length_eq; simpa using this
  have hml := marksP_lt s hn1
  have hnl : (s.length : Int) ≤ 1000000 := by omega
  have hmi : ((marksP s).length : Int) ≤ 1000000 := by omega
  have HT := Lib.hid (And.intro hT hs)
  have HR := Lib.hid hR
  have HA := Lib.hid hA
  have hS := St.init w
  obtain ⟨⟨v0, c0, r0⟩, ⟨v5, c5, r5⟩, ⟨v6, c6, r6⟩⟩ := hR w hS.below
  obtain ⟨ao5, cap5, rfl⟩ := r5.shape
  obtain ⟨ao6, cap6, rfl⟩ := r6.shape
  obtain ⟨ao4, cap4, rfl⟩ := (hA w hS.below).2.shape
  have HTl := Lib.hid hTl
  clear hT hs hR hA r0 r5 r6 c0 hTl
  go_enter Try.func74, Try.ntmps74
  have c4 := (HA.out w hS.below).1
  go_wp2_with fail
  go_step3
  go_wp2_with (at_make; (refine wpList_mk (n := (marksP s).length) 36 i0 (.int .i64 0) _ _ rfl rfl _ _ _ _ rfl rfl Try.underlying36 i0a i0b i0c i0d rfl ?_ ?_ ?_ ?_ hS ?_); omega; omega; omega; (unfold maxLen; omega); intro g cl w1 hr hS1)
  have HQ : Hid (RowC 3 1 (.slice (some ⟨g, 0, none⟩) (marksP s).length (marksP s).length) (marksP s).length (iv (tI (List.replicate (marksP s).length 0))) cl ∧ St w.heap.size w w1 [cl] ∧ NmTo s T (T.filter (lms s)) 0 0 (List.replicate (marksP s).length 0)) :=
    Lib.hid ⟨by rw [show tI (List.replicate (marksP s).length 0) = List.replicate (marksP s).length 0 from by simp [tI], iv_replicate]; exact hr, hS1, NmTo.init _ _ _⟩
  have c4 := (HA.out w1 hS1.below).1
  clear hr hS hS1
  go_step3
  go_wp2_with fail
  clear c4 c5 c6
  go_loopg [5, 6, 20] s.length (fun m s5 s6 s20 wr => ∃ i : Nat, i + m = s.length ∧ s20 = .int .i64 (i : Int) ∧ ∃ (t : Nat) (R : List Nat) (cl : HL), t ≤ i ∧ s5 = .int .i64 (nmAt s (T.filter (lms s)) (t - 1) : Int) ∧ s6 = .int .i64 (lastI (T.filter (lms s)) t) ∧
    Hid (RowC 3 1 (.slice (some ⟨g, 0, none⟩) (marksP s).length (marksP s).length) (marksP s).length (iv (tI R)) cl ∧ St w.heap.size w wr [cl] ∧ NmTo s T (T.filter (lms s)) i t R))
  case atStart => exact ⟨0, by omega, rfl, 0, _, _, by omega, rfl, rfl, HQ⟩
  case round =>
    clear HQ
    obtain ⟨i, hi, rfl, t, R, cl, hti, rfl, rfl, HQ⟩ := hrel
    have hS := HQ.out.2.1
    have hr := HQ.out.1
    have hb := hS.below
    cases gk with
    | zero =>
      obtain rfl : i = s.length := by omega
      have hnm := HQ.out.2.2.named rfl HT.out.1 HT.out.2
      have hrl := HQ.out.2.2.len
      have HN := Lib.hid (And.intro hnm hrl)
      clear hnm hrl hi
      go_wp2_with fail
      (try rw [Exit.noGoto_ret])
      go_ret2
      exact ⟨_, R, _, cl, rfl, by rw [HN.out.2]; exact hr, hS, HN.out.1.1, HN.out.1.2, by have := nmAt_le s (T.filter (lms s)) (t - 1); omega⟩
    | succ m =>
      have hlt : i < s.length := by omega
      obtain ⟨y, hy⟩ : ∃ y, T[i]? = some y := ⟨_, List.getElem?_eq_getElem (by rw [HTl.out]; exact hlt)⟩
      have hyn : y < s.length := by have := HT.out.1.subset (List.mem_of_getElem? hy); simpa using this
      have hyT : (tI T)[i]? = some (y : Int) := by unfold tI; rw [List.getElem?_map, hy]; rfl
      obtain ⟨k4, r4⟩ := HA.out wr hb
      obtain ⟨ad4, rfl, hc4⟩ := r4.at (iv_get _ i _ hyT)
      obtain ⟨_, _, ⟨v6', k6, r6⟩⟩ := HR.out wr hb
      obtain ⟨ao6', cap6', rfl⟩ := r6.shape
      obtain ⟨ad6, rfl, hc6⟩ := r6.at (iv_get _ y _ (mkI_get (numP s) (s.length + 1) y (by omega)))
      have hym : (y : Int) < s.length + 1 := by omega
      have HY := Lib.hid hy
      clear hyT hy r4 r6
      cases hl : lms s y with
      | false =>
        have hnp : numP s y = -1 := by unfold numP; rw [hl]; rfl
        rw [hnp] at hc6
        have HSK := Lib.hid (HQ.out.2.2.skip y HY.out hl)
        clear hnp hl
        go_wp2_with fail
        go_roundg m
        case measure => omega
        case rel => exact ⟨i + 1, by omega, by go_num, t, R, cl, by omega, rfl, rfl, Lib.hid ⟨hr, hS, HSK.out⟩⟩
      | true =>
        have hnp : numP s y = (cntM s y : Int) := by unfold numP; rw [hl]; rfl
        rw [hnp] at hc6
        have hat := HQ.out.2.2.at rfl y HY.out hl
        have hnd : (T.filter (lms s)).Nodup := (List.Perm.nodup_iff (filter_perm_marks HT.out.1)).2 (marksP_ok s).nd
        have hst := HQ.out.2.2.step rfl hnd y HY.out hl
        have hkl := (List.getElem?_eq_some_iff.1 (marksP_at s y hl)).1
        have hRl := HQ.out.2.2.len
        obtain ⟨z, hz⟩ : ∃ z, (tI R)[cntM s y]? = some z := ⟨_, List.getElem?_eq_getElem (by rw [tI_length]; omega)⟩
        have hlr := hr.cellAt hS 0 rfl (iv_get _ _ z hz)
        have hfr := hr.freeAt hS 0 rfl (cntM s y)
        have hni := nmAt_le s (T.filter (lms s)) (t - 1)
        have hnb : (nmAt s (T.filter (lms s)) (t - 1) : Int) ≤ 1000000 := by omega
        have hlen : (marksP s).length ≤ s.length := by omega
        have hci : ((cntM s y : Nat) : Int) < ((marksP s).length : Int) := by omega
        have HST := Lib.hid (And.intro hst hat)
        have hlast : lastI (T.filter (lms s)) (t + 1) = (y : Int) := by
          unfold lastI
          rw [if_neg (by omega), Nat.add_sub_cancel, List.getD_eq_getElem?_getD, hat]
          rfl
        have HLA := Lib.hid hlast
        clear hnp hst hat hz hlast hRl
        by_cases ht : t = 0
        · subst ht
          have q1 : lastI (T.filter (lms s)) 0 = -1 := rfl
          rw [q1]
          have HST2 : NmTo s T (T.filter (lms s)) (i + 1) 1 (R.set (cntM s y) 0) := HST.out.1
          have HST3 := Lib.hid HST2
          clear HST2 q1
          rw [show nmAt s (T.filter (lms s)) (0 - 1) = 0 from rfl]
          go_wp2_with fail
          go_roundg m
          case measure => omega
          case rel =>
            obtain ⟨c', hr', hS'⟩ := hr.store hS 0 rfl rfl (cntM s y) (.int .i64 0)
            rw [iv_set, show ((0 : Int)) = ((0 : Nat) : Int) from rfl, tI_set] at hr'
            exact ⟨i + 1, by omega, by go_num, 1, _, c', by omega, rfl, by rw [HLA.out], Lib.hid ⟨hr', hS', HST3.out⟩⟩
        · obtain ⟨x, hx⟩ : ∃ x, (T.filter (lms s))[t - 1]? = some x := ⟨_, List.getElem?_eq_getElem (by have := HQ.out.2.2.tl; omega)⟩
          have hxl : lms s x = true := (List.mem_filter.1 (List.mem_of_getElem? hx)).2
          have hxy : x ≠ y := by
            rintro rfl
            have := nodup_at hnd hx HST.out.2
            omega
          have q1 : lastI (T.filter (lms s)) t = (x : Int) := by
            unfold lastI
            rw [if_neg ht, List.getD_eq_getElem?_getD, hx]
            rfl
          rw [q1]
          have hnm : nmAt s (T.filter (lms s)) t = nmAt s (T.filter (lms s)) (t - 1) + (if preK s x = preK s y then 0 else 1) := by
            obtain ⟨t', rfl⟩ : ∃ t', t = t' + 1 := ⟨t - 1, by omega⟩
            rw [nmAt, Nat.add_sub_cancel]
            rw [Nat.add_sub_cancel] at hx
            rw [List.getD_eq_getElem?_getD, hx, List.getD_eq_getElem?_getD, HST.out.2]
            rfl
          have HNM := Lib.hid hnm
          have hx0 : (0 : Int) ≤ (x : Int) := by omega
          clear q1 hnm hx hnd
          have hxs : x < s.length := by have := lms_lt hxl; omega
          go_wp2_with fail
          refine (same_any p s x y wr (HR.out wr hb) hn hxl hl hxy).mono ?_
          rintro e w6 ⟨rfl, hd⟩
          obtain ⟨nd, rfl⟩ := hd.out
          have hS6 := hS.drewN nd
          have HS6 := Lib.hid hS6
          clear hS6 hd
          by_cases he : preK s x = preK s y
          · rw [show decide (preK s x = preK s y) = true from by simp [he]]
            have HNM2 : Hid (nmAt s (T.filter (lms s)) t = nmAt s (T.filter (lms s)) (t - 1)) := Lib.hid (by rw [HNM.out, if_pos he]; rfl)
            clear he
            go_wp2_with fail
            go_roundg m
            case measure => omega
            case rel =>
              obtain ⟨c', hr', hS'⟩ := hr.store HS6.out 0 rfl rfl (cntM s y) (.int .i64 (nmAt s (T.filter (lms s)) (t - 1) : Int))
              rw [iv_set, tI_set, ← HNM2.out] at hr'
              refine ⟨i + 1, by omega, by go_num, t + 1, _, c', by omega, by rw [Nat.add_sub_cancel, HNM2.out], by rw [HLA.out], Lib.hid ⟨hr', ?_, HST.out.1⟩⟩
              rw [← HNM2.out] at hS'
              rw [← HNM2.out]
              exact hS'
          · rw [show decide (preK s x = preK s y) = false from by simp [he]]
            have HNM2 : Hid (nmAt s (T.filter (lms s)) t = nmAt s (T.filter (lms s)) (t - 1) + 1) := Lib.hid (by rw [HNM.out, if_neg he])
            clear he
            go_wp2_with fail
            go_roundg m
            case measure => omega
            case rel =>
              have e1 : (nmAt s (T.filter (lms s)) (t - 1) : Int) + 1 = (nmAt s (T.filter (lms s)) t : Int) := by rw [HNM2.out]; simp
              rw [e1]
              obtain ⟨c', hr', hS'⟩ := hr.store HS6.out 0 rfl rfl (cntM s y) (.int .i64 (nmAt s (T.filter (lms s)) t : Int))
              rw [iv_set, tI_set] at hr'
              exact ⟨i + 1, by omega, by go_num, t + 1, _, c', by omega, by rw [Nat.add_sub_cancel], by rw [HLA.out], Lib.hid ⟨hr', hS', HST.out.1⟩⟩
end Go.Proofs.Ytdhnmcdgiddhdaa
