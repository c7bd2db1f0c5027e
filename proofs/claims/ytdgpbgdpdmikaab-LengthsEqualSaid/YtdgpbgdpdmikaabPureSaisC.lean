/-
  Induced sorting, plain: the two kinds of keys, names of pieces, and that the marks' order comes out of the names'.
-/
import Derived.Test.YtdgpbgdpdmikaabPureSaisB
set_option linter.unusedVariables false
set_option linter.unusedSimpArgs false
namespace Go.Proofs.Ytdgpbgdpdmikaab

/-! Whole suffixes as keys -/
def fullK (s : List Nat) (j : Nat) : List Nat := ((List.range s.length).map (code s)).drop j
theorem fullK_cons (s : List Nat) (j : Nat) (h : j < s.length) : fullK s j = code s j :: fullK s (j + 1) := by
  unfold fullK
  rw [List.drop_eq_getElem_cons (by simpa using h)]
  simp
theorem fullK_nil (s : List Nat) (j : Nat) (h : s.length ≤ j) : fullK s j = [] := List.drop_of_length_le (by simpa using h)
theorem fullK_len (s : List Nat) (j : Nat) : (fullK s j).length = s.length - j := by simp [fullK]
theorem fullK_inj (s : List Nat) (i j : Nat) (hi : i ≤ s.length) (hj : j ≤ s.length) (h : fullK s i = fullK s j) : i = j := by
  have := congrArg List.length h
  rw [fullK_len, fullK_len] at this
  omega
theorem drop_ch (s : List Nat) (i : Nat) (h : i < s.length) : s.drop i = ch s i :: s.drop (i + 1) := by
  rw [List.drop_eq_getElem_cons h]
  congr 1
  unfold ch
  rw [List.getD_eq_getElem?_getD, List.getElem?_eq_getElem h]
  rfl
/-- Of two suffixes that begin alike the great one is less than the small one. -/
theorem kinds_lt (s : List Nat) : ∀ d i j, i + d = s.length → j < s.length → ch s i = ch s j → sm s i = false → sm s j = true → i < s.length → lexlt (s.drop i) (s.drop j) = true
  | 0, i, j, hd, _, _, _, _, hi => by omega
  | d + 1, i, j, hd, hj, hc, hi, hjs, hil => by
    obtain ⟨j1, j2⟩ := sm_true s j hjs
    rw [drop_ch s i hil, drop_ch s j hj, lexlt_cons]
    refine .inr ⟨hc, ?_⟩
    rcases Nat.lt_or_ge (i + 1) s.length with h1 | h1
    · rw [drop_ch s (i + 1) h1, drop_ch s (j + 1) j1, lexlt_cons]
      rcases sm_false s i hi h1 with h2 | ⟨h2, h3⟩
      · left; rcases j2 with h4 | ⟨h4, _⟩ <;> omega
      · rcases j2 with h4 | ⟨h4, h5⟩
        · left; omega
        · right
          have h6 : ch s (i + 1) = ch s (j + 1) := by omega
          refine ⟨h6, ?_⟩
          have := kinds_lt s d (i + 1) (j + 1) (by omega) j1 h6 h3 h5 h1
          rw [drop_ch s (i + 1) h1, drop_ch s (j + 1) j1, lexlt_cons] at this
          rcases this with h7 | h7
          · omega
          · exact h7.2
    · rw [List.drop_of_length_le h1, drop_ch s (j + 1) j1]
      rfl
theorem code_eq {s : List Nat} {i j : Nat} (h : code s i = code s j) : ch s i = ch s j ∧ sm s i = sm s j := by
  unfold code at h
  cases hi : sm s i <;> cases hj : sm s j <;> rw [hi, hj] at h <;> simp at h <;> first | exact ⟨by omega, rfl⟩ | (exfalso; omega)
theorem code_lt {s : List Nat} {i j : Nat} (h : code s i < code s j) : ch s i < ch s j ∨ ch s i = ch s j ∧ sm s i = false ∧ sm s j = true := by
  unfold code at h
  cases hi : sm s i <;> cases hj : sm s j <;> rw [hi, hj] at h <;> simp at h <;> first | (left; omega) | (rcases Nat.lt_or_ge (ch s i) (ch s j) with h1 | h1; exact .inl h1; right; exact ⟨by omega, rfl, rfl⟩)
theorem full_raw (s : List Nat) : ∀ d i j, i + d = s.length → j ≤ s.length → lexlt (fullK s i) (fullK s j) = true → lexlt (s.drop i) (s.drop j) = true
  | d, i, j, hd, hj, h => by
    rcases Nat.lt_or_ge j s.length with h1 | h1
    · rcases Nat.lt_or_ge i s.length with h2 | h2
      · rw [fullK_cons s i h2, fullK_cons s j h1, lexlt_cons] at h
        rw [drop_ch s i h2, drop_ch s j h1, lexlt_cons]
        rcases h with h | ⟨h, h3⟩
        · rcases code_lt h with h4 | ⟨h4, h5, h6⟩
          · exact .inl h4
          · have := kinds_lt s d i j hd h1 h4 h5 h6 h2
            rw [drop_ch s i h2, drop_ch s j h1, lexlt_cons] at this
            exact this
        · obtain ⟨d, rfl⟩ : ∃ k, d = k + 1 := ⟨d - 1, by omega⟩
          exact .inr ⟨(code_eq h).1, full_raw s d (i + 1) (j + 1) (by omega) h1 h3⟩
      · rw [List.drop_of_length_le h2, drop_ch s j h1]
        rfl
    · rw [fullK_nil s j h1, lexlt_nil] at h
      cases h

/-! An order of suffixes -/
structure IsSA (s : List Nat) (T : List Nat) : Prop where
  perm : T.Perm (List.range s.length)
  sorted : T.Pairwise fun u v => lexlt (s.drop u) (s.drop v) = true
theorem IsSA.unique {s T U : List Nat} (h : IsSA s T) (h' : IsSA s U) : T = U := by
  refine List.Perm.eq_of_pairwise (le := fun u v => lexlt (s.drop u) (s.drop v) = true) ?_ h.sorted h'.sorted (h.perm.trans h'.perm.symm)
  intro a b _ _ h1 h2
  have := lexlt_asymm _ _ h1
  rw [this] at h2
  cases h2
theorem Keys.full {s M : List Nat} (hM : ∀ (i j a b : Nat), M[i]? = some a → M[j]? = some b → i < j → ch s a = ch s b → lexle (fullK s a) (fullK s b)) : Keys s M (fullK s) (fullK s) :=
  ⟨fun j hj => fullK_cons s j hj, fun _ _ => rfl, fullK_nil s _ (Nat.le_refl _), fun j hj => ⟨_, fullK_cons s j hj⟩, hM⟩
theorem Induced.isSA {s : List Nat} {mx : Nat} {M : List Nat} {A : List Int} (h : Induced s mx M A) (hM : MarksOk s M) (hmx : ∀ x ∈ s, x ≤ mx)
    (hs : ∀ (i j a b : Nat), M[i]? = some a → M[j]? = some b → i < j → ch s a = ch s b → lexle (fullK s a) (fullK s b)) : ∃ T : List Nat, A = T.map Int.ofNat ∧ IsSA s T := by
  obtain ⟨T, rfl, hT⟩ := h.perm hM hmx
  refine ⟨T, rfl, hT, ?_⟩
  have hnd : T.Nodup := (List.Perm.nodup_iff hT).2 List.nodup_range
  rw [List.pairwise_iff_getElem]
  intro i j hi hj hij
  have h1 : (T.map Int.ofNat)[i]? = some ((T[i] : Nat) : Int) := by simp [hi]
  have h2 : (T.map Int.ofNat)[j]? = some ((T[j] : Nat) : Int) := by simp [hj]
  have hu : T[i] < s.length := by have := hT.subset (List.getElem_mem hi); simpa using this
  have hv : T[j] < s.length := by have := hT.subset (List.getElem_mem hj); simpa using this
  have h3 := h.sorted hM hmx (Keys.full hs) (s.length - T[i]) T[i] T[j] i j (by omega) hij h1 h2
  rcases (lexle_iff _ _).1 h3 with h4 | h4
  · have := fullK_inj s _ _ (by omega) (by omega) h4
    have := (List.getElem_inj hnd).1 this
    omega
  · exact full_raw s (s.length - T[i]) T[i] T[j] (by omega) (by omega) h4

/-! Pieces as keys -/
def preF (s : List Nat) : Nat → Nat → List Nat
  | 0, _ => []
  | d + 1, j => if lms s j then [code s j] else code s j :: preF s d (j + 1)
def preK' (s : List Nat) (j : Nat) : List Nat := preF s (s.length - j) j
def preK (s : List Nat) (j : Nat) : List Nat := if j < s.length then code s j :: preK' s (j + 1) else []
theorem preK'_nil (s : List Nat) (j : Nat) (h : s.length ≤ j) : preK' s j = [] := by unfold preK'; rw [show s.length - j = 0 from by omega]; rfl
theorem preK'_at (s : List Nat) (j : Nat) (h : j < s.length) : preK' s j = if lms s j then [code s j] else code s j :: preK' s (j + 1) := by
  unfold preK'
  rw [show s.length - j = (s.length - (j + 1)) + 1 from by omega, preF]
theorem preK_at (s : List Nat) (j : Nat) (h : j < s.length) : preK s j = code s j :: preK' s (j + 1) := by unfold preK; rw [if_pos h]
theorem lms_lt {s : List Nat} {i : Nat} (h : lms s i = true) : i + 1 < s.length := (sm_true s i (lms_sm h)).1
theorem preK'_lms (s : List Nat) (j : Nat) (h : lms s j = true) : preK' s j = [code s j] := by rw [preK'_at s j (by have := lms_lt h; omega), if_pos h]
theorem preK'_not (s : List Nat) (j : Nat) (h : lms s j = false) : preK' s j = preK s j := by
  rcases Nat.lt_or_ge j s.length with h1 | h1
  · rw [preK'_at s j h1, preK_at s j h1, if_neg (by simp [h])]
  · rw [preK'_nil s j h1]; unfold preK; rw [if_neg (by omega)]
theorem preK'_head (s : List Nat) (j : Nat) (h : j < s.length) : ∃ t, preK' s j = code s j :: t := by
  rw [preK'_at s j h]
  split
  · exact ⟨_, rfl⟩
  · exact ⟨_, rfl⟩
theorem Keys.pre {s M : List Nat} (hM : MarksOk s M) : Keys s M (preK s) (preK' s) := by
  refine ⟨fun j hj => preK_at s j hj, fun j hj => preK'_not s j hj, preK'_nil s _ (Nat.le_refl _), fun j hj => preK'_head s j hj, ?_⟩
  intro i j a b ha hb _ hc
  have h1 := (hM.mem a).1 (List.mem_of_getElem? ha)
  have h2 := (hM.mem b).1 (List.mem_of_getElem? hb)
  rw [preK'_lms s a h1.2, preK'_lms s b h2.2]
  have : code s a = code s b := by unfold code; rw [lms_sm h1.2, lms_sm h2.2, hc]
  rw [this]
  exact lexle_refl _
/-- The next mark behind a place, or the end. -/
def nxF (s : List Nat) : Nat → Nat → Nat
  | 0, j => j
  | d + 1, j => if lms s j then j else nxF s d (j + 1)
def nx (s : List Nat) (a : Nat) : Nat := nxF s (s.length - (a + 1)) (a + 1)
theorem nxF_spec (s : List Nat) : ∀ d j, j + d = s.length → j ≤ nxF s d j ∧ nxF s d j ≤ s.length ∧ (∀ i, j ≤ i → i < nxF s d j → lms s i = false) ∧ (nxF s d j < s.length → lms s (nxF s d j) = true)
  | 0, j, h => ⟨Nat.le_refl _, by show j ≤ _; omega, fun i h1 h2 => by have : nxF s 0 j = j := rfl; omega, fun h1 => by have : nxF s 0 j = j := rfl; omega⟩
  | d + 1, j, h => by
    rw [nxF]
    cases hl : lms s j with
    | true => exact ⟨Nat.le_refl _, by simp; omega, fun i h1 h2 => by simp at h2; omega, fun _ => hl⟩
    | false =>
      obtain ⟨h1, h2, h3, h4⟩ := nxF_spec s d (j + 1) (by omega)
      simp only [Bool.false_eq_true, if_false]
      refine ⟨by omega, h2, fun i h5 h6 => ?_, h4⟩
      by_cases e : i = j
      · subst e; exact hl
      · exact h3 i (by omega) h6
theorem nx_step (s : List Nat) (a : Nat) (h : a + 1 < s.length) : nx s a = if lms s (a + 1) then a + 1 else nx s (a + 1) := by
  unfold nx
  rw [show s.length - (a + 1) = (s.length - (a + 1 + 1)) + 1 from by omega, nxF]
theorem nx_end (s : List Nat) (a : Nat) (h : a + 1 = s.length) : nx s a = a + 1 := by
  unfold nx
  rw [show s.length - (a + 1) = 0 from by omega]
  rfl
theorem lms_of_codes {s : List Nat} {a b : Nat} (h0 : code s a = code s b) (h1 : code s (a + 1) = code s (b + 1)) : lms s (a + 1) = lms s (b + 1) := by
  rw [lms_succ, lms_succ, (code_eq h0).2, (code_eq h1).2]
/-- Pieces that stand one ahead of the other: so do the suffixes. -/
theorem pre_full_lt (s : List Nat) : ∀ d a b, a + d = s.length → a < s.length → b < s.length → lexlt (preK s a) (preK s b) = true → lexlt (fullK s a) (fullK s b) = true
  | 0, a, b, hd, ha, _, _ => by omega
  | d + 1, a, b, hd, ha, hb, h => by
    rw [preK_at s a ha, preK_at s b hb, lexlt_cons] at h
    rw [fullK_cons s a ha, fullK_cons s b hb, lexlt_cons]
    rcases h with h | ⟨h0, h⟩
    · exact .inl h
    · refine .inr ⟨h0, ?_⟩
      rcases Nat.lt_or_ge (b + 1) s.length with hb1 | hb1
      · rcases Nat.lt_or_ge (a + 1) s.length with ha1 | ha1
        · cases hla : lms s (a + 1) with
          | true =>
            rw [preK'_lms s _ hla] at h
            cases hlb : lms s (b + 1) with
            | true =>
              rw [preK'_lms s _ hlb, lexlt_cons] at h
              rw [fullK_cons s _ ha1, fullK_cons s _ hb1, lexlt_cons]
              rcases h with h | ⟨_, h⟩
              · exact .inl h
              · cases h
            | false =>
              rw [preK'_not s _ hlb, preK_at s _ hb1, lexlt_cons] at h
              rw [fullK_cons s _ ha1, fullK_cons s _ hb1, lexlt_cons]
              rcases h with h | ⟨h, _⟩
              · exact .inl h
              · have := lms_of_codes h0 h
                rw [hla, hlb] at this
                cases this
          | false =>
            rw [preK'_not s _ hla] at h
            cases hlb : lms s (b + 1) with
            | true =>
              rw [preK'_lms s _ hlb, preK_at s _ ha1, lexlt_cons, lexlt_nil] at h
              rw [fullK_cons s _ ha1, fullK_cons s _ hb1, lexlt_cons]
              rcases h with h | ⟨_, h⟩
              · exact .inl h
              · cases h
            | false =>
              rw [preK'_not s _ hlb] at h
              exact pre_full_lt s d (a + 1) (b + 1) (by omega) ha1 hb1 h
        · rw [fullK_nil s _ ha1, fullK_cons s _ hb1]
          rfl
      · rw [preK'_nil s _ hb1, lexlt_nil] at h
        cases h
/-- The same piece: what follows decides. -/
theorem pre_full_eq (s : List Nat) : ∀ d a b, a + d = s.length → a < s.length → b < s.length → preK s a = preK s b → lexlt (fullK s (nx s a)) (fullK s (nx s b)) = true → lexlt (fullK s a) (fullK s b) = true
  | 0, a, b, hd, ha, _, _, _ => by omega
  | d + 1, a, b, hd, ha, hb, h, hn => by
    rw [preK_at s a ha, preK_at s b hb, List.cons.injEq] at h
    obtain ⟨h0, h⟩ := h
    rw [fullK_cons s a ha, fullK_cons s b hb, lexlt_cons]
    refine .inr ⟨h0, ?_⟩
    rcases Nat.lt_or_ge (a + 1) s.length with ha1 | ha1
    · obtain ⟨ta, hta⟩ := preK'_head s (a + 1) ha1
      have hb1 : b + 1 < s.length := by
        rcases Nat.lt_or_ge (b + 1) s.length with hb1 | hb1
        · exact hb1
        · rw [preK'_nil s _ hb1, hta] at h; cases h
      obtain ⟨tb, htb⟩ := preK'_head s (b + 1) hb1
      have h1 : code s (a + 1) = code s (b + 1) := by rw [hta, htb] at h; exact (List.cons.inj h).1
      have hl := lms_of_codes h0 h1
      rw [nx_step s a ha1, nx_step s b hb1, ← hl] at hn
      cases hla : lms s (a + 1) with
      | true => rw [hla] at hn; exact hn
      | false =>
        rw [hla] at hn hl
        rw [preK'_not s _ hla, preK'_not s _ hl.symm] at h
        exact pre_full_eq s d (a + 1) (b + 1) (by omega) ha1 hb1 h hn
    · have hb1 : s.length ≤ b + 1 := by
        rcases Nat.lt_or_ge (b + 1) s.length with hb1 | hb1
        · obtain ⟨tb, htb⟩ := preK'_head s (b + 1) hb1
          rw [preK'_nil s _ ha1, htb] at h; cases h
        · exact hb1
      rw [nx_end s a (by omega), nx_end s b (by omega), fullK_nil s _ hb1, lexlt_nil] at hn
      cases hn

/-! When two pieces are the same -/
theorem pre_same (s : List Nat) : ∀ e a b, a + e = s.length → a < s.length → b < s.length → a ≠ b → preK s a = preK s b → ∃ d, nx s a = a + d ∧ nx s b = b + d ∧ 1 ≤ d ∧ nx s a < s.length ∧ nx s b < s.length ∧ ∀ k, k ≤ d → ch s (a + k) = ch s (b + k)
  | 0, a, b, hd, ha, _, _, _ => by omega
  | e + 1, a, b, hd, ha, hb, hne, h => by
    rw [preK_at s a ha, preK_at s b hb, List.cons.injEq] at h
    obtain ⟨h0, h⟩ := h
    rcases Nat.lt_or_ge (a + 1) s.length with ha1 | ha1
    · obtain ⟨ta, hta⟩ := preK'_head s (a + 1) ha1
      have hb1 : b + 1 < s.length := by
        rcases Nat.lt_or_ge (b + 1) s.length with hb1 | hb1
        · exact hb1
        · rw [preK'_nil s _ hb1, hta] at h; cases h
      obtain ⟨tb, htb⟩ := preK'_head s (b + 1) hb1
      have h1 : code s (a + 1) = code s (b + 1) := by rw [hta, htb] at h; exact (List.cons.inj h).1
      have hl := lms_of_codes h0 h1
      rw [nx_step s a ha1, nx_step s b hb1, ← hl]
      cases hla : lms s (a + 1) with
      | true =>
        refine ⟨1, by simp, by simp, Nat.le_refl _, by simpa using ha1, by simpa using hb1, ?_⟩
        intro k hk
        have : k = 0 ∨ k = 1 := by omega
        rcases this with rfl | rfl
        · exact (code_eq h0).1
        · exact (code_eq h1).1
      | false =>
        rw [hla] at hl
        rw [preK'_not s _ hla, preK'_not s _ hl.symm] at h
        obtain ⟨d, d1, d2, d3, d4, d5, d6⟩ := pre_same s e (a + 1) (b + 1) (by omega) ha1 hb1 (by omega) h
        simp only [Bool.false_eq_true, if_false]
        refine ⟨d + 1, by omega, by omega, by omega, d4, d5, ?_⟩
        intro k hk
        cases k with
        | zero => exact (code_eq h0).1
        | succ k => have := d6 k (by omega); rwa [show a + 1 + k = a + (k + 1) from by omega, show b + 1 + k = b + (k + 1) from by omega] at this
    · exfalso
      rcases Nat.lt_or_ge (b + 1) s.length with hb1 | hb1
      · obtain ⟨tb, htb⟩ := preK'_head s (b + 1) hb1
        rw [preK'_nil s _ ha1, htb] at h; cases h
      · omega
theorem same_pre (s : List Nat) (a b d : Nat) (h1 : nx s a = a + d) (h2 : nx s b = b + d) (h3 : nx s a < s.length) (h4 : nx s b < s.length) (hc : ∀ k, k ≤ d → ch s (a + k) = ch s (b + k)) (ha : a < s.length) (hb : b < s.length) : preK s a = preK s b := by
  obtain ⟨a1, a2, a3, a4⟩ := nxF_spec s (s.length - (a + 1)) (a + 1) (by omega)
  obtain ⟨b1, b2, b3, b4⟩ := nxF_spec s (s.length - (b + 1)) (b + 1) (by omega)
  have hla : lms s (nx s a) = true := a4 h3
  have hlb : lms s (nx s b) = true := b4 h4
  have hd : 1 ≤ d := by have : a + 1 ≤ nx s a := a1; omega
  rw [h1] at hla h3
  rw [h2] at hlb h4
  have hsm : ∀ e k, k + e = d → sm s (a + k) = sm s (b + k) := by
    intro e
    induction e with
    | zero => intro k hk; obtain rfl : k = d := by omega
              rw [lms_sm hla, lms_sm hlb]
    | succ e ih =>
      intro k hk
      have h5 := ih (k + 1) (by omega)
      have h6 := hc k (by omega)
      have h7 := hc (k + 1) (by omega)
      rw [← Nat.add_assoc, ← Nat.add_assoc] at h5 h7
      rw [sm_step s (a + k) (by omega), sm_step s (b + k) (by omega), h5, h6, h7]
  have hcode : ∀ k, k ≤ d → code s (a + k) = code s (b + k) := by
    intro k hk
    unfold code
    rw [hc k hk, hsm (d - k) k (by omega)]
  have key : ∀ e k, k + e = d → 1 ≤ e → preK s (a + k) = preK s (b + k) := by
    intro e
    induction e with
    | zero => intro k _ h; omega
    | succ e ih =>
      intro k hk _
      rw [preK_at s (a + k) (by omega), preK_at s (b + k) (by omega), hcode k (by omega)]
      congr 1
      by_cases he : e = 0
      · subst he
        rw [show a + k + 1 = a + d from by omega, show b + k + 1 = b + d from by omega, preK'_lms s _ hla, preK'_lms s _ hlb, hcode d (Nat.le_refl _)]
      · rw [preK'_not s _ (a3 (a + k + 1) (by omega) (by show _ < nx s a; omega)), preK'_not s _ (b3 (b + k + 1) (by omega) (by show _ < nx s b; omega))]
        exact ih (k + 1) (by omega) (by omega)
  exact key d 0 (by omega) hd

/-! The marks, by their numbers -/
def marksP (s : List Nat) : List Nat := (List.range s.length).filter (lms s)
/-- How many marks stand ahead of a place. -/
def cntM (s : List Nat) (p : Nat) : Nat := ((List.range p).filter (lms s)).length
theorem marksP_ok (s : List Nat) : MarksOk s (marksP s) := ⟨List.Pairwise.filter _ List.nodup_range, fun m => by simp [marksP]⟩
theorem cntM_succ (s : List Nat) (p : Nat) : cntM s (p + 1) = cntM s p + (lms s p).toNat := by
  unfold cntM
  rw [List.range_succ, List.filter_append, List.length_append]
  congr 1
  cases h : lms s p <;> simp [h]
theorem cntM_mono (s : List Nat) {a b : Nat} (h : a ≤ b) : cntM s a ≤ cntM s b := by
  induction b with
  | zero => have : a = 0 := by omega
            subst this; exact Nat.le_refl _
  | succ b ih =>
    by_cases e : a = b + 1
    · subst e; exact Nat.le_refl _
    · have := ih (by omega)
      rw [cntM_succ]; omega
theorem filter_range_at (q : Nat → Bool) : ∀ (n a : Nat), a < n → q a = true → ((List.range n).filter q)[((List.range a).filter q).length]? = some a
  | 0, a, h, _ => by omega
  | n + 1, a, h, hq => by
    rw [List.range_succ, List.filter_append]
    by_cases e : a = n
    · subst e
      rw [List.getElem?_append_right (Nat.le_refl _), Nat.sub_self]
      simp [hq]
    · have h1 := filter_range_at q n a (by omega) hq
      rw [List.getElem?_append_left (List.getElem?_eq_some_iff.1 h1).1]
      exact h1
theorem marksP_at (s : List Nat) (a : Nat) (h : lms s a = true) : (marksP s)[cntM s a]? = some a := filter_range_at (lms s) s.length a (by have := lms_lt h; omega) h
theorem marksP_idx (s : List Nat) (k a : Nat) (h : (marksP s)[k]? = some a) : a < s.length ∧ lms s a = true ∧ cntM s a = k := by
  have h1 := ((marksP_ok s).mem a).1 (List.mem_of_getElem? h)
  exact ⟨h1.1, h1.2, nodup_at (marksP_ok s).nd (marksP_at s a h1.2) h⟩
theorem marksP_len (s : List Nat) : (marksP s).length = cntM s s.length := rfl
theorem marksP_lt (s : List Nat) (h : 1 ≤ s.length) : (marksP s).length < s.length := by
  have h1 : 0 ∉ marksP s := by intro h; have := ((marksP_ok s).mem 0).1 h; simp [lms] at this
  have h2 : (0 :: marksP s).Nodup := List.nodup_cons.2 ⟨h1, (marksP_ok s).nd⟩
  have h3 : (0 :: marksP s) ⊆ List.range s.length := by
    intro x hx
    rcases List.mem_cons.1 hx with rfl | hx
    · simp; omega
    · have := ((marksP_ok s).mem x).1 hx
      simpa using this.1
  have := h2.length_le_of_subset h3
  simp at this
  omega
/-- The mark of a number; the end behind the last one. -/
def mkAt (s : List Nat) (k : Nat) : Nat := (marksP s).getD k s.length
theorem mkAt_some (s : List Nat) (k a : Nat) (h : (marksP s)[k]? = some a) : mkAt s k = a := by unfold mkAt; rw [List.getD_eq_getElem?_getD, h]; rfl
theorem mkAt_end (s : List Nat) (k : Nat) (h : (marksP s).length ≤ k) : mkAt s k = s.length := by unfold mkAt; rw [List.getD_eq_getElem?_getD, List.getElem?_eq_none h]; rfl
theorem cntM_flat (s : List Nat) (a : Nat) : ∀ d, (∀ i, a ≤ i → i < a + d → lms s i = false) → cntM s (a + d) = cntM s a
  | 0, _ => rfl
  | d + 1, h => by
    rw [← Nat.add_assoc, cntM_succ, cntM_flat s a d (fun i h1 h2 => h i h1 (by omega)), h (a + d) (by omega) (by omega)]
    rfl
/-- The next mark is the mark of the next number. -/
theorem mkAt_next (s : List Nat) (k a : Nat) (h : (marksP s)[k]? = some a) : mkAt s (k + 1) = nx s a := by
  obtain ⟨h1, h2, h3⟩ := marksP_idx s k a h
  obtain ⟨n1, n2, n3, n4⟩ := nxF_spec s (s.length - (a + 1)) (a + 1) (by omega)
  have hc : cntM s (nx s a) = k + 1 := by
    have e : nx s a = (a + 1) + (nx s a - (a + 1)) := by unfold nx; omega
    rw [e, cntM_flat s (a + 1) _ (fun i h5 h6 => n3 i h5 (by unfold nx at h6; omega)), cntM_succ, h2, h3]
    rfl
  rcases Nat.lt_or_ge (nx s a) s.length with h4 | h4
  · have h5 : lms s (nx s a) = true := n4 h4
    have := marksP_at s _ h5
    rw [hc] at this
    exact mkAt_some s _ _ this
  · have h5 : nx s a = s.length := by unfold nx at h4 ⊢; omega
    rw [h5] at hc ⊢
    exact mkAt_end s _ (by rw [marksP_len, hc]; exact Nat.le_refl _)
/-- The marks' names: their order goes with the pieces'. -/
structure Named (s : List Nat) (R : List Nat) : Prop where
  len : R.length = (marksP s).length
  lt : ∀ (i j a b : Nat), (marksP s)[i]? = some a → (marksP s)[j]? = some b → ch R i < ch R j → lexlt (preK s a) (preK s b) = true
  eq : ∀ (i j a b : Nat), (marksP s)[i]? = some a → (marksP s)[j]? = some b → ch R i = ch R j → preK s a = preK s b
theorem Named.full {s R : List Nat} (h : Named s R) : ∀ d k j, k + d = R.length → j ≤ R.length → lexlt (R.drop k) (R.drop j) = true → lexlt (fullK s (mkAt s k)) (fullK s (mkAt s j)) = true
  | d, k, j, hd, hj, hl => by
    rcases Nat.lt_or_ge j R.length with hj1 | hj1
    · obtain ⟨b, hb⟩ : ∃ b, (marksP s)[j]? = some b := ⟨_, List.getElem?_eq_getElem (by rw [← h.len]; exact hj1)⟩
      have hbl := (marksP_idx s j b hb).1
      rw [mkAt_some s j b hb]
      rcases Nat.lt_or_ge k R.length with hk1 | hk1
      · obtain ⟨a, ha⟩ : ∃ a, (marksP s)[k]? = some a := ⟨_, List.getElem?_eq_getElem (by rw [← h.len]; exact hk1)⟩
        have hal := (marksP_idx s k a ha).1
        rw [mkAt_some s k a ha]
        rw [drop_ch R k hk1, drop_ch R j hj1, lexlt_cons] at hl
        rcases hl with hl | ⟨h0, hl⟩
        · exact pre_full_lt s (s.length - a) a b (by omega) hal hbl (h.lt k j a b ha hb hl)
        · obtain ⟨d, rfl⟩ : ∃ e, d = e + 1 := ⟨d - 1, by omega⟩
          have ih := Named.full h d (k + 1) (j + 1) (by omega) hj1 hl
          rw [mkAt_next s k a ha, mkAt_next s j b hb] at ih
          exact pre_full_eq s (s.length - a) a b (by omega) hal hbl (h.eq k j a b ha hb h0) ih
      · rw [mkAt_end s k (by rw [← h.len]; exact hk1), fullK_nil s _ (Nat.le_refl _), fullK_cons s b hbl]
        rfl
    · rw [List.drop_of_length_le hj1, lexlt_nil] at hl
      cases hl
/-- The marks in the order of their names' suffixes are in the order of the suffixes. -/
theorem Named.marks {s R T : List Nat} (h : Named s R) (hT : IsSA R T) : MarksOk s (T.map (mkAt s)) ∧ ∀ (i j a b : Nat), (T.map (mkAt s))[i]? = some a → (T.map (mkAt s))[j]? = some b → i < j → ch s a = ch s b → lexle (fullK s a) (fullK s b) := by
  have hmem : ∀ k ∈ T, k < (marksP s).length := by
    intro k hk
    have := hT.perm.subset hk
    rw [← h.len]
    simpa using this
  have hget : ∀ k, k < (marksP s).length → (marksP s)[k]? = some (mkAt s k) := by
    intro k hk
    have h1 : (marksP s)[k]? = some (marksP s)[k] := List.getElem?_eq_getElem hk
    rw [mkAt_some s k _ h1, h1]
  constructor
  · have hp : (T.map (mkAt s)).Perm (marksP s) := by
      have h1 := hT.perm.map (mkAt s)
      have h2 : (List.range R.length).map (mkAt s) = marksP s := by
        apply List.ext_getElem?
        intro k
        rw [h.len]
        by_cases hk : k < (marksP s).length
        · rw [hget k hk]; simp [hk]
        · rw [List.getElem?_eq_none (by simp; omega), List.getElem?_eq_none (by omega)]
      rw [h2] at h1
      exact h1
    exact ⟨(List.Perm.nodup_iff hp).2 (marksP_ok s).nd, fun m => by rw [hp.mem_iff]; exact (marksP_ok s).mem m⟩
  · intro i j a b ha hb hij _
    rw [List.getElem?_map] at ha hb
    obtain ⟨k, hk, rfl⟩ := Option.map_eq_some_iff.1 ha
    obtain ⟨m, hm, rfl⟩ := Option.map_eq_some_iff.1 hb
    obtain ⟨hi1, hk2⟩ := List.getElem?_eq_some_iff.1 hk
    obtain ⟨hj1, hm2⟩ := List.getElem?_eq_some_iff.1 hm
    have h1 := List.pairwise_iff_getElem.1 hT.sorted i j hi1 hj1 hij
    rw [hk2, hm2] at h1
    have hkl := hmem k (List.mem_of_getElem? hk)
    have hml := hmem m (List.mem_of_getElem? hm)
    exact lexle_of_lt (h.full (R.length - k) k m (by rw [h.len]; omega) (by rw [h.len]; omega) h1)

/-! Names out of an order by pieces -/
def nmAt (s : List Nat) (Ms : List Nat) : Nat → Nat
  | 0 => 0
  | t + 1 => nmAt s Ms t + (if preK s (Ms.getD t 0) = preK s (Ms.getD (t + 1) 0) then 0 else 1)
theorem nmAt_mono (s Ms : List Nat) (t : Nat) : ∀ d, nmAt s Ms t ≤ nmAt s Ms (t + d)
  | 0 => Nat.le_refl _
  | d + 1 => by have := nmAt_mono s Ms t d; rw [← Nat.add_assoc, nmAt]; omega
theorem nmAt_eq (s Ms : List Nat) (t : Nat) : ∀ d, nmAt s Ms t = nmAt s Ms (t + d) → preK s (Ms.getD t 0) = preK s (Ms.getD (t + d) 0)
  | 0, _ => rfl
  | d + 1, h => by
    rw [← Nat.add_assoc, nmAt] at h
    have h1 := nmAt_mono s Ms t d
    have h2 := nmAt_eq s Ms t d (by omega)
    rw [h2]
    by_cases e : preK s (Ms.getD (t + d) 0) = preK s (Ms.getD (t + d + 1) 0)
    · exact e
    · rw [if_neg e] at h; omega
theorem named_of {s R Ms : List Nat} (hMs : Ms.Perm (marksP s)) (hs : ∀ (i j a b : Nat), Ms[i]? = some a → Ms[j]? = some b → i < j → lexle (preK s a) (preK s b)) (hl : R.length = (marksP s).length)
    (hR : ∀ (t k m : Nat), Ms[t]? = some m → (marksP s)[k]? = some m → ch R k = nmAt s Ms t) : Named s R := by
  have find : ∀ (k a : Nat), (marksP s)[k]? = some a → ∃ t, Ms[t]? = some a ∧ ch R k = nmAt s Ms t := by
    intro k a h
    obtain ⟨t, ht⟩ := List.mem_iff_getElem?.1 (hMs.symm.subset (List.mem_of_getElem? h))
    exact ⟨t, ht, hR t k a ht h⟩
  have hD : ∀ (t a : Nat), Ms[t]? = some a → Ms.getD t 0 = a := fun t a h => by rw [List.getD_eq_getElem?_getD, h]; rfl
  have heq : ∀ (t u a b : Nat), Ms[t]? = some a → Ms[u]? = some b → nmAt s Ms t = nmAt s Ms u → preK s a = preK s b := by
    intro t u a b ha hb h
    rcases Nat.le_total t u with h1 | h1
    · have := nmAt_eq s Ms t (u - t) (by rw [show t + (u - t) = u from by omega]; exact h)
      rw [show t + (u - t) = u from by omega, hD t a ha, hD u b hb] at this
      exact this
    · have := nmAt_eq s Ms u (t - u) (by rw [show u + (t - u) = t from by omega]; exact h.symm)
      rw [show u + (t - u) = t from by omega, hD t a ha, hD u b hb] at this
      exact this.symm
  refine ⟨hl, ?_, ?_⟩
  · intro i j a b ha hb h
    obtain ⟨t, ht, e1⟩ := find i a ha
    obtain ⟨u, hu, e2⟩ := find j b hb
    rw [e1, e2] at h
    have htu : t < u := by
      rcases Nat.lt_or_ge t u with h1 | h1
      · exact h1
      · have := nmAt_mono s Ms u (t - u)
        rw [show u + (t - u) = t from by omega] at this
        omega
    rcases (lexle_iff _ _).1 (hs t u a b ht hu htu) with h2 | h2
    · exfalso
      have key : ∀ d, t + d ≤ u → nmAt s Ms (t + d) = nmAt s Ms t := by
        intro d
        induction d with
        | zero => intro _; rfl
        | succ d ih =>
          intro hd
          have ih := ih (by omega)
          rw [← Nat.add_assoc, nmAt, ih]
          obtain ⟨x, hx⟩ : ∃ x, Ms[t + d]? = some x := ⟨_, List.getElem?_eq_getElem (by have := (List.getElem?_eq_some_iff.1 hu).1; omega)⟩
          obtain ⟨y, hy⟩ : ∃ y, Ms[t + d + 1]? = some y := ⟨_, List.getElem?_eq_getElem (by have := (List.getElem?_eq_some_iff.1 hu).1; omega)⟩
          rw [hD _ _ hx, hD _ _ hy]
          have h3 := heq t (t + d) a x ht hx ih.symm
          have h4 := hs (t + d) (t + d + 1) x y hx hy (by omega)
          have h5 : lexle (preK s y) (preK s b) := by
            rcases Nat.lt_or_ge (t + d + 1) u with h6 | h6
            · exact hs _ _ y b hy hu h6
            · have : t + d + 1 = u := by omega
              rw [this, hu] at hy
              cases hy
              exact lexle_refl _
          rw [← h3] at h4 ⊢
          rw [← h2] at h5
          rcases (lexle_iff _ _).1 h4 with h6 | h6
          · rw [if_pos h6]; omega
          · have h5' : lexlt (preK s a) (preK s y) = false := h5
            rw [h5'] at h6
            cases h6
      have := key (u - t) (by omega)
      rw [show t + (u - t) = u from by omega] at this
      omega
    · exact h2
  · intro i j a b ha hb h
    obtain ⟨t, ht, e1⟩ := find i a ha
    obtain ⟨u, hu, e2⟩ := find j b hb
    exact heq t u a b ht hu (by rw [← e1, ← e2]; exact h)
end Go.Proofs.Ytdgpbgdpdmikaab
