/-
  Stable sorting in place, plain: the insertion of one, the merging of two stretches, step by step.
-/
import Derived.Test.YtdhnmcdgiddhdabPureSort
set_option linter.unusedVariables false
set_option linter.unusedSimpArgs false
namespace Go.Proofs.Ytdhnmcdgiddhdab
/-- What a comparison of an earlier one with a later one tells. -/
def Tell (R : Nat → Nat → Prop) (cf : Nat → Nat → Int) (x y : Nat) : Prop := (cf y x < 0 → R y x) ∧ (¬ cf y x < 0 → R x y)
/-- One taken out of its place and put at another one. -/
def insP (i j : Nat) (g : Nat → Nat) : Nat → Nat := fun k => if k < j then g k else if k = j then g i else if k ≤ i then g (k - 1) else g k
theorem insP_self (i : Nat) (g : Nat → Nat) : insP i i g = g := by
  funext k
  unfold insP
  by_cases c1 : k < i
  · rw [if_pos c1]
  · rw [if_neg c1]
    by_cases c2 : k = i
    · subst c2; rw [if_pos rfl]
    · rw [if_neg c2, if_neg (by omega)]
theorem insP_step (i j : Nat) (g : Nat → Nat) (hj : 1 ≤ j) (hi : j ≤ i) : swp (j - 1) j (insP i j g) = insP i (j - 1) g := by
  funext k
  unfold swp insP
  by_cases c1 : k = j - 1
  · subst c1
    rw [if_pos rfl, if_neg (Nat.lt_irrefl j), if_pos rfl, if_neg (Nat.lt_irrefl _), if_pos rfl]
  · rw [if_neg c1]
    by_cases c2 : k = j
    · subst c2
      rw [if_pos rfl, if_pos (by omega), if_neg (by omega), if_neg (by omega), if_pos hi]
    · rw [if_neg c2]
      by_cases c3 : k < j
      · rw [if_pos c3, if_pos (by omega)]
      · rw [if_neg c3, if_neg c2, if_neg (show ¬ k < j - 1 by omega), if_neg c1]
theorem insP_at (i j : Nat) (g : Nat → Nat) : insP i j g j = g i := by
  unfold insP; rw [if_neg (Nat.lt_irrefl _), if_pos rfl]
theorem insP_pre (i j : Nat) (g : Nat → Nat) (h : 1 ≤ j) : insP i j g (j - 1) = g (j - 1) := by
  unfold insP; rw [if_pos (by omega)]
theorem insP_srt {R : Nat → Nat → Prop} (tr : ∀ x y z, R x y → R y z → R x z) {a i j : Nat} {g : Nat → Nat} (hg : Srt R a i g) (h1 : a ≤ j) (h2 : j ≤ i) (h3 : ∀ k, j ≤ k → k < i → R (g i) (g k)) (h4 : j = a ∨ R (g (j - 1)) (g i)) : Srt R a (i + 1) (insP i j g) := by
  have low : ∀ p, a ≤ p → p < j → R (g p) (g i) := by
    intro p hp1 hp2
    rcases h4 with e | e
    · omega
    · by_cases c : p = j - 1
      · subst c; exact e
      · exact tr _ _ _ (hg p (j - 1) hp1 (by omega) (by omega)) e
  intro p q hp hpq hq
  unfold insP
  by_cases c1 : p < j
  · rw [if_pos c1]
    by_cases c2 : q < j
    · rw [if_pos c2]; exact hg p q hp hpq (by omega)
    · rw [if_neg c2]
      by_cases c3 : q = j
      · rw [if_pos c3]; exact low p hp c1
      · rw [if_neg c3, if_pos (by omega)]; exact hg p (q - 1) hp (by omega) (by omega)
  · rw [if_neg c1, if_neg (show ¬ q < j by omega), if_neg (show ¬ q = j by omega), if_pos (show q ≤ i by omega)]
    by_cases c3 : p = j
    · rw [if_pos c3]; exact h3 (q - 1) (by omega) (by omega)
    · rw [if_neg c3, if_pos (by omega)]; exact hg (p - 1) (q - 1) (by omega) (by omega) (by omega)
/-- The first stretch's one put behind those of the second one that stand ahead of it. -/
def shl (a i k : Nat) (f : Nat → Nat) : Nat → Nat := fun x => if a ≤ x ∧ x < k then f (x + 1) else if x = k then f a else f x
theorem shl_zero (a i : Nat) (f : Nat → Nat) : shl a i a f = f := by
  funext x
  unfold shl
  rw [if_neg (by omega)]
  split
  · next h => rw [h]
  · rfl
theorem shl_step (a i k : Nat) (f : Nat → Nat) (h : a ≤ k) : swp k (k + 1) (shl a i k f) = shl a i (k + 1) f := by
  funext x
  unfold swp shl
  by_cases c1 : x = k
  · subst c1
    rw [if_pos rfl, if_neg (by omega), if_neg (by omega), if_pos (by omega)]
  · rw [if_neg c1]
    by_cases c2 : x = k + 1
    · subst c2
      rw [if_pos rfl, if_neg (by omega), if_pos rfl, if_neg (by omega), if_pos rfl]
    · rw [if_neg c2]
      by_cases c3 : a ≤ x ∧ x < k
      · rw [if_pos c3, if_pos (by omega)]
      · rw [if_neg c3, if_neg c1, if_neg (by omega), if_neg c2]
theorem shl_srt {R : Nat → Nat → Prop} (tr : ∀ x y z, R x y → R y z → R x z) {a k b : Nat} {f : Nat → Nat} (h1 : a ≤ k) (h2 : k < b) (hf : Srt R (a + 1) b f) (h3 : ∀ x, a + 1 ≤ x → x ≤ k → R (f x) (f a)) (h4 : ∀ x, k < x → x < b → R (f a) (f x)) : Srt R a b (shl a k k f) := by
  intro p q hp hpq hq
  unfold shl
  by_cases c1 : p < k
  · rw [if_pos ⟨hp, c1⟩]
    by_cases c2 : q < k
    · rw [if_pos (by omega)]; exact hf _ _ (by omega) (by omega) (by omega)
    · rw [if_neg (by omega)]
      by_cases c3 : q = k
      · rw [if_pos c3]; exact h3 _ (by omega) (by omega)
      · rw [if_neg c3]; exact hf _ _ (by omega) (by omega) hq
  · rw [if_neg (by omega), if_neg (show ¬ (a ≤ q ∧ q < k) by omega), if_neg (show ¬ q = k by omega)]
    by_cases c3 : p = k
    · rw [if_pos c3]; exact h4 q (by omega) hq
    · rw [if_neg c3]; exact hf p q (by omega) hpq hq
/-- The search in the midst of a merge: what two places tell of all. -/
structure Found (R : Nat → Nat → Prop) (a m b s e : Nat) (f : Nat → Nat) : Prop where
  low : ∀ x y, a ≤ x → x < s → e ≤ y → y < b → R (f x) (f y)
  high : ∀ x y, m ≤ x → x < e → s ≤ y → y < m → R (f x) (f y)
theorem Found.mk' {R : Nat → Nat → Prop} (tr : ∀ x y z, R x y → R y z → R x z) {a m b s0 r0 s e : Nat} {f : Nat → Nat} (hA : Srt R a m f) (hB : Srt R m b f) (ha : a ≤ s) (hs : s ≤ m) (he : m ≤ e) (heb : e ≤ b)
    (h0 : s0 = a ∨ (s = s0 → e = b)) (h1 : r0 = m ∨ (s = r0 → e = m)) (l : s = s0 ∨ R (f (s - 1)) (f e)) (r : s = r0 ∨ R (f (e - 1)) (f s)) : Found R a m b s e f := by
  constructor
  · intro x y hx hxs hy hyb
    rcases l with q | q
    · rcases h0 with q2 | q2
      · omega
      · have := q2 q; omega
    · have h2 : R (f x) (f e) := by
        by_cases c : x = s - 1
        · rw [c]; exact q
        · exact tr _ _ _ (hA x (s - 1) hx (by omega) (by omega)) q
      by_cases c : y = e
      · rw [c]; exact h2
      · exact tr _ _ _ h2 (hB e y (by omega) (by omega) hyb)
  · intro x y hx hxe hy hym
    rcases r with q | q
    · rcases h1 with q2 | q2
      · omega
      · have := q2 q; omega
    · have h2 : R (f x) (f s) := by
        by_cases c : x = e - 1
        · rw [c]; exact q
        · exact tr _ _ _ (hB x (e - 1) hx (by omega) (by omega)) q
      by_cases c : y = s
      · rw [c]; exact h2
      · exact tr _ _ _ h2 (hA s y (by omega) (by omega) hym)
/-- Behind the turning: each half is two stretches again; all of the first half stand ahead of all of the second one. -/
theorem rot_parts {R : Nat → Nat → Prop} {a m b s e mid : Nat} {f : Nat → Nat} (hA : Srt R a m f) (hB : Srt R m b f) (ha : a ≤ s) (hs : s ≤ m) (he : m ≤ e) (heb : e ≤ b) (hm : mid = s + (e - m)) (hF : Found R a m b s e f) :
    Srt R a s (rot s m e f) ∧ Srt R s mid (rot s m e f) ∧ Srt R mid e (rot s m e f) ∧ Srt R e b (rot s m e f) ∧
    (∀ x y, a ≤ x → x < mid → mid ≤ y → y < b → R (rot s m e f x) (rot s m e f y)) ∧
    (∀ x, a ≤ x → x < s → rot s m e f x = f x) ∧ (∀ x, e ≤ x → rot s m e f x = f x) ∧ (∀ x, s ≤ x → x < mid → rot s m e f x = f (x + (m - s))) ∧ (∀ x, mid ≤ x → x < e → rot s m e f x = f (x - (e - m))) := by
  subst hm
  have r1 : ∀ x, x < s → rot s m e f x = f x := fun x h => by unfold rot; rw [if_neg (by omega), if_neg (by omega)]
  have r2 : ∀ x, s ≤ x → x < s + (e - m) → rot s m e f x = f (x + (m - s)) := fun x h h' => by unfold rot; rw [if_pos ⟨h, h'⟩]
  have r3 : ∀ x, s + (e - m) ≤ x → x < e → rot s m e f x = f (x - (e - m)) := fun x h h' => by unfold rot; rw [if_neg (by omega), if_pos ⟨h, h'⟩]
  have r4 : ∀ x, e ≤ x → rot s m e f x = f x := fun x h => by unfold rot; rw [if_neg (by omega), if_neg (by omega)]
  refine ⟨?_, ?_, ?_, ?_, ?_, fun x _ h => r1 x h, r4, r2, r3⟩
  · intro i j hi hij hj; rw [r1 i (by omega), r1 j hj]; exact hA i j hi hij (by omega)
  · intro i j hi hij hj; rw [r2 i hi (by omega), r2 j (by omega) hj]; exact hB _ _ (by omega) (by omega) (by omega)
  · intro i j hi hij hj; rw [r3 i hi (by omega), r3 j (by omega) hj]; exact hA _ _ (by omega) (by omega) (by omega)
  · intro i j hi hij hj; rw [r4 i hi, r4 j (by omega)]; exact hB i j (by omega) hij hj
  · intro x y hx hxm hy hyb
    by_cases c1 : x < s
    · rw [r1 x c1]
      by_cases c2 : y < e
      · rw [r3 y hy c2]; exact hA _ _ hx (by omega) (by omega)
      · rw [r4 y (by omega)]; exact hF.low x y hx c1 (by omega) hyb
    · rw [r2 x (by omega) hxm]
      by_cases c2 : y < e
      · rw [r3 y hy c2]; exact hF.high _ _ (by omega) (by omega) (by omega) (by omega)
      · rw [r4 y (by omega)]; exact hB _ _ (by omega) (by omega) hyb
theorem rot_idle {s m e : Nat} (f : Nat → Nat) (h : s = m ∨ m = e) : rot s m e f = f := by
  funext k
  unfold rot
  rcases h with h | h
  · subst h
    by_cases c : s ≤ k ∧ k < s + (e - s)
    · rw [if_pos c, Nat.sub_self, Nat.add_zero]
    · rw [if_neg c]
      split
      · omega
      · rfl
  · subst h
    rw [if_neg (by omega)]
    split
    · rw [Nat.sub_self, Nat.sub_zero]
    · rfl
/-- Two halves that are in order, all of the first ahead of all of the second. -/
theorem srt_join {R : Nat → Nat → Prop} {a m b : Nat} {f g h : Nat → Nat} (h1 : Pm a m f g) (h2 : Pm m b g h) (ham : a ≤ m) (hmb : m ≤ b) (hs : Srt R a m g) (hs2 : Srt R m b h) (hc : ∀ x y, a ≤ x → x < m → m ≤ y → y < b → R (f x) (f y)) : Srt R a b h := by
  intro p q hp hpq hq
  by_cases c1 : q < m
  · rw [h2.1 p (by omega), h2.1 q (by omega)]; exact hs p q hp hpq c1
  · by_cases c2 : p < m
    · rw [h2.1 p (by omega)]
      obtain ⟨p', e1, e2, e3⟩ := h1.mem hp c2
      obtain ⟨q', e4, e5, e6⟩ := h2.mem (i := q) (by omega) hq
      rw [e3, e6, h1.1 q' (by omega)]
      exact hc p' q' e1 e2 e4 e5
    · exact hs2 p q (by omega) hpq hq
theorem Srt.congr {R : Nat → Nat → Prop} {a b : Nat} {f g : Nat → Nat} (h : Srt R a b f) (e : ∀ k, a ≤ k → k < b → g k = f k) : Srt R a b g := by
  intro p q hp hpq hq
  rw [e p hp (by omega), e q (by omega) hq]
  exact h p q hp hpq hq
end Go.Proofs.Ytdhnmcdgiddhdab
