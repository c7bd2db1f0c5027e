/-
  Stable sorting in place, plain: blocks that are in order, and their merging two by two.
-/
import Derived.Test.YtdhnmcdgiddhdabPureSortB
set_option linter.unusedVariables false
set_option linter.unusedSimpArgs false
namespace Go.Proofs.Ytdhnmcdgiddhdab
/-- Ahead of a place blocks of twenty are in order, behind it all is as it was. -/
structure InsB (R : Nat → Nat → Prop) (n : Nat) (f0 : Nat → Nat) (a : Nat) (f : Nat → Nat) : Prop where
  mem : ∀ i, i < n → ∃ j, j < n ∧ f i = f0 j ∧ ((i < a ∧ j / 20 = i / 20) ∨ (a ≤ i ∧ j = i))
  srt : ∀ p q, p < q → q < n → q < a → p / 20 = q / 20 → R (f p) (f q)
  pm : Pm 0 n f0 f
/-- Ahead of a place double blocks are in order, behind it blocks. -/
structure MrgB (R : Nat → Nat → Prop) (n : Nat) (f0 : Nat → Nat) (bs a : Nat) (f : Nat → Nat) : Prop where
  mem : ∀ i, i < n → ∃ j, j < n ∧ f i = f0 j ∧ ((i < a ∧ j / (2 * bs) = i / (2 * bs)) ∨ (a ≤ i ∧ j / bs = i / bs))
  srt : ∀ p q, p < q → q < n → (q < a → p / (2 * bs) = q / (2 * bs) → R (f p) (f q)) ∧ (a ≤ p → p / bs = q / bs → R (f p) (f q))
  pm : Pm 0 n f0 f
theorem InsB.init (R : Nat → Nat → Prop) (n : Nat) (f0 : Nat → Nat) : InsB R n f0 0 f0 :=
  ⟨fun i hi => ⟨i, hi, rfl, .inr ⟨Nat.zero_le _, rfl⟩⟩, fun p q _ _ h => by omega, Pm.refl _ _ _⟩
theorem InsB.tell {R : Nat → Nat → Prop} {cf : Nat → Nat → Int} {n a : Nat} {f0 f : Nat → Nat} (h : InsB R n f0 a f) (h0 : ∀ p q, p < q → q < n → Tell R cf (f0 p) (f0 q)) : ∀ p q, a ≤ p → p < q → q < n → Tell R cf (f p) (f q) := by
  intro p q hp hpq hq
  obtain ⟨j, _, e, c⟩ := h.mem p (by omega)
  obtain ⟨k, _, e', c'⟩ := h.mem q hq
  rw [e, e']
  exact h0 j k (by omega) (by omega)
theorem InsB.step {R : Nat → Nat → Prop} {n a b : Nat} {f0 f f' : Nat → Nat} (h : InsB R n f0 a f) (ha : a % 20 = 0) (hab : a ≤ b) (hb : b ≤ a + 20) (hbn : b ≤ n) (hp : Pm a b f f') (hs : Srt R a b f') (he : b = a + 20 ∨ b = n) : InsB R n f0 (a + 20) f' := by
  refine ⟨fun i hi => ?_, fun p q hpq hq hqa hd => ?_, h.pm.trans (hp.mono (Nat.zero_le _) hab hbn)⟩
  · by_cases c : a ≤ i ∧ i < b
    · obtain ⟨i', h1, h2, e⟩ := hp.mem c.1 c.2
      obtain ⟨j, hj, e2, c2⟩ := h.mem i' (by omega)
      exact ⟨j, hj, e.trans e2, .inl ⟨by omega, by omega⟩⟩
    · obtain ⟨j, hj, e2, c2⟩ := h.mem i hi
      refine ⟨j, hj, by rw [hp.1 i (by omega)]; exact e2, ?_⟩
      omega
  · by_cases c : q < a
    · rw [hp.1 p (by omega), hp.1 q (by omega)]
      exact h.srt p q hpq hq c hd
    · exact hs p q (by omega) hpq (by omega)
theorem InsB.mrg {R : Nat → Nat → Prop} {n a : Nat} {f0 f : Nat → Nat} (h : InsB R n f0 a f) (ha : n ≤ a) : MrgB R n f0 20 0 f := by
  refine ⟨fun i hi => ?_, fun p q hpq hq => ⟨fun h' => by omega, fun _ hd => h.srt p q hpq hq (by omega) hd⟩, h.pm⟩
  obtain ⟨j, hj, e, c⟩ := h.mem i hi
  exact ⟨j, hj, e, .inr ⟨Nat.zero_le _, by omega⟩⟩
def sizes (bs : Nat) : Prop := bs = 20 ∨ bs = 40 ∨ bs = 80 ∨ bs = 160
section
variable {R : Nat → Nat → Prop} {cf : Nat → Nat → Int} {n bs a b : Nat} {f0 f f' : Nat → Nat}
theorem MrgB.srtL (h : MrgB R n f0 bs a f) (hb : sizes bs) (ha : a % (2 * bs) = 0) (hn : a + bs ≤ n) : Srt R a (a + bs) f := by
  intro p q hp hpq hq
  refine (h.srt p q hpq (by omega)).2 hp ?_
  rcases hb with rfl | rfl | rfl | rfl <;> omega
theorem MrgB.srtR (h : MrgB R n f0 bs a f) (hb : sizes bs) (ha : a % (2 * bs) = 0) (hbn : b ≤ n) (hb2 : b ≤ a + 2 * bs) : Srt R (a + bs) b f := by
  intro p q hp hpq hq
  refine (h.srt p q hpq (by omega)).2 (by omega) ?_
  rcases hb with rfl | rfl | rfl | rfl <;> omega
theorem MrgB.tell (h : MrgB R n f0 bs a f) (hb : sizes bs) (ha : a % (2 * bs) = 0) (h0 : ∀ p q, p < q → q < n → Tell R cf (f0 p) (f0 q)) : ∀ p q, a ≤ p → p < a + bs → a + bs ≤ q → q < n → Tell R cf (f p) (f q) := by
  intro p q hp hpb hq hqn
  obtain ⟨j, _, e, c⟩ := h.mem p (by omega)
  obtain ⟨k, hk, e', c'⟩ := h.mem q hqn
  rw [e, e']
  refine h0 j k ?_ hk
  rcases hb with rfl | rfl | rfl | rfl <;> omega
theorem MrgB.step (h : MrgB R n f0 bs a f) (hb : sizes bs) (ha : a % (2 * bs) = 0) (hab : a ≤ b) (hb2 : b ≤ a + 2 * bs) (hbn : b ≤ n) (hp : Pm a b f f') (hs : Srt R a b f') (he : b = a + 2 * bs ∨ b = n) : MrgB R n f0 bs (a + 2 * bs) f' := by
  refine ⟨fun i hi => ?_, fun p q hpq hq => ⟨fun hqa hd => ?_, fun hpa hd => ?_⟩, h.pm.trans (hp.mono (Nat.zero_le _) hab hbn)⟩
  · by_cases c : a ≤ i ∧ i < b
    · obtain ⟨i', h1, h2, e⟩ := hp.mem c.1 c.2
      obtain ⟨j, hj, e2, c2⟩ := h.mem i' (by omega)
      refine ⟨j, hj, e.trans e2, .inl ⟨by omega, ?_⟩⟩
      rcases hb with rfl | rfl | rfl | rfl <;> omega
    · obtain ⟨j, hj, e2, c2⟩ := h.mem i hi
      refine ⟨j, hj, by rw [hp.1 i (by omega)]; exact e2, ?_⟩
      rcases hb with rfl | rfl | rfl | rfl <;> omega
  · by_cases c : q < a
    · rw [hp.1 p (by omega), hp.1 q (by omega)]
      exact (h.srt p q hpq hq).1 c hd
    · refine hs p q ?_ hpq (by omega)
      rcases hb with rfl | rfl | rfl | rfl <;> omega
  · rw [hp.1 p (by omega), hp.1 q (by omega)]
    exact (h.srt p q hpq hq).2 (by omega) hd
theorem MrgB.skip (h : MrgB R n f0 bs a f) (hb : sizes bs) (ha : a % (2 * bs) = 0) (hn : n ≤ a + bs) : MrgB R n f0 bs (a + 2 * bs) f := by
  refine ⟨fun i hi => ?_, fun p q hpq hq => ⟨fun hqa hd => ?_, fun hpa hd => ?_⟩, h.pm⟩
  · obtain ⟨j, hj, e2, c2⟩ := h.mem i hi
    refine ⟨j, hj, e2, .inl ⟨by omega, ?_⟩⟩
    rcases hb with rfl | rfl | rfl | rfl <;> omega
  · by_cases c : q < a
    · exact (h.srt p q hpq hq).1 c hd
    · refine (h.srt p q hpq hq).2 ?_ ?_
      · rcases hb with rfl | rfl | rfl | rfl <;> omega
      · rcases hb with rfl | rfl | rfl | rfl <;> omega
  · omega
theorem MrgB.next (h : MrgB R n f0 bs a f) (hn : n ≤ a) : MrgB R n f0 (2 * bs) 0 f := by
  refine ⟨fun i hi => ?_, fun p q hpq hq => ⟨fun h' => by omega, fun _ hd => (h.srt p q hpq hq).1 (by omega) hd⟩, h.pm⟩
  obtain ⟨j, hj, e, c⟩ := h.mem i hi
  exact ⟨j, hj, e, .inr ⟨Nat.zero_le _, by omega⟩⟩
theorem MrgB.done (h : MrgB R n f0 bs 0 f) (hn : n ≤ bs) : Srt R 0 n f := by
  intro p q _ hpq hq
  refine (h.srt p q hpq hq).2 (Nat.zero_le _) ?_
  rw [Nat.div_eq_of_lt (by omega), Nat.div_eq_of_lt (by omega)]
theorem MrgB.ok {Ok : Nat → Prop} (h : MrgB R n f0 bs a f) (h0 : ∀ k, k < n → Ok (f0 k)) : ∀ k, k < n → Ok (f k) := by
  intro k hk
  obtain ⟨j, hj, e, _⟩ := h.mem k hk
  rw [e]; exact h0 j hj
theorem InsB.ok {Ok : Nat → Prop} (h : InsB R n f0 a f) (h0 : ∀ k, k < n → Ok (f0 k)) : ∀ k, k < n → Ok (f k) := by
  intro k hk
  obtain ⟨j, hj, e, _⟩ := h.mem k hk
  rw [e]; exact h0 j hj
end
end Go.Proofs.Ytdhnmcdgiddhdab
