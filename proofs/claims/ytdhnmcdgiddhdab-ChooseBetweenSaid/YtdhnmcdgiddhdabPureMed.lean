/-
  The median stands between, in plain Lean.
-/
import Derived.Test.YtdhnmcdgiddhdabPureMid
import Derived.Test.YtdhnmcdgiddhdabMinMax
set_option linter.unusedVariables false
set_option linter.unusedSimpArgs false
namespace Go.Proofs.Ytdhnmcdgiddhdab
open Go.RowKit Ieee
theorem posG_spec (l : List Nat) (x : Nat) : ∀ n, n ≤ l.length → (∀ j y, posG l x n ≤ j → j < n → l[j]? = some y → lessP x y = true) ∧ (∀ k y, posG l x n = k + 1 → l[k]? = some y → lessP x y = false)
  | 0, _ => ⟨fun j y _ h => by omega, fun k y h => by simp [posG] at h⟩
  | n + 1, hn => by
    obtain ⟨h1, h2⟩ := posG_spec l x n (by omega)
    obtain ⟨z, hz⟩ : ∃ z, l[n]? = some z := ⟨_, List.getElem?_eq_getElem (by omega)⟩
    cases hb : lessP x z with
    | true =>
      rw [posG_yes hz hb]
      refine ⟨fun j y hj hjn hy => ?_, h2⟩
      by_cases e : j = n
      · subst e; rw [hz] at hy; cases hy; exact hb
      · exact h1 j y hj (by omega) hy
    | false =>
      rw [posG_no hz hb]
      refine ⟨fun j y hj hjn => by omega, fun k y hk hy => ?_⟩
      obtain rfl : k = n := by omega
      rw [hz] at hy
      cases hy
      exact hb
def SortF (l : List Nat) : Prop := l.Pairwise fun a b => fkey a ≤ fkey b
theorem less_key {x y : Nat} (hx : nanB x = false) (hy : nanB y = false) : lessP x y = decide (fkey x < fkey y) := by
  unfold lessP
  rw [hx, hy]
  rfl
theorem insF_sorted {l : List Nat} {x : Nat} (h : SortF l) (hl : ∀ y ∈ l, nanB y = false) (hx : nanB x = false) : SortF (insF l x) := by
  obtain ⟨h1, h2⟩ := posG_spec l x l.length (Nat.le_refl _)
  have hk := posG_le l x l.length
  unfold insF SortF
  generalize posG l x l.length = k at *
  have hb : ∀ y ∈ l.take k, fkey y ≤ fkey x := by
    intro y hy
    obtain ⟨i, hi, rfl⟩ := List.mem_iff_getElem.1 hy
    rw [List.length_take] at hi
    rw [List.getElem_take]
    have hz : l[k - 1]? = some (l[k - 1]'(by omega)) := List.getElem?_eq_getElem (by omega)
    have hf := h2 (k - 1) _ (by omega) hz
    rw [less_key hx (hl _ (List.getElem_mem _))] at hf
    have hf2 : ¬ fkey x < fkey (l[k - 1]'(by omega)) := by simpa using hf
    by_cases e : i = k - 1
    · subst e; omega
    · have := List.pairwise_iff_getElem.1 h i (k - 1) (by omega) (by omega) (by omega)
      omega
  have ha : ∀ y ∈ l.drop k, fkey x ≤ fkey y := by
    intro y hy
    obtain ⟨i, hi, rfl⟩ := List.mem_iff_getElem.1 hy
    rw [List.length_drop] at hi
    rw [List.getElem_drop]
    have hz : l[k + i]? = some (l[k + i]'(by omega)) := List.getElem?_eq_getElem (by omega)
    have hf := h1 (k + i) _ (by omega) (by omega) hz
    rw [less_key hx (hl _ (List.getElem_mem _))] at hf
    have hf2 : fkey x < fkey (l[k + i]'(by omega)) := by simpa using hf
    omega
  rw [List.pairwise_append]
  refine ⟨List.Pairwise.sublist (List.take_sublist _ _) h, ?_, ?_⟩
  · rw [List.pairwise_cons]
    exact ⟨ha, List.Pairwise.sublist (List.drop_sublist _ _) h⟩
  · intro y hy z hz
    rcases List.mem_cons.1 hz with rfl | hz
    · exact hb y hy
    · exact Int.le_trans (hb y hy) (ha z hz)
theorem medS_sorted {l : List Nat} (hl : ∀ y ∈ l, nanB y = false) : ∀ i, i ≤ l.length → SortF (medS (l.take i)) ∧ (medS (l.take i)).length = i
  | 0, _ => ⟨by simp [medS, SortF], by simp [medS]⟩
  | i + 1, h => by
    obtain ⟨h1, h2⟩ := medS_sorted hl i (by omega)
    obtain ⟨x, hx⟩ : ∃ x, l[i]? = some x := ⟨_, List.getElem?_eq_getElem (by omega)⟩
    have hn := hl x (List.mem_of_getElem? hx)
    rw [medS_succ hx, hn]
    exact ⟨insF_sorted h1 (fun y hy => (medS_mem i hy).2) hn, by rw [if_neg (by simp), insF_length, h2]⟩
theorem key_of_f {x y : Nat} (hx : x < 18446744073709551616) (hy : y < 18446744073709551616) (h : fkey x ≤ fkey y) : skey x ≤ skey y := by
  rw [skey_of x hx, skey_of y hy]
  unfold fkey at h
  split at h <;> split at h <;> simp_all <;> omega
theorem med_law {g : List Nat} (hg : 0 < g.length) (hok : ∀ x ∈ g, OkF x) : ∃ m, medV (medS g) = some m ∧ nanB m = false ∧ (∃ a b, a ∈ g ∧ b ∈ g ∧ skey a ≤ skey m ∧ skey m ≤ skey b) ∧ (g.length % 2 = 1 → m ∈ g) := by
  obtain ⟨hs, hl⟩ := medS_sorted (fun y hy => (hok y hy).2.1) g.length (Nat.le_refl _)
  have hm : ∀ y ∈ medS (g.take g.length), y ∈ g := fun y hy => (medS_mem g.length hy).1
  rw [List.take_length] at hs hl hm
  generalize medS g = s at *
  obtain ⟨b, hb⟩ : ∃ b, s[s.length / 2]? = some b := ⟨_, List.getElem?_eq_getElem (by omega)⟩
  have hbg := hm b (List.mem_of_getElem? hb)
  unfold medV
  rw [if_neg (by omega)]
  by_cases q : s.length % 2 = 1
  · rw [if_pos q, hb]
    exact ⟨b, rfl, (hok b hbg).2.1, ⟨b, b, hbg, hbg, Int.le_refl _, Int.le_refl _⟩, fun _ => hbg⟩
  · rw [if_neg q]
    obtain ⟨a, ha⟩ : ∃ a, s[s.length / 2 - 1]? = some a := ⟨_, List.getElem?_eq_getElem (by omega)⟩
    have hag := hm a (List.mem_of_getElem? ha)
    have oka := hok a hag
    have okb := hok b hbg
    have hab : fkey a ≤ fkey b := by
      obtain ⟨h1, e1⟩ := List.getElem?_eq_some_iff.1 ha
      obtain ⟨h2, e2⟩ := List.getElem?_eq_some_iff.1 hb
      have := List.pairwise_iff_getElem.1 hs _ _ h1 h2 (by omega)
      rw [e1, e2] at this
      exact this
    obtain ⟨z, y, hz, hy, hyn, k1, k2⟩ := half_between a b (by have := oka.2.2; omega) (by have := okb.2.2; omega) (key_of_f oka.1 okb.1 hab)
    rw [ha, hb]
    have e : fop .quo (fop .add (some a) (some b)) (some 4611686018427387904) = some y := by
      show fop .quo (floatBits .add .f64 a b) (some 4611686018427387904) = some y
      rw [hz]
      exact hy
    exact ⟨y, e, hyn, ⟨a, b, hag, hbg, k1, k2⟩, fun h => by omega⟩
def okB (x : Nat) : Bool := !nanB x && ((double.order x 9094988921128908188 == some .lt) && (double.order x 18318360957983683996 == some .gt))
theorem okB_ok {x : Nat} (hx : x < 18446744073709551616) (h : okB x = true) : OkF x := by
  unfold okB at h
  simp only [Bool.and_eq_true, Bool.not_eq_true'] at h
  obtain ⟨h1, h2, h3⟩ := h
  rw [order_lt_iff x _ h1 (by decide)] at h2
  rw [gt_iff x _ h1 (by decide)] at h3
  have e1 : skey 9094988921128908188 = 9094988921128908188 := by decide
  have e2 : skey 18318360957983683996 = -9094988921128908188 := by decide
  rw [e1] at h2
  rw [e2] at h3
  simp only [decide_eq_true_eq] at h2 h3
  refine ⟨hx, h1, ?_⟩
  unfold skey sg at h2 h3
  split at h2 <;> simp_all <;> omega
end Go.Proofs.Ytdhnmcdgiddhdab
