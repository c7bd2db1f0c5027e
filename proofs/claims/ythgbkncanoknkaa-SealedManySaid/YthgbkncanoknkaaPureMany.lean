/-
  Many records of few keys: each key's last one.
-/
import Derived.Test.YthgbkncanoknkaaSg12
set_option linter.unusedVariables false
set_option linter.unusedSimpArgs false
namespace Go.Proofs.Ythgbkncanoknkaa
open Go.RowKit
def keyM (c : Nat) : List UInt8 := [107, UInt8.ofNat (97 + c)]
def recM (K Z j : Nat) : Rec := ⟨1, (j : Int) + 1, keyM (j % K), List.replicate Z 0⟩
def recsM (K Z n : Nat) : List Rec := (List.range n).map (recM K Z)
theorem recsM_len (K Z n : Nat) : (recsM K Z n).length = n := by simp [recsM]
theorem recsM_get {K Z n i : Nat} (h : i < n) : (recsM K Z n)[i]? = some (recM K Z i) := by
  simp [recsM, List.getElem?_map, List.getElem?_range h]
theorem recsM_succ (K Z n : Nat) : recsM K Z (n + 1) = recsM K Z n ++ [recM K Z n] := by
  simp [recsM, List.range_succ]
theorem recsM_ok {K Z n : Nat} (hZ : Z ≤ 120) (hn : n ≤ 60) : ∀ r ∈ recsM K Z n, OkR r := by
  intro r hr
  obtain ⟨j, hj, rfl⟩ := List.mem_map.1 hr
  have hj2 := List.mem_range.1 hj
  refine ⟨by simp [recM, keyM], by simp [recM, keyM], by simp [recM]; omega, .inl rfl, fun e => ?_, ?_, ?_⟩
  · exact absurd (show (1 : Int) = 0 from e) (by decide)
  · show (1 : Int) ≤ (j : Int) + 1
    omega
  · show (j : Int) + 1 ≤ _
    omega
theorem recsM_vals (K Z n : Nat) : (valsP (recsM K Z n)).length = Z * n := by
  induction n with
  | zero => rfl
  | succ n ih =>
    rw [recsM_succ, valsP_snoc, List.length_append, ih]
    simp [recM, Nat.mul_succ]
theorem keyM_inj {a b : Nat} (ha : a < 100) (hb : b < 100) (h : keyM a = keyM b) : a = b := by
  have h1 : UInt8.ofNat (97 + a) = UInt8.ofNat (97 + b) := by simpa [keyM] using h
  have h2 := congrArg UInt8.toNat h1
  simp only [UInt8.toNat_ofNat'] at h2
  omega
theorem lastR_none {l : List Rec} {key : List UInt8} : ∀ {n : Nat}, lastR l key n = none → ∀ j, j < n → ∀ r, l[j]? = some r → r.key ≠ key
  | 0, _, j, hj, _, _ => absurd hj (Nat.not_lt_zero _)
  | n + 1, h, j, hj, r, hr => by
    rw [lastR] at h
    by_cases e : j = n
    · subst e
      rw [hr] at h
      simp only at h
      split at h
      · cases h
      · assumption
    · have h2 : lastR l key n = none := by
        split at h
        · split at h
          · cases h
          · exact h
        · exact h
      exact lastR_none h2 j (by omega) r hr
theorem lastR_max {l : List Rec} {key : List UInt8} : ∀ {n i : Nat}, lastR l key n = some i → ∀ j, i < j → j < n → ∀ r, l[j]? = some r → r.key ≠ key
  | 0, _, h, _, _, _, _, _ => by cases h
  | n + 1, i, h, j, hij, hj, r, hr => by
    rw [lastR] at h
    split at h
    · rename_i x hx
      split at h
      · injection h with h
        omega
      · rename_i hk
        by_cases e : j = n
        · subst e
          rw [hr] at hx
          injection hx with hx
          rw [hx]
          exact hk
        · exact lastR_max h j hij (by omega) r hr
    · rename_i hx
      by_cases e : j = n
      · subst e
        rw [hr] at hx
        cases hx
      · exact lastR_max h j hij (by omega) r hr
theorem find_many {K Z n k : Nat} (hK : K ≤ 20) (hk : k < K) (hn : n ≤ 60) :
    (lastR (recsM K Z n) (keyM k) (recsM K Z n).length = none ∧ n ≤ k) ∨ ∃ i, lastR (recsM K Z n) (keyM k) (recsM K Z n).length = some i ∧ k < n ∧ i < n ∧ i % K = k ∧ n ≤ i + K := by
  rw [recsM_len]
  cases h : lastR (recsM K Z n) (keyM k) n with
  | none =>
    left
    refine ⟨rfl, ?_⟩
    rcases Nat.lt_or_ge k n with hkn | hkn
    · exact absurd (by simp [recM, Nat.mod_eq_of_lt hk]) (lastR_none h k hkn _ (recsM_get hkn))
    · exact hkn
  | some i =>
    right
    obtain ⟨hi, r, hr, hkey⟩ := lastR_lt h
    rw [recsM_get hi] at hr
    injection hr with hr
    subst hr
    have hm := Nat.mod_lt i (show 0 < K by omega)
    have e1 : i % K = k := keyM_inj (by omega) (by omega) hkey
    have hki : k ≤ i := by rw [← e1]; exact Nat.mod_le i K
    refine ⟨i, rfl, by omega, hi, e1, ?_⟩
    rcases Nat.lt_or_ge (i + K) n with hlt | hge
    · refine absurd ?_ (lastR_max h (i + K) (by omega) hlt _ (recsM_get hlt))
      show keyM ((i + K) % K) = keyM k
      rw [Nat.add_mod_right, e1]
    · exact hge
end Go.Proofs.Ythgbkncanoknkaa
