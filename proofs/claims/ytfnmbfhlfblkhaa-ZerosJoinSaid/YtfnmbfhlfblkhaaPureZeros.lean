/-
  Runs of zeros, plain: the symbols of a run, of a text, and what symbols come to.
-/
import Derived.Test.YtfnmbfhlfblkhaaPureBits
set_option linter.unusedVariables false
set_option linter.unusedSimpArgs false
namespace Go.Proofs.Ytfnmbfhlfblkhaa

/-- The symbols of n zeros. -/
def runL (n : Nat) : List Int := if h : n = 0 then [] else (1 - ((n % 2 : Nat) : Int)) :: runL ((n - 1) / 2)
termination_by n
decreasing_by omega
theorem runL_zero : runL 0 = [] := by rw [runL]; simp
theorem runL_pos {n : Nat} (h : 0 < n) : runL n = (1 - ((n % 2 : Nat) : Int)) :: runL ((n - 1) / 2) := by rw [runL, dif_neg (by omega)]
theorem runL_le (n : Nat) : (runL n).length ≤ n := by
  induction n using Nat.strongRecOn with
  | _ n ih =>
    rcases Nat.eq_zero_or_pos n with rfl | h
    · simp [runL_zero]
    · rw [runL_pos h]
      have := ih ((n - 1) / 2) (by omega)
      simp only [List.length_cons]
      omega
/-- The symbols of n zeros and the text behind them. -/
def enc : List UInt8 → Nat → List Int
  | [], n => runL n ++ [257]
  | b :: bs, n => if b = 0 then enc bs (n + 1) else runL n ++ ((b.toNat : Int) + 1) :: enc bs 0
/-- What symbols come to: the bytes, and the fault. -/
def dec (most : Nat) : List Int → List UInt8 → Nat → List UInt8 × Int
  | [], _, _ => ([], 6)
  | x :: l, b, wth =>
    if x < 0 ∨ 257 < x ∨ (x = 257 ∧ l ≠ []) then ([], 6)
    else if x = 257 then (b, 0)
    else if 1 < x then (if most ≤ b.length then ([], 2) else dec most l (b ++ [UInt8.ofNat (x - 1).toNat]) 1)
    else if most - b.length < wth * (x.toNat + 1) then ([], 2) else dec most l (b ++ List.replicate (wth * (x.toNat + 1)) 0) (wth * 2)
section
variable {most : Nat} {x : Int} {l : List Int} {b : List UInt8} {wth : Nat}
theorem dec_bad (h : x < 0 ∨ 257 < x ∨ (x = 257 ∧ l ≠ [])) : dec most (x :: l) b wth = ([], 6) := by rw [dec, if_pos h]
theorem dec_end : dec most [257] b wth = (b, 0) := by rw [dec]; simp
theorem dec_full (h1 : 1 < x) (h2 : x < 257) (h : most ≤ b.length) : dec most (x :: l) b wth = ([], 2) := by rw [dec, if_neg (by omega), if_neg (by omega), if_pos h1, if_pos h]
theorem dec_byte (h1 : 1 < x) (h2 : x < 257) (h : ¬ most ≤ b.length) : dec most (x :: l) b wth = dec most l (b ++ [UInt8.ofNat (x - 1).toNat]) 1 := by rw [dec, if_neg (by omega), if_neg (by omega), if_pos h1, if_neg h]
theorem dec_great (h1 : 0 ≤ x) (h2 : x ≤ 1) (h : most - b.length < wth * (x.toNat + 1)) : dec most (x :: l) b wth = ([], 2) := by rw [dec, if_neg (by omega), if_neg (by omega), if_neg (by omega), if_pos h]
theorem dec_run (h1 : 0 ≤ x) (h2 : x ≤ 1) (h : ¬ most - b.length < wth * (x.toNat + 1)) : dec most (x :: l) b wth = dec most l (b ++ List.replicate (wth * (x.toNat + 1)) 0) (wth * 2) := by rw [dec, if_neg (by omega), if_neg (by omega), if_neg (by omega), if_neg h]
end
/-- The symbols of n zeros, behind symbols that told of some. -/
theorem dec_runL (most : Nat) (l : List Int) : ∀ (n : Nat) (b : List UInt8) (wth : Nat), 0 < wth → b.length + wth * n ≤ most →
    ∃ w', 0 < w' ∧ dec most (runL n ++ l) b wth = dec most l (b ++ List.replicate (wth * n) 0) w' := by
  intro n
  induction n using Nat.strongRecOn with
  | _ n ih =>
    intro b wth hw h
    rcases Nat.eq_zero_or_pos n with rfl | hn
    · exact ⟨wth, hw, by simp [runL_zero]⟩
    · rw [runL_pos hn, List.cons_append]
      obtain ⟨d, hd, hd2, hnd⟩ : ∃ d, (1 - ((n % 2 : Nat) : Int)) = ((d : Nat) : Int) ∧ d ≤ 1 ∧ n = d + 1 + 2 * ((n - 1) / 2) := ⟨1 - n % 2, by omega, by omega, by omega⟩
      rw [hd]
      have hmul : wth * n = wth * (d + 1) + wth * 2 * ((n - 1) / 2) := by rw [Nat.mul_assoc, ← Nat.mul_add, ← hnd]
      rw [dec_run (by omega) (by omega) (by rw [Int.toNat_natCast]; omega)]
      rw [Int.toNat_natCast]
      obtain ⟨w', h1, h2⟩ := ih ((n - 1) / 2) (by omega) (b ++ List.replicate (wth * (d + 1)) 0) (wth * 2) (by omega) (by rw [List.length_append, List.length_replicate]; omega)
      refine ⟨w', h1, ?_⟩
      rw [h2, List.append_assoc, List.replicate_append_replicate, hmul]
theorem enc_zeros (n k : Nat) : enc (List.replicate n 0) k = runL (k + n) ++ [257] := by
  induction n generalizing k with
  | zero => rfl
  | succ n ih => rw [List.replicate_succ, enc, if_pos rfl, ih]; congr 2; omega
/-- A run takes as many symbols as n + 1 has bits, less one. -/
theorem runL_length (n : Nat) : 2 ^ (runL n).length ≤ n + 1 ∧ n + 1 < 2 ^ ((runL n).length + 1) := by
  induction n using Nat.strongRecOn with
  | _ n ih =>
    rcases Nat.eq_zero_or_pos n with rfl | h
    · simp [runL_zero]
    · rw [runL_pos h]
      have := ih ((n - 1) / 2) (by omega)
      simp only [List.length_cons]
      rw [Nat.pow_succ, Nat.pow_succ 2 (_ + 1)]
      omega
/-- A byte that is no nought parts a text. -/
theorem enc_join (a b : List UInt8) (x : UInt8) (hx : x ≠ 0) : ∀ n, enc (a ++ x :: b) n = (enc a n).dropLast ++ ((x.toNat : Int) + 1) :: enc b 0 := by
  induction a with
  | nil => intro n; simp [enc, hx]
  | cons y a ih =>
    intro n
    rw [List.cons_append, enc, enc]
    by_cases hy : y = 0
    · rw [if_pos hy, if_pos hy, ih]
    · rw [if_neg hy, if_neg hy, ih]
      have hne : enc a 0 ≠ [] := by
        intro h
        have : ∀ (bs : List UInt8) k, enc bs k ≠ [] := by
          intro bs
          induction bs with
          | nil => intro k; simp [enc]
          | cons z bs ih2 => intro k; rw [enc]; split; exact ih2 _; simp
        exact this _ _ h
      rw [List.dropLast_append_of_ne_nil (by simp), List.dropLast_cons_of_ne_nil hne]
      simp
theorem enc_ne (bs : List UInt8) : ∀ k, enc bs k ≠ [] := by
  induction bs with
  | nil => intro k; simp [enc]
  | cons z bs ih2 => intro k; rw [enc]; split; exact ih2 _; simp
theorem enc_le (bs : List UInt8) : ∀ k, (enc bs k).length ≤ bs.length + k + 1 := by
  induction bs with
  | nil => intro k; have := runL_le k; simp [enc]; omega
  | cons z bs ih2 =>
    intro k
    rw [enc]
    split
    · have := ih2 (k + 1); simp; omega
    · have := ih2 0; have := runL_le k; simp; omega
/-- m ones, which tell of two zeros, then of four .. -/
theorem dec_ones (most : Nat) (l : List Int) : ∀ (m : Nat) (b : List UInt8) (wth : Nat), b.length + wth * (2 ^ (m + 1) - 2) ≤ most →
    ∃ w', dec most (List.replicate m 1 ++ l) b wth = dec most l (b ++ List.replicate (wth * (2 ^ (m + 1) - 2)) 0) w' := by
  intro m
  induction m with
  | zero => intro b wth _; exact ⟨wth, by simp⟩
  | succ m ih =>
    intro b wth h
    have e : wth * (2 ^ (m + 1 + 1) - 2) = wth * 2 + wth * 2 * (2 ^ (m + 1) - 2) := by
      rw [Nat.mul_assoc, ← Nat.mul_add]
      congr 1
      have := Nat.two_pow_pos (m + 1)
      have : 2 ^ (m + 1) = 2 * 2 ^ m := by rw [Nat.pow_succ, Nat.mul_comm]
      have := Nat.two_pow_pos m
      rw [Nat.pow_succ 2 (m + 1)]
      omega
    rw [List.replicate_succ, List.cons_append, dec_run (by omega) (by omega) (by simp; omega)]
    obtain ⟨w', h1⟩ := ih (b ++ List.replicate (wth * 2) 0) (wth * 2) (by rw [List.length_append, List.length_replicate]; omega)
    refine ⟨w', ?_⟩
    simp only [show (1 : Int).toNat + 1 = 2 from rfl]
    rw [h1, List.append_assoc, List.replicate_append_replicate, e]
theorem dec_ones_great (most : Nat) (l : List Int) : ∀ (m : Nat) (b : List UInt8) (wth : Nat), b.length ≤ most → most < b.length + wth * (2 ^ (m + 1) - 2) →
    dec most (List.replicate m 1 ++ l) b wth = ([], 2) := by
  intro m
  induction m with
  | zero => intro b wth _ h; simp at h; omega
  | succ m ih =>
    intro b wth hb h
    have e : wth * (2 ^ (m + 1 + 1) - 2) = wth * 2 + wth * 2 * (2 ^ (m + 1) - 2) := by
      rw [Nat.mul_assoc, ← Nat.mul_add]
      congr 1
      have : 2 ^ (m + 1) = 2 * 2 ^ m := by rw [Nat.pow_succ, Nat.mul_comm]
      have := Nat.two_pow_pos m
      rw [Nat.pow_succ 2 (m + 1)]
      omega
    rw [List.replicate_succ, List.cons_append]
    by_cases hc : most - b.length < wth * ((1 : Int).toNat + 1)
    · exact dec_great (by omega) (by omega) hc
    · rw [dec_run (by omega) (by omega) hc]
      simp only [show (1 : Int).toNat + 1 = 2 from rfl] at hc ⊢
      exact ih _ _ (by rw [List.length_append, List.length_replicate]; omega) (by rw [List.length_append, List.length_replicate]; omega)
end Go.Proofs.Ytfnmbfhlfblkhaa
