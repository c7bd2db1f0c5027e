/-
  The walk of ZerosRun.
-/
import Derived.Test.YtfnmbfhlfblkhaaZerosBegun
set_option linter.unusedVariables false
set_option linter.unusedSimpArgs false
namespace Go.Proofs.Ytfnmbfhlfblkhaa
open Go.RowKit
set_option maxRecDepth 100000
theorem dec_enc_zeros (n : Nat) : dec n (enc (List.replicate n 0) 0) [] 1 = (List.replicate n 0, 0) := by
  rw [enc_zeros, Nat.zero_add]
  obtain ⟨w', _, h⟩ := dec_runL n [257] n [] 1 (by omega) (by simp)
  rw [h, dec_end]
  simp
theorem pow_bits (k : Nat) (h : k ≤ 20) : IntKind.i64.wrap (2 * 2 ^ k) = ((2 ^ (k + 1) : Nat) : Int) := by
  have h1 : 2 ^ (k + 1) ≤ 2 ^ 21 := Nat.pow_le_pow_right (by omega) (by omega)
  have e : (2 : Int) * 2 ^ k = ((2 ^ (k + 1) : Nat) : Int) := by rw [Nat.pow_succ]; simp [Int.mul_comm]
  rw [e, IntKind.wrap_i64]
  generalize 2 ^ (k + 1) = q at *
  omega
set_option maxHeartbeats 2000000 in
theorem ZerosRun_walk (w : World) (n : Int) (wf : (Lit.int .i64 n).wf = true) :
    Calls Try.prog 4 #[.int .i64 n] w fun e w' => e = .returned (.bool true) ∧ Below w.heap.size w w' := by
  obtain ⟨i0, i0a, i0b, i0c, i0d⟩ := info_parts infoU8
  by_cases q1 : n < 0
  · go_enter Try.func4, Try.ntmps4
    go_wp2_with fail
    refine (begun5 _).mono ?_
    rintro e w1 ⟨rfl, hb⟩
    go_wp2_with fail
    go_ret
    exact ⟨rfl, hb⟩
  by_cases q2 : 5000 < n
  · go_enter Try.func4, Try.ntmps4
    go_wp2_with fail
    refine (begun5 _).mono ?_
    rintro e w1 ⟨rfl, hb⟩
    go_wp2_with fail
    go_ret
    exact ⟨rfl, hb⟩
  obtain ⟨N, rfl⟩ := Int.eq_ofNat_of_zero_le (show 0 ≤ n by omega)
  have hN : N ≤ 5000 := by omega
  clear q1 wf
  go_enter Try.func4, Try.ntmps4
  go_wp2_with fail
  refine (begun5 _).mono ?_
  rintro e w1 ⟨rfl, hb⟩
  have hS := (St.init w).mono hb
  clear hb
  go_wp2_with (at_make; (refine wpList_mk (n := N) 24 i0 (.int .u8 0) _ _ rfl rfl _ _ _ _ rfl rfl Try.underlying24 i0a i0b i0c i0d rfl ?_ ?_ ?_ ?_ hS ?_); omega; omega; omega; (unfold maxLen; omega); intro g c1 w2 hr hS1)
  rw [← bv_zeros] at hr
  have hl : (List.replicate N (0 : UInt8)).length = N := by simp
  refine (encode_any _ (List.replicate N 0) _ (by rw [hl]; exact hr.rd hS1 0 rfl) (by simp; omega)).mono ?_
  rintro e w3 ⟨v3, c3, rfl, hr3, hs3⟩
  have hS3 := hS1.join hs3
  clear hs3 hS1
  obtain ⟨ao3, cap3, rfl⟩ := hr3.shape
  obtain ⟨K, hK⟩ : ∃ K, (runL N).length = K := ⟨_, rfl⟩
  have hlen : (enc (List.replicate N 0) 0).length = K + 1 := by rw [enc_zeros, Nat.zero_add]; simp [hK]
  have hbits := runL_length N
  rw [hK] at hbits
  rw [hlen] at hr3 ⊢
  have HB := Lib.hid (And.intro hlen hbits)
  have hK20 : K ≤ 20 := by
    rcases Nat.lt_or_ge 20 K with h | h
    · have := Nat.pow_le_pow_right (show 0 < 2 by omega) (show 13 ≤ K by omega)
      omega
    · exact h
  clear hbits hlen hK
  go_wp2_with fail
  go_loopg [5] K (fun m s5 wr => ∃ k : Nat, k + m = K ∧ s5 = .int .i64 (k : Int) ∧ wr = w3)
  case atStart => exact ⟨0, by omega, rfl, rfl⟩
  case round =>
    obtain ⟨k, hk, rfl, rfl⟩ := hrel
    have hkK : (k : Int) ≤ 20 := by omega
    have hp := pow_bits k (by omega)
    cases gk with
    | zero =>
      obtain rfl : k = K := by omega
      have hlt : ¬ ((2 : Int) ^ (k + 1) ≤ (N : Int) + 1) := by
        have h2 := HB.out.2.2
        have : ((2 ^ (k + 1) : Nat) : Int) = (2 : Int) ^ (k + 1) := by simp
        omega
      clear hk
      go_wp2_with fail
      refine (decode_any _ (enc (List.replicate N 0) 0) N _ (by rw [HB.out.1]; exact hr3.rd hS3 0 rfl) (by rw [HB.out.1]; omega) (by omega)).mono ?_
      rintro e w4 ⟨v4, rfl, c4, hr4, hs4⟩
      rw [Int.toNat_natCast, dec_enc_zeros] at hr4 ⊢
      rw [hl] at hr4
      obtain ⟨ao4, cap4, rfl⟩ := hr4.shape
      go_wp2_with fail
      go_ret
      exact ⟨rfl, (hS3.join hs4).below⟩
    | succ m =>
      have hle : ((2 : Int) ^ (k + 1) ≤ (N : Int) + 1) := by
        have h2 := HB.out.2.1
        have h3 := Nat.pow_le_pow_right (show 0 < 2 by omega) (show k + 1 ≤ K by omega)
        have : ((2 ^ (k + 1) : Nat) : Int) = (2 : Int) ^ (k + 1) := by simp
        omega
      go_wp2_with fail
      go_roundg m
      case measure => omega
      case rel => exact ⟨k + 1, by omega, by go_num, rfl⟩
end Go.Proofs.Ytfnmbfhlfblkhaa
