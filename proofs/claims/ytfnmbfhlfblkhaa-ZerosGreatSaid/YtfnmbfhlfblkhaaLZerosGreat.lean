/-
  The walk of ZerosGreat.
-/
import Derived.Test.YtfnmbfhlfblkhaaZerosBegun
set_option linter.unusedVariables false
set_option linter.unusedSimpArgs false
namespace Go.Proofs.Ytfnmbfhlfblkhaa
open Go.RowKit
set_option maxRecDepth 100000
theorem pow_bits11 (k : Nat) (h : k ≤ 20) : IntKind.i64.wrap (2 * 2 ^ k) = ((2 ^ (k + 1) : Nat) : Int) := by
  have h1 : 2 ^ (k + 1) ≤ 2 ^ 21 := Nat.pow_le_pow_right (by omega) (by omega)
  have e : (2 : Int) * 2 ^ k = ((2 ^ (k + 1) : Nat) : Int) := by rw [Nat.pow_succ]; simp [Int.mul_comm]
  rw [e, IntKind.wrap_i64]
  generalize 2 ^ (k + 1) = q at *
  omega
theorem dec_great_ones (M D : Nat) : dec M (List.replicate D 1 ++ [257]) [] 1 = if 2 ^ (D + 1) - 2 ≤ M then (List.replicate (2 ^ (D + 1) - 2) 0, 0) else ([], 2) := by
  split
  · rename_i h
    obtain ⟨w', h1⟩ := dec_ones M [257] D [] 1 (by simp; omega)
    rw [h1, dec_end]
    simp
  · rename_i h
    exact dec_ones_great M [257] D [] 1 (by simp) (by simp; omega)
set_option maxHeartbeats 2000000 in
theorem ZerosGreat_walk (w : World) (d : Int) (wf : (Lit.int .i64 d).wf = true) (most : Int) (wf2 : (Lit.int .i64 most).wf = true) :
    Calls Try.prog 6 #[.int .i64 d, .int .i64 most] w fun e w' => e = .returned (.bool true) ∧ Below w.heap.size w w' := by
  obtain ⟨i0, i0a, i0b, i0c, i0d⟩ := info_parts infoInt
  by_cases q1 : d < 1
  · go_enter Try.func6, Try.ntmps6
    go_wp2_with fail
    refine (begun5 _).mono ?_
    rintro e w1 ⟨rfl, hb⟩
    go_wp2_with fail
    go_ret
    exact ⟨rfl, hb⟩
  by_cases q2 : 60 < d
  · go_enter Try.func6, Try.ntmps6
    go_wp2_with fail
    refine (begun5 _).mono ?_
    rintro e w1 ⟨rfl, hb⟩
    go_wp2_with fail
    go_ret
    exact ⟨rfl, hb⟩
  by_cases q3 : 3000 < most
  · go_enter Try.func6, Try.ntmps6
    go_wp2_with fail
    refine (begun5 _).mono ?_
    rintro e w1 ⟨rfl, hb⟩
    go_wp2_with fail
    go_ret
    exact ⟨rfl, hb⟩
  obtain ⟨D, rfl⟩ := Int.eq_ofNat_of_zero_le (show 0 ≤ d by omega)
  have hD : (D : Int) ≤ 60 := by omega
  have hDp : ¬ (D : Int) < 1 := q1
  clear q1 q2 wf
  go_enter Try.func6, Try.ntmps6
  go_wp2_with fail
  refine (begun5 _).mono ?_
  rintro e w1 ⟨rfl, hb⟩
  have hS := ((St.init w).mono hb).one_nil
  clear hb
  go_wp2_with fail
  go_loopg [6, 7] D (fun m s6 s7 wr => ∃ i : Nat, i + m = D ∧ s7 = .int .i64 (i : Int) ∧ ∃ c, RowC 3 1 s6 i (iv (List.replicate i 1)) c ∧ St w.heap.size w wr [c])
  case atStart => exact ⟨0, by omega, rfl, [], RowC.nil _ _, hS⟩
  case round =>
    clear hS
    obtain ⟨i, hi, rfl, c, hr, hS⟩ := hrel
    obtain ⟨ao, cap, rfl⟩ := hr.shape
    cases gk with
    | succ m =>
      have hlt : (i : Int) < D := by omega
      go_wp2_with (at_builtin; (refine wpList_app1 0 22 i0 (.int .i64 0) _ _ _ rfl rfl rfl rfl Try.underlying22 i0a i0b i0c i0d rfl hS rfl hr rfl ?_ ?_ ?_); (unfold maxLen; omega); omega; intro v1 c1 w1 hr1 hs1)
      go_roundg m
      case measure => omega
      case rel =>
        refine ⟨i + 1, by omega, by go_num, c1, ?_, hs1⟩
        rw [List.replicate_succ', iv_append]
        exact hr1
    | zero =>
      obtain rfl : i = D := by omega
      clear hi
      go_wp2_with (at_builtin; (refine wpList_app1 0 22 i0 (.int .i64 0) _ _ _ rfl rfl rfl rfl Try.underlying22 i0a i0b i0c i0d rfl hS rfl hr rfl ?_ ?_ ?_); (unfold maxLen; omega); omega; intro v1 c1 w1 hr1 hs1)
      have e1 : iv (List.replicate i 1) ++ [Value.int .i64 257] = iv (List.replicate i 1 ++ [257]) := by rw [iv_append]; rfl
      have hl1 : (List.replicate i (1 : Int) ++ [257]).length = i + 1 := by simp
      rw [e1] at hr1
      have HL := Lib.hid hl1
      clear hl1 e1 hS hr
      refine (decode_any _ (List.replicate i 1 ++ [257]) most _ (by rw [HL.out]; exact hr1.rd hs1 0 rfl) (by rw [HL.out]; omega) (by omega)).mono ?_
      rintro e w4 ⟨v4, rfl, c4, hr4, hs4⟩
      have hbel := (hs1.join hs4).below
      rw [dec_great_ones] at hr4 ⊢
      obtain ⟨ao4, cap4, rfl⟩ := hr4.shape
      clear hs4 hs1 hr1
      by_cases q4 : (i : Int) < 11
      · have hp := pow_bits11 i (by omega)
        have h2 : 2 ^ 2 ≤ 2 ^ (i + 1) := Nat.pow_le_pow_right (by omega) (by omega)
        have h3 : 2 ^ (i + 1) ≤ 2 ^ 11 := Nat.pow_le_pow_right (by omega) (by omega)
        have e2 : ((2 ^ (i + 1) : Nat) : Int) = (2 : Int) ^ (i + 1) := by simp
        have h2' : (2 : Int) ≤ (2 : Int) ^ (i + 1) := by omega
        have h3' : (2 : Int) ^ (i + 1) ≤ 2048 := by omega
        by_cases q5 : (2 : Int) ^ (i + 1) - 2 ≤ most
        · rw [if_pos (show 2 ^ (i + 1) - 2 ≤ most.toNat by omega)] at hr4 ⊢
          have e3 : ((2 ^ (i + 1) - 2 : Nat) : Int) = (2 : Int) ^ (i + 1) - 2 := by omega
          have E3 := Lib.hid e3
          clear e3
          clear h2 h3 e2
          go_wp2_with fail
          go_ret
          exact ⟨by simp [E3.out], hbel⟩
        · rw [if_neg (show ¬ 2 ^ (i + 1) - 2 ≤ most.toNat by omega)] at hr4 ⊢
          clear h2 h3 e2
          go_wp2_with fail
          go_ret
          exact ⟨by simp, hbel⟩
      · have h3 : 2 ^ 12 ≤ 2 ^ (i + 1) := Nat.pow_le_pow_right (by omega) (by omega)
        rw [if_neg (show ¬ 2 ^ (i + 1) - 2 ≤ most.toNat by omega)] at hr4 ⊢
        clear h3
        go_wp2_with fail
        go_ret
        exact ⟨by simp, hbel⟩
end Go.Proofs.Ytfnmbfhlfblkhaa
