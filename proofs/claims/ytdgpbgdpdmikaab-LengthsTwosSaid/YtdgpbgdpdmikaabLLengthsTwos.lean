/-
  The walk of LengthsTwos.
-/
import Derived.Test.YtdgpbgdpdmikaabLenBegun
set_option linter.unusedVariables false
set_option linter.unusedSimpArgs false
namespace Go.Proofs.Ytdgpbgdpdmikaab
open Go.RowKit
set_option maxRecDepth 100000
theorem infoL : (Try.prog.info? 2).map (fun i => (i.zero, i.size, i.bytes)) = some (some (.int .i64 0), 1, 8) := by kernel_rfl
def twosI (k : Nat) : List Int := (List.range k).map fun i => if i = 0 then 1 else ((2 ^ (i - 1) : Nat) : Int)
theorem twosI_length (k : Nat) : (twosI k).length = k := by simp [twosI]
theorem twosI_succ (k : Nat) (h : 1 ≤ k) : iv (twosI k) ++ [.int .i64 ((2 ^ (k - 1) : Nat) : Int)] = iv (twosI (k + 1)) := by
  unfold twosI iv
  rw [List.range_succ, List.map_append, List.map_append]
  congr 1
  simp
  omega
theorem twos_table : ∀ n, n ≤ 16 → 2 ≤ n → badL (twosI n) = false ∧ lenP (fN (twosI n)) 0 = n - 1 ∧ ∀ i, i < n → 1 ≤ i → lenP (fN (twosI n)) i = n - i := by decide +kernel
set_option maxHeartbeats 2000000 in
theorem LengthsTwos_walk (w : World) (n : Int) (wf : (Lit.int .i64 n).wf = true) :
    Calls Try.prog 11 #[.int .i64 n] w fun e w' => e = .returned (.bool true) ∧ Below w.heap.size w w' := by
  obtain ⟨i0, i0a, i0b, i0c, i0d⟩ := info_parts infoL
  by_cases q1 : n < 2
  · go_enter Try.func11, Try.ntmps11
    go_wp2_with fail
    refine (begun6 _).mono ?_
    rintro e w1 ⟨rfl, hb⟩
    go_wp2_with fail
    go_ret
    exact ⟨rfl, hb⟩
  by_cases q2 : 16 < n
  · go_enter Try.func11, Try.ntmps11
    go_wp2_with fail
    refine (begun6 _).mono ?_
    rintro e w1 ⟨rfl, hb⟩
    go_wp2_with fail
    go_ret
    exact ⟨rfl, hb⟩
  obtain ⟨N, rfl⟩ := Int.eq_ofNat_of_zero_le (show 0 ≤ n by omega)
  have hN : N ≤ 16 := by omega
  have hN2 : 2 ≤ N := by omega
  have hNi : (N : Int) ≤ 16 := by omega
  have hNi2 : ¬ (N : Int) < 2 := by omega
  have HT := Lib.hid (twos_table N hN hN2)
  clear q1 q2 wf
  go_enter Try.func11, Try.ntmps11
  go_wp2_with fail
  refine (begun6 _).mono ?_
  rintro e w1 ⟨rfl, hb⟩
  have hS := ((St.init w).mono hb).alloc (.cells #[.int .i64 1, .int .i64 1] 2)
  have hr0 : RowC 2 1 (.slice (some ⟨w1.heap.size, 0, none⟩) 2 2) 2 (iv (twosI 2)) [(w1.heap.size, .cells #[.int .i64 1, .int .i64 1] 2 (0, 0))] := RowC.fresh w1.heap.size (iv (twosI 2)) rfl (Nat.le_refl 2) (by simp [maxLen]) rfl rfl
  clear hb
  go_wp2_with fail
  go_loopg [4, 5] (N - 2) (fun m s4 s5 wr => ∃ i : Nat, i + m = N ∧ 2 ≤ i ∧ s5 = .int .i64 (i : Int) ∧ ∃ c, RowC 2 1 s4 i (iv (twosI i)) c ∧ St w.heap.size w wr [c])
  case atStart => exact ⟨2, by omega, by omega, rfl, _, hr0, hS⟩
  case round =>
    clear hr0 hS
    obtain ⟨i, hi, hi2, rfl, c, hr, hS⟩ := hrel
    obtain ⟨ao4, cap4, rfl⟩ := hr.shape
    cases gk with
    | succ m =>
      have hii : (i : Int) < (N : Int) := by omega
      have hi1 : (0 : Int) ≤ (i : Int) - 1 := by omega
      go_wp2_with (at_builtin; (refine wpList_app1 0 35 i0 (.int .i64 0) _ _ _ rfl rfl rfl rfl Try.underlying35 i0a i0b i0c i0d rfl hS rfl hr rfl ?_ ?_ ?_); (unfold maxLen; omega); omega; intro v1 c1 w5 hr1 hS5)
      go_roundg m
      case measure => omega
      case rel =>
        have hp : 2 ^ (i - 1) ≤ 2 ^ 15 := Nat.pow_le_pow_right (by omega) (by omega)
        have hw : wrap64 ((2 ^ (i - 1) : Nat) : Int) = ((2 ^ (i - 1) : Nat) : Int) := by
          generalize 2 ^ (i - 1) = P at hp ⊢
          exact IntWalk.wrap64_in _ (by omega)
        rw [show ((2 : Int) ^ (i - 1)) = ((2 ^ (i - 1) : Nat) : Int) from by simp, hw, twosI_succ i (by omega)] at hr1
        exact ⟨i + 1, by omega, by omega, by go_num, c1, hr1, hS5⟩
    | zero =>
      obtain rfl : i = N := by omega
      have hz : ¬ (i : Int) < (i : Int) := by omega
      clear hi
      have hrd := hr.rd hS 0 rfl
      have HRD := Lib.hid (And.intro hrd hS)
      clear hrd hr hS
      go_wp2_with fail
      refine (of_any (twosI i) _ wr (by rw [twosI_length]; omega) (by rw [twosI_length]; exact HRD.out.1)).mono ?_
      rintro e w2 (⟨hbad, _⟩ | ⟨_, v2, c2, rfl, hr2, hS2⟩)
      · rw [HT.out.1] at hbad; cases hbad
      · rw [twosI_length] at hr2
        obtain ⟨ao2, cap2, rfl⟩ := hr2.shape
        obtain ⟨g2, rfl⟩ := hr2.head (by omega)
        have hS3 := HRD.out.2.join hS2
        have hq : ((i : Int) != (i : Int)) = false := by simp
        have H2 := Lib.hid (And.intro hr2 hS3)
        clear hr2 hS2 hS3
        go_wp2_with fail
        go_loopg [8] (i - 1) (fun m s8 wx => ∃ k : Nat, k + m = i ∧ 1 ≤ k ∧ s8 = .int .i64 (k : Int) ∧ w2 = wx)
        case atStart => exact ⟨1, by omega, by omega, rfl, rfl⟩
        case round =>
          obtain ⟨k, hk, hk1, rfl, rfl⟩ := hrel
          cases gk with
          | succ m =>
            have hki : (k : Int) < (i : Int) := by omega
            have hc := H2.out.1.cellAt H2.out.2 0 rfl (iv_get _ k _ (mkI_get _ _ k (by omega)))
            rw [HT.out.2.2 k (by omega) hk1] at hc
            have hne : ((((i - k : Nat) : Int)) != ((i : Int) - (k : Int))) = false := by simp; omega
            have hck : w2.cell? ⟨g2, k, none⟩ = some (.int .i64 ((i : Int) - (k : Int))) := by rw [hc]; congr 2; omega
            have hne2 : (((i : Int) - (k : Int)) != ((i : Int) - (k : Int))) = false := by simp
            clear hc
            go_wp2_with fail
            go_roundg m
            case measure => omega
            case rel => exact ⟨k + 1, by omega, by omega, by go_num, rfl⟩
          | zero =>
            have hki : ¬ (k : Int) < (i : Int) := by omega
            have hc := H2.out.1.cellAt H2.out.2 0 rfl (iv_get _ 0 _ (mkI_get _ _ 0 (by omega)))
            rw [HT.out.2.1] at hc
            have hck : w2.cell? ⟨g2, 0, none⟩ = some (.int .i64 ((i : Int) - 1)) := by rw [hc]; congr 2; omega
            clear hc hk
            go_wp2_with fail
            go_ret
            exact ⟨by simp, H2.out.2.below⟩
end Go.Proofs.Ytdgpbgdpdmikaab
