/-
  The walk of LengthsEqual.
-/
import Derived.Test.YtdgpbgdpdmikaabLenLaw
import Derived.Test.YtdgpbgdpdmikaabPureLenE
set_option linter.unusedVariables false
set_option linter.unusedSimpArgs false
namespace Go.Proofs.Ytdgpbgdpdmikaab
open Go.RowKit
set_option maxRecDepth 100000
theorem equal_row (i : Nat) (f : Int) : iv (List.replicate i f) ++ [.int .i64 f] = iv (List.replicate (i + 1) f) := by
  rw [iv_snoc, ← List.replicate_succ']
/-- How many have the longer length. -/
def eqD (n K : Nat) : Nat := 2 * n - 2 ^ (K + 1)
theorem equal_facts (n : Nat) (f : Int) (h1 : 2 ≤ n) (h2 : n ≤ 300) (h3 : 1 ≤ f) (h4 : f ≤ 1073741824) :
    ∃ K, K ≤ 8 ∧ 2 ^ K ≤ n ∧ n < 2 ^ (K + 1) ∧ eqD n K < n ∧ ((n - eqD n K : Nat) : Int) = ((2 ^ (K + 1) : Nat) : Int) - (n : Int) ∧ badL (List.replicate n f) = false ∧
      ∀ s, s < n → lenP (fN (List.replicate n f)) s = K + if s < eqD n K then 1 else 0 := by
  have hl := Nat.log2_self_le (n := n) (by omega)
  have hu := Nat.lt_log2_self (n := n)
  generalize Nat.log2 n = K at hl hu
  have hK : K ≤ 8 := by
    rcases Nat.lt_or_ge 8 K with q | q
    · have : 2 ^ 9 ≤ 2 ^ K := Nat.pow_le_pow_right (by omega) (by omega)
      omega
    · exact q
  refine ⟨K, hK, hl, hu, ?_, ?_, ?_, ?_⟩
  · unfold eqD; rw [Nat.pow_succ] at *; omega
  · unfold eqD; rw [Nat.pow_succ] at *; omega
  · refine bad_of (by simpa using h2) ?_
    intro x hx
    rw [List.mem_replicate] at hx
    omega
  · intro s hs
    have hf : fN (List.replicate n f) = List.replicate n f.toNat := by simp [fN]
    rw [hf, equal_lens n f.toNat K h1 h2 (by omega) hl hu s hs]
    rfl
set_option maxHeartbeats 4000000 in
theorem LengthsEqual_walk (w : World) (n : Int) (wf : (Lit.int .i64 n).wf = true) (f : Int) (wf2 : (Lit.int .i64 f).wf = true) :
    Calls Try.prog 14 #[.int .i64 n, .int .i64 f] w fun e w' => e = .returned (.bool true) ∧ Below w.heap.size w w' := by
  obtain ⟨i0, i0a, i0b, i0c, i0d⟩ := info_parts infoL
  go_enter Try.func14, Try.ntmps14
  go_wp2_with fail
  refine (begun6 _).mono ?_
  rintro e w1 ⟨rfl, hb⟩
  by_cases q1 : n < 2
  · go_wp2_with fail
    go_ret
    exact ⟨rfl, hb⟩
  by_cases q2 : 300 < n
  · go_wp2_with fail
    go_ret
    exact ⟨rfl, hb⟩
  by_cases q3 : f < 1
  · go_wp2_with fail
    go_ret
    exact ⟨rfl, hb⟩
  by_cases q4 : 1073741824 < f
  · go_wp2_with fail
    go_ret
    exact ⟨rfl, hb⟩
  have hS1 := ((St.init w).mono hb).one_nil
  clear hb
  obtain ⟨N, rfl⟩ := Int.eq_ofNat_of_zero_le (show 0 ≤ n by omega)
  have hN : N ≤ 300 := by omega
  have hN2 : 2 ≤ N := by omega
  obtain ⟨K, hK, hlo, hhi, hD, hend, hgood, htab⟩ := equal_facts N f hN2 hN (by omega) (by omega)
  have HT := Lib.hid (And.intro hlo (And.intro hhi (And.intro hD (And.intro hend (And.intro hgood htab)))))
  clear hlo hhi hD hend hgood htab wf wf2
  go_wp2_with fail
  go_loopg [6, 7] N (fun m s6 s7 wr => ∃ i : Nat, i + m = N ∧ s7 = .int .i64 (i : Int) ∧ ∃ c, RowC 2 1 s6 i (iv (List.replicate i f)) c ∧ St w.heap.size w wr [c])
  case atStart => exact ⟨0, by omega, rfl, _, RowC.nil 2 1, hS1⟩
  case round =>
    clear hS1
    obtain ⟨i, hi, rfl, c, hr, hS⟩ := hrel
    obtain ⟨ao6, cap6, rfl⟩ := hr.shape
    cases gk with
    | succ m =>
      have hif : (i : Int) < (N : Int) := by omega
      go_wp2_with (at_builtin; (refine wpList_app1 0 35 i0 (.int .i64 0) _ _ _ rfl rfl rfl rfl Try.underlying35 i0a i0b i0c i0d rfl hS rfl hr rfl ?_ ?_ ?_); (unfold maxLen; omega); omega; intro v1 c1 w5 hr1 hS5)
      go_roundg m
      case measure => omega
      case rel =>
        rw [equal_row] at hr1
        exact ⟨i + 1, by omega, by go_num, c1, hr1, hS5⟩
    | zero =>
      obtain rfl : i = N := by omega
      have hz : ¬ (i : Int) < (i : Int) := by omega
      clear hi
      have HR := Lib.hid (And.intro hr hS)
      clear hr hS
      have hKi : (K : Int) ≤ 8 := by omega
      go_wp2_with fail
      go_loopg [8] K (fun m s8 wx => ∃ j : Nat, j + m = K ∧ s8 = .int .i64 (j : Int) ∧ wr = wx)
      case atStart => exact ⟨0, by omega, rfl, rfl⟩
      case round =>
        obtain ⟨j, hj, rfl, rfl⟩ := hrel
        have hj8 : (j : Int) ≤ 8 := by omega
        have hw : wrap64 ((2 : Int) ^ (j + 1)) = (2 : Int) ^ (j + 1) := by
          have hp : 2 ^ (j + 1) ≤ 2 ^ 15 := Nat.pow_le_pow_right (by omega) (by omega)
          rw [show ((2 : Int) ^ (j + 1)) = ((2 ^ (j + 1) : Nat) : Int) from by simp]
          generalize 2 ^ (j + 1) = P at hp ⊢
          exact IntWalk.wrap64_in _ (by omega)
        cases gk with
        | succ m =>
          have hle : wrap64 ((2 : Int) ^ (j + 1)) ≤ (i : Int) := by
            rw [hw]
            have h1 := HT.out.1
            have h2 : 2 ^ (j + 1) ≤ 2 ^ K := Nat.pow_le_pow_right (by omega) (by omega)
            have h3 : ((2 ^ (j + 1) : Nat) : Int) ≤ (i : Int) := by omega
            simpa using h3
          have HW := Lib.hid hw
          clear hw
          go_wp2_with fail
          go_roundg m
          case measure => omega
          case rel => exact ⟨j + 1, by omega, by go_num, rfl⟩
        | zero =>
          obtain rfl : j = K := by omega
          have hle : ¬ wrap64 ((2 : Int) ^ (j + 1)) ≤ (i : Int) := by
            rw [hw]
            have h1 := HT.out.2.1
            have h3 : ¬ ((2 ^ (j + 1) : Nat) : Int) ≤ (i : Int) := by omega
            simpa using h3
          have HW := Lib.hid hw
          clear hw hj
          go_wp2_with fail
          refine (of_any (List.replicate i f) _ wr (by simp; omega) (by rw [List.length_replicate]; exact HR.out.1.rd HR.out.2 0 rfl)).mono ?_
          rintro e w2 (⟨hbad, _⟩ | ⟨_, v2, c2, rfl, hr2, hS2⟩)
          · rw [HT.out.2.2.2.2.1] at hbad; cases hbad
          rw [List.length_replicate] at hr2
          obtain ⟨ao2, cap2, rfl⟩ := hr2.shape
          obtain ⟨g2, rfl⟩ := hr2.head (by omega)
          have hS3 := HR.out.2.join hS2
          have hq : ((i : Int) != (i : Int)) = false := by simp
          have H2 := Lib.hid (And.intro hr2 hS3)
          clear hr2 hS2 hS3 hle
          go_wp2_with fail
          go_loopg [11, 12] i (fun m s11 s12 wx => ∃ k : Nat, k + m = i ∧ s12 = .int .i64 (k : Int) ∧ s11 = .int .i64 ((k - eqD i j : Nat) : Int) ∧ w2 = wx)
          case atStart => exact ⟨0, by omega, rfl, by simp, rfl⟩
          case round =>
            obtain ⟨k, hk, rfl, rfl, rfl⟩ := hrel
            cases gk with
            | succ m =>
              have hki : (k : Int) < (i : Int) := by omega
              have hc := H2.out.1.cellAt H2.out.2 0 rfl (iv_get _ k _ (mkI_get _ _ k (by omega)))
              rw [HT.out.2.2.2.2.2 k (by omega)] at hc
              by_cases qd : k < eqD i j
              · have hck : w2.cell? ⟨g2, k, none⟩ = some (.int .i64 ((j : Int) + 1)) := by rw [hc, if_pos qd]; rfl
                have hz0 : k - eqD i j = 0 := by omega
                have hz1 : k + 1 - eqD i j = 0 := by omega
                have HZ := Lib.hid hz1
                rw [hz0]
                have b1 : (((j : Int) + 1) != (j : Int)) = true := by simp; omega
                have b2 : (((j : Int) + 1) != ((j : Int) + 1)) = false := by simp
                have b3 : (((j : Int) + 1) == (j : Int)) = false := by simp; omega
                clear hc qd hz0 hz1
                go_wp2_with fail
                go_roundg m
                case measure => omega
                case rel => exact ⟨k + 1, by omega, by go_num, by rw [HZ.out]; try rfl, rfl⟩
              · have hck : w2.cell? ⟨g2, k, none⟩ = some (.int .i64 (j : Int)) := by rw [hc, if_neg qd]; rfl
                have HZ : Hid (k + 1 - eqD i j = k - eqD i j + 1) := Lib.hid (by omega)
                have hb : k - eqD i j ≤ 300 := by omega
                have b1 : ((j : Int) != (j : Int)) = false := by simp
                have b3 : ((j : Int) == (j : Int)) = true := by simp
                clear hc qd
                generalize k - eqD i j = z at *
                go_wp2_with fail
                go_roundg m
                case measure => omega
                case rel => exact ⟨k + 1, by omega, by go_num, by rw [HZ.out]; go_num, rfl⟩
            | zero =>
              obtain rfl : k = i := by omega
              have hki : ¬ (k : Int) < (k : Int) := by omega
              have he := HT.out.2.2.2.1
              have hb : k - eqD k j ≤ 300 := by omega
              clear hk
              have HE := Lib.hid he
              clear he
              generalize k - eqD k j = z at *
              go_wp2_with fail
              go_ret
              refine ⟨?_, H2.out.2.below⟩
              have he := HE.out
              have hw := HW.out
              have hfin : wrap64 (wrap64 ((2 : Int) ^ (j + 1)) - (k : Int)) = (z : Int) := by
                have h2 : ((2 : Int) ^ (j + 1)) - (k : Int) = (z : Int) := by rw [he]; simp
                rw [hw, h2]
                exact IntWalk.wrap64_in _ (by omega)
              simp [hfin]
end Go.Proofs.Ytdgpbgdpdmikaab
