/-
  The walk of ScoreWhole.
-/
import Derived.Test.YtfnmbfhlfblkhabScoreG
import Derived.Test.YtfnmbfhlfblkhabFloatExact
import Derived.OpenShut
set_option linter.unusedVariables false
set_option linter.unusedSimpArgs false
namespace Go.Proofs.Ytfnmbfhlfblkhab
open Go.RowKit Go.ChangeShapes Go.WideShapes
open Ieee in
theorem cut_bounds (s : Bool) (n drop : Nat) (hn : 0 < n) (hd : drop ≤ n.log2) : 2 ^ (n.log2 - drop) ≤ Toward.even.cut s n drop ∧ Toward.even.cut s n drop ≤ 2 ^ (n.log2 + 1 - drop) := by
  unfold Toward.cut
  have hmin : min drop (n.log2 + 2) = drop := by omega
  simp only [hmin, Nat.shiftLeft_eq, Nat.one_mul]
  have h1 := Nat.log2_self_le (Nat.ne_of_gt hn)
  have h2 := @Nat.lt_log2_self n
  have p1 : 2 ^ n.log2 = 2 ^ (n.log2 - drop) * 2 ^ drop := by rw [← Nat.pow_add]; congr 1; omega
  have p2 : 2 ^ (n.log2 + 1) = 2 ^ (n.log2 + 1 - drop) * 2 ^ drop := by rw [← Nat.pow_add]; congr 1; omega
  have l1 : 2 ^ (n.log2 - drop) ≤ n / 2 ^ drop := by rw [Nat.le_div_iff_mul_le (Nat.two_pow_pos _), ← p1]; exact h1
  have l2 : n / 2 ^ drop < 2 ^ (n.log2 + 1 - drop) := by rw [Nat.div_lt_iff_lt_mul (Nat.two_pow_pos _), ← p2]; exact h2
  refine ⟨by omega, ?_⟩
  have : ∀ b : Bool, b.toNat ≤ 1 := by intro b; cases b <;> decide
  have := this (decide (2 ^ drop < 2 * (n % 2 ^ drop)) || (2 ^ drop == 2 * (n % 2 ^ drop) && n / 2 ^ drop % 2 == 1))
  omega
theorem word_mod (s : Bool) (R : Nat) (h : R < 9223372036854775808) : Ieee.double.word s R % 9223372036854775808 = R := by
  have e1 : Ieee.double.signWeight = 9223372036854775808 := by decide
  unfold Ieee.Format.word
  rw [e1]
  cases s
  · rw [if_neg (by simp)]; exact Nat.mod_eq_of_lt h
  · rw [if_pos rfl, Nat.add_mod_left]; exact Nat.mod_eq_of_lt h
theorem rung_fits (s : Bool) (q K : Nat) (hq : q ≤ 1085) (h1 : 4503599627370496 ≤ K) (h2 : K ≤ 9007199254740992) :
    0 < Ieee.double.word s (min (q * 4503599627370496 + K) 9218868437227405312) % 9223372036854775808 ∧ Ieee.double.word s (min (q * 4503599627370496 + K) 9218868437227405312) % 9223372036854775808 < 9218868437227405312 := by
  have hm : min (q * 4503599627370496 + K) 9218868437227405312 = q * 4503599627370496 + K := by omega
  rw [hm, word_mod s _ (by omega)]
  omega
theorem fint_rung (d : Int) (h0 : d ≠ 0) (h1 : -9223372036854775808 ≤ d) (h2 : d ≤ 9223372036854775807) :
    0 < floatOfInt .f64 d % 9223372036854775808 ∧ floatOfInt .f64 d % 9223372036854775808 < 9218868437227405312 := by
  show 0 < Ieee.double.nearest (d < 0) d.natAbs 0 % _ ∧ Ieee.double.nearest (d < 0) d.natAbs 0 % _ < _
  have hn : 0 < d.natAbs := by omega
  have hle : d.natAbs ≤ 9223372036854775808 := by omega
  generalize d.natAbs = n at *
  generalize decide (d < 0) = s
  have hlog : n.log2 ≤ 63 := by
    have := Nat.log2_lt (n := n) (k := 64) (by omega)
    have := this.2 (by omega)
    omega
  have e1 : Ieee.double.signWeight = 9223372036854775808 := by decide
  have e2 : Ieee.double.binade = 4503599627370496 := by decide
  have e3 : Ieee.double.infRung = 9218868437227405312 := by decide
  have e4 : Ieee.double.fractionBits = 52 := rfl
  have e5 : Ieee.double.leastPlace = -1074 := by decide
  unfold Ieee.Format.nearest
  rw [if_neg (by omega)]
  simp only [e2, e3, e4, e5]
  have hlast : max ((0 : Int) + (n.log2 : Int) - ((52 : Nat) : Int)) (-1074) = (n.log2 : Int) - 52 := by omega
  rw [hlast]
  have hrun : ((n.log2 : Int) - 52 - -1074).toNat = n.log2 + 1022 := by omega
  rw [hrun]
  have key : ∀ K, 4503599627370496 ≤ K → K ≤ 9007199254740992 → 0 < Ieee.double.word s (min ((n.log2 + 1022) * 4503599627370496 + K) 9218868437227405312) % 9223372036854775808 ∧ Ieee.double.word s (min ((n.log2 + 1022) * 4503599627370496 + K) 9218868437227405312) % 9223372036854775808 < 9218868437227405312 := by
    intro K hK1 hK2
    exact rung_fits s _ K (by omega) hK1 hK2
  by_cases hc : n.log2 ≤ 52
  · have a1 : ((0 : Int) - ((n.log2 : Int) - 52)).toNat = 52 - n.log2 := by omega
    have a2 : ((n.log2 : Int) - 52 - 0).toNat = 0 := by omega
    rw [a1, a2, Nat.shiftLeft_eq]
    have hm : 0 < n * 2 ^ (52 - n.log2) := Nat.mul_pos hn (Nat.two_pow_pos _)
    have hb := cut_bounds s (n * 2 ^ (52 - n.log2)) 0 hm (by omega)
    rw [log2_mul_pow _ _ hn, show n.log2 + (52 - n.log2) = 52 from by omega] at hb
    exact key _ hb.1 hb.2
  · have a1 : ((0 : Int) - ((n.log2 : Int) - 52)).toNat = 0 := by omega
    have a2 : ((n.log2 : Int) - 52 - 0).toNat = n.log2 - 52 := by omega
    rw [a1, a2, Nat.shiftLeft_eq, Nat.pow_zero, Nat.mul_one]
    have hb := cut_bounds s n (n.log2 - 52) hn (by omega)
    rw [show n.log2 - (n.log2 - 52) = 52 from by omega, show n.log2 + 1 - (n.log2 - 52) = 53 from by omega] at hb
    exact key _ hb.1 hb.2
theorem isf_eq {r x : Nat} (h : IsF (some r) x) : x = r := h.2
set_option maxRecDepth 100000
set_option maxHeartbeats 2000000 in
theorem ScoreWhole_walk (w : World) (d : Int) (wd : (Lit.int .i64 d).wf = true) (age : Nat) (wage : (Lit.float .f64 age).wf = true) :
    Calls Try.prog 6 #[.int .i64 d, .float .f64 age] w fun e w' => e = .returned (.bool true) ∧ Below w.heap.size w w' := by
  have bd := bounds_i64 wd
  have ba : age < 18446744073709551616 := by simpa [Lit.wf] using wage
  have hself : (FloatKind.f64.format.order age age != some .eq) = nanB age := by
    show (!(Ieee.double.order age age == some .eq)) = _
    rw [order_self]; simp
  clear wd wage
  by_cases q0 : d = 0
  · subst q0
    go_enter Try.func6, Try.ntmps6
    go_wp2_with fail
    refine (begun12 w).mono ?_
    rintro e w1 ⟨rfl, hb⟩
    go_wp2_with fail
    go_ret
    exact ⟨rfl, hb⟩
  cases hn : nanB age with
  | true =>
    rw [hn] at hself
    go_enter Try.func6, Try.ntmps6
    go_wp2_with fail
    refine (begun12 w).mono ?_
    rintro e w1 ⟨rfl, hb⟩
    go_wp2_with fail
    go_ret
    exact ⟨rfl, hb⟩
  | false =>
    rw [hn] at hself
    cases g1 : (FloatKind.f64.format.order age 9094988921128908188 == some .gt) with
    | true =>
      go_enter Try.func6, Try.ntmps6
      go_wp2_with fail
      refine (begun12 w).mono ?_
      rintro e w1 ⟨rfl, hb⟩
      go_wp2_with fail
      go_ret
      exact ⟨rfl, hb⟩
    | false =>
      cases g2 : (FloatKind.f64.format.order age 18318360957983683996 == some .lt) with
      | true =>
        go_enter Try.func6, Try.ntmps6
        go_wp2_with fail
        refine (begun12 w).mono ?_
        rintro e w1 ⟨rfl, hb⟩
        go_wp2_with fail
        go_ret
        exact ⟨rfl, hb⟩
      | false =>
        obtain ⟨f1, f2⟩ := fint_rung d q0 bd.1 bd.2
        obtain ⟨o, ho, hno⟩ := add_one_f age hn
        have hol : o < 18446744073709551616 := by have := floatBits_wf ho; simpa [Lit.wf] using this
        have r1 : ratioP d d = some 4607182418800017408 := div_self_f _ f1 f2
        obtain ⟨z, hz, hz2⟩ := div_zero_f _ f1 f2
        have e0 : floatOfInt .f64 0 = 0 := by decide
        have r2 : ratioP 0 d = some z := by unfold ratioP; rw [e0]; exact hz
        have r3 : gainP d d age 4617315517961601024 = some o := by
          unfold gainP
          rw [r1]
          have a1 : fop .add (some 4607182418800017408) (some age) = some o := ho
          have a2 : fop .sub (some 4607182418800017408) (some 4607182418800017408) = some 0 := by decide
          have a3 : fop .mul (some 4617315517961601024) (some 0) = some 0 := by decide
          have a4 : fop .mul (some 4607182418800017408) (some o) = some o := mul_one_f o hol hno
          have a5 : fop .sub (some o) (some 0) = some o := sub_zero_f o hol hno
          rw [a1, a2, a3, a4, a5]
        have o1 : (FloatKind.f64.format.order 4607182418800017408 4607182418800017408 == some .eq) = true := by decide
        have o2 : (FloatKind.f64.format.order z 0 == some .eq) = true := by rcases hz2 with rfl | rfl <;> decide
        have o3 : (FloatKind.f64.format.order o o == some .eq) = true := by
          show (Ieee.double.order o o == some .eq) = true
          rw [order_self, hno]; rfl
        have HR := Lib.hid (And.intro r1 (And.intro r2 r3))
        clear r1 r2 r3 e0 hz hz2 hn f1 f2 hno
        go_enter Try.func6, Try.ntmps6
        go_wp2_with fail
        refine (begun12 w).mono ?_
        rintro e w1 ⟨rfl, hb⟩
        have hS := (St.init w).mono hb
        clear hb
        go_wp2_with fail
        refine (ratio_any d d w1).mono ?_
        rintro e w2 ⟨x1, rfl, i1, hd⟩
        replace hS := hS.Drew hd
        rw [HR.out.1] at i1
        obtain rfl := isf_eq i1
        clear hd i1
        go_wp2_with fail
        refine (ratio_any 0 d w2).mono ?_
        rintro e w3 ⟨x2, rfl, i2, hd⟩
        replace hS := hS.Drew hd
        rw [HR.out.2.1] at i2
        obtain rfl := isf_eq i2
        clear hd i2
        go_wp2_with fail
        refine (gain_any d d age 4617315517961601024 w3 ba (by omega)).mono ?_
        rintro e w4 ⟨x3, rfl, i3, hd⟩
        replace hS := hS.Drew hd
        rw [HR.out.2.2] at i3
        obtain rfl := isf_eq i3
        clear hd i3
        have hadd := run_float_arith (P := Try.prog) w4 .add 25 .f64 _ _ _ ho
        clear ho
        go_wp2_with fail
        go_ret
        exact ⟨rfl, hS.below⟩
end Go.Proofs.Ytfnmbfhlfblkhab
