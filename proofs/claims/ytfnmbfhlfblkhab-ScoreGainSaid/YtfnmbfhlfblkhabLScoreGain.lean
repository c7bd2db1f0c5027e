/-
  The walk of ScoreGain.
-/
import Derived.Test.YtfnmbfhlfblkhabScoreG
import Derived.OpenShut
set_option linter.unusedVariables false
set_option linter.unusedSimpArgs false
namespace Go.Proofs.Ytfnmbfhlfblkhab
open Go.RowKit Go.ChangeShapes Go.WideShapes
set_option maxRecDepth 100000
theorem bits_of (o : Option Nat) (x y : Nat) (hx : IsF o x) (hy : IsF o y) : sbP x = sbP y := by
  unfold sbP
  cases o with
  | none => rw [hx.2, hy.2]; rfl
  | some r => obtain ⟨_, rfl⟩ := hx; obtain ⟨_, rfl⟩ := hy; rfl
set_option maxHeartbeats 2000000 in
theorem ScoreGain_walk (w : World) (d : Int) (wd : (Lit.int .i64 d).wf = true) (a : Int) (wa : (Lit.int .i64 a).wf = true) (x : Int) (wx : (Lit.int .u64 x).wf = true) (y : Int) (wy : (Lit.int .u64 y).wf = true) :
    Calls Try.prog 5 #[.int .i64 d, .int .i64 a, .int .u64 x, .int .u64 y] w fun e w' => e = .returned (.bool true) ∧ Below w.heap.size w w' := by
  have bx := bounds_u64 wx
  have by_ := bounds_u64 wy
  obtain ⟨ag, rfl⟩ := Int.eq_ofNat_of_zero_le bx.1
  obtain ⟨we, rfl⟩ := Int.eq_ofNat_of_zero_le by_.1
  have ha : ag < 18446744073709551616 := by omega
  have hb : we < 18446744073709551616 := by omega
  clear bx by_ wx wy
  go_enter Try.func5, Try.ntmps5
  go_wp2_with fail
  refine (begun12 w).mono ?_
  rintro e w1 ⟨rfl, hbel⟩
  have hS := (St.init w).mono hbel
  clear hbel
  go_wp2_with fail
  refine (ratio_any d a w1).mono ?_
  rintro e w2 ⟨r1, rfl, f1, hd⟩
  replace hS := hS.Drew hd
  clear hd
  go_wp2_with fail
  refine (sbits_sb r1 w2).mono ?_
  rintro e w3 ⟨rfl, rfl⟩
  go_wp2_with fail
  refine (refratio_any d a w2).mono ?_
  rintro e w3 ⟨r2, rfl, f2, hd⟩
  replace hS := hS.Drew hd
  clear hd
  go_wp2_with fail
  refine (floatbits_sb r2 w3).mono ?_
  rintro e w4 ⟨rfl, rfl⟩
  rw [← bits_of _ r1 r2 f1 f2]
  clear f1 f2
  go_wp2_with fail
  refine (gain_any d a ag we w3 ha hb).mono ?_
  rintro e w4 ⟨g1, rfl, f1, hd⟩
  replace hS := hS.Drew hd
  clear hd
  go_wp2_with fail
  refine (sbits_sb g1 w4).mono ?_
  rintro e w5 ⟨rfl, rfl⟩
  go_wp2_with fail
  refine (refgain_any d a ag we w4 ha hb).mono ?_
  rintro e w5 ⟨g2, rfl, f2, hd⟩
  replace hS := hS.Drew hd
  clear hd
  go_wp2_with fail
  refine (floatbits_sb g2 w5).mono ?_
  rintro e w6 ⟨rfl, rfl⟩
  rw [← bits_of _ g1 g2 f1 f2]
  go_wp2_with fail
  go_ret
  exact ⟨by simp, hS.below⟩
end Go.Proofs.Ytfnmbfhlfblkhab
