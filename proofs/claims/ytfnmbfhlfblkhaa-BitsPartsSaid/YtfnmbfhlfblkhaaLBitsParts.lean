/-
  The walk of BitsParts: the bits of a number, put whole or in two parts, are the same.
-/
import Derived.Test.YtfnmbfhlfblkhaaBitsBegun
import Derived.Test.YtfnmbfhlfblkhaaBytesStr
import Derived.OpenShut
set_option linter.unusedVariables false
set_option linter.unusedSimpArgs false
namespace Go.Proofs.Ytfnmbfhlfblkhaa
open Go.RowKit
set_option maxRecDepth 100000
/-- The last statement: the same bits. -/
def PartsEnd (P : Prop) : Prop := P
theorem wlen_n {B : Nat} {w0 w : World} {F : List HL} {c : HL} (p : Nat) (bits : List Bool) (n : Nat) (hn : bits.length = n) (hS : St B w0 w (c :: F)) (hc : WrC p bits c) :
    Calls Try.prog 25 #[.pointer (some ⟨p, 0, none⟩)] w fun e w' => e = .returned (.int .i64 (n : Int)) ∧ w = w' := by
  subst hn
  exact wlen_any p bits hS hc
set_option maxHeartbeats 1000000 in
theorem BitsParts_walk (v : Int) (wf0 : (Lit.int .u64 v).wf = true) (n : Int) (_wf1 : (Lit.int .i64 n).wf = true) (at_ : Int) (_wf2 : (Lit.int .i64 at_).wf = true) (w : World) :
    Calls Try.prog 11 #[.int .u64 v, .int .i64 n, .int .i64 at_] w fun e w' => e = .returned (.bool true) ∧ Below w.heap.size w w' := by
  have hv := bounds_u64 wf0
  have hv0 := hv.1
  have hv1 := hv.2
  clear hv wf0 _wf1 _wf2
  by_cases h1 : n < 0
  · have g1 : decide (n < 0) = true := by simpa using h1
    go_enter Try.func11, Try.ntmps11
    go_wp2_with (go_at_call 21; refine (begun1 _).mono ?_; rintro e w1 ⟨rfl, hb⟩)
    go_ret
    exact ⟨rfl, hb⟩
  have g1 : decide (n < 0) = false := by simpa using h1
  by_cases h2 : 64 < n
  · have g2 : decide (64 < n) = true := by simpa using h2
    go_enter Try.func11, Try.ntmps11
    go_wp2_with (go_at_call 21; refine (begun1 _).mono ?_; rintro e w1 ⟨rfl, hb⟩)
    go_ret
    exact ⟨rfl, hb⟩
  have g2 : decide (64 < n) = false := by simpa using h2
  by_cases h3 : at_ < 0
  · have g3 : decide (at_ < 0) = true := by simpa using h3
    go_enter Try.func11, Try.ntmps11
    go_wp2_with (go_at_call 21; refine (begun1 _).mono ?_; rintro e w1 ⟨rfl, hb⟩)
    go_ret
    exact ⟨rfl, hb⟩
  have g3 : decide (at_ < 0) = false := by simpa using h3
  by_cases h4 : n < at_
  · have g4 : decide (n < at_) = true := by simpa using h4
    go_enter Try.func11, Try.ntmps11
    go_wp2_with (go_at_call 21; refine (begun1 _).mono ?_; rintro e w1 ⟨rfl, hb⟩)
    go_ret
    exact ⟨rfl, hb⟩
  have g4 : decide (n < at_) = false := by simpa using h4
  obtain ⟨N, rfl⟩ := Int.eq_ofNat_of_zero_le (show 0 ≤ n by omega)
  obtain ⟨A, rfl⟩ := Int.eq_ofNat_of_zero_le (show 0 ≤ at_ by omega)
  have hN : N ≤ 64 := by omega
  have hA : A ≤ N := by omega
  clear h1 h2 h3 h4
  go_enter Try.func11, Try.ntmps11
  go_wp2_with fail
  refine (begun1 _).mono ?_
  rintro e w1 ⟨rfl, hb⟩
  have hS := (((St.init w).mono hb).alloc (Obj.cells #[.slice none 0 0, .int .i64 0] 39 (0, 0))).alloc (Obj.cells #[.slice none 0 0, .int .i64 0] 39 (0, 0))
  simp only [World.size_alloc] at hS
  have hca := wr_new w1.heap.size
  have hcb := wr_new (w1.heap.size + 1)
  clear hb
  replace hS := hS.pick [1, 0] (by decide) [_, _] rfl
  go_wp2_with fail
  refine (put_any _ _ v N hS hca hv0 hv1 (by omega) (by omega) (by simp)).mono ?_
  rintro e w2 ⟨rfl, ca, hca, hS⟩
  replace hS := hS.pick [1, 0] (by decide) [_, _] rfl
  rw [List.nil_append, Int.toNat_natCast] at hca
  go_upto_if 37 with (fail)
  go_cut [] (fun wc => ∃ cb b1, Hid (b1 ++ bitsOf v.toNat A = bitsOf v.toNat N ∧ b1.length ≤ 64) ∧ WrC (w1.heap.size + 1) b1 cb ∧ St w.heap.size w wc [cb, ca])
  case first =>
    by_cases h64 : A < 64
    · have g5 : decide ((A : Int) < 64) = true := by simp; omega
      have hx : (0 : Int) ≤ v / 2 ^ A := Int.ediv_nonneg hv0 (by have : (0 : Int) < 2 ^ A := Int.pow_pos (by omega); omega)
      have hx2 : v / 2 ^ A ≤ 18446744073709551615 := by have := Int.ediv_le_self (2 ^ A) hv0; omega
      go_wp2_with fail
      refine (put_any _ _ _ _ hS hcb hx hx2 (by omega) (by omega) (by simp)).mono ?_
      rintro e w3 ⟨rfl, cb, hcb, hS⟩
      have E : Hid (([] ++ bitsOf (v / 2 ^ A).toNat ((N : Int) - A).toNat) ++ bitsOf v.toNat A = bitsOf v.toNat N ∧ ([] ++ bitsOf (v / 2 ^ A).toNat ((N : Int) - A).toNat).length ≤ 64) := by
        have e1 : ((N : Int) - A).toNat = N - A := by omega
        have e2 : (v / 2 ^ A).toNat = v.toNat / 2 ^ A := by
          obtain ⟨V, rfl⟩ := Int.eq_ofNat_of_zero_le hv0
          have : ((V : Int) / 2 ^ A) = ((V / 2 ^ A : Nat) : Int) := by simp
          rw [this, Int.toNat_natCast, Int.toNat_natCast]
        rw [e1, e2, List.nil_append]
        refine ⟨(bitsOf_split v.toNat N A hA).symm, ?_⟩
        rw [bitsOf_length]; omega
      go_wp2_with fail
      go_meet
      case rel => exact ⟨_, _, E, hcb, hS⟩
    · have g5 : decide ((A : Int) < 64) = false := by simp; omega
      have e : A = N := by omega
      go_wp2_with fail
      go_meet
      case rel => exact ⟨_, _, ⟨by rw [e, List.nil_append], by simp⟩, hcb, hS⟩
  case rest =>
    clear hS hcb
    obtain ⟨cb, b1, E, hcb, hS⟩ := hcut
    go_wp2_with fail
    refine (put_any _ _ v A hS hcb hv0 hv1 (by omega) (by omega) (by have := E.out.2; omega)).mono ?_
    rintro e w4 ⟨rfl, cb, hcb, hS⟩
    rw [Int.toNat_natCast, E.out.1] at hcb
    replace hS := hS.pick [1, 0] (by decide) [_, _] rfl
    clear E
    have hbl : (bitsOf v.toNat N).length = N := bitsOf_length _ _
    have hlenA : (bitsOf v.toNat N).length ≤ 64 := by omega
    have Hbl := Lib.hid hbl
    clear hbl
    go_wp2_with fail
    have hSa := hS.drew
    have hSb := hSa.pick [1, 0] (by decide) [_, _] rfl
    go_region_with (first
      | (go_at_call 25; with_reducible refine (wlen_n w1.heap.size _ N Hbl.out hSa hca).mono ?_; rintro e w' ⟨rfl, rfl⟩)
      | (go_at_call 25; with_reducible refine (wlen_n (w1.heap.size + 1) _ N Hbl.out hSb hcb).mono ?_; rintro e w' ⟨rfl, rfl⟩)
      | (go_at_call 24; with_reducible refine (wbytes_any w1.heap.size _ hSa hca (by omega)).mono ?_; rintro e w5 ⟨v5, c5, cs5, rfl, hr5, hs5, hl5, hp5⟩; have hSb5 := hSb.mono hs5.below; have HP5 := Lib.hid (And.intro hl5 hp5); clear hl5 hp5; have hcv5 := conv_str (hr5.rd hs5 0 rfl))
      | (go_at_call 24; with_reducible refine (wbytes_any (w1.heap.size + 1) _ hSb5 hcb (by omega)).mono ?_; rintro e w6 ⟨v6, c6, cs6, rfl, hr6, hs6, hl6, hp6⟩; (obtain rfl : cs6 = cs5 := packed_unique hp6 HP5.out.2 (hl6.trans HP5.out.1.symm)); clear hl6 hp6; have hbel := (hSb5.mono hs6.below).below; have hcv6 := conv_str (hr6.rd hs6 0 rfl); have hcv56 := conv_str ((hr5.rd hs5 0 rfl).keep hs6.below)))
    all_goals go_wp2
    all_goals go_ret
    all_goals exact ⟨rfl, hbel⟩
end Go.Proofs.Ytfnmbfhlfblkhaa
