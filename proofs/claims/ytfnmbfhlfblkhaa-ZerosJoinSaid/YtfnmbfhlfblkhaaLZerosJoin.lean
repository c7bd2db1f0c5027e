/-
  The walk of ZerosJoin.
-/
import Derived.Test.YtfnmbfhlfblkhaaZerosBegun
import Derived.Test.YtfnmbfhlfblkhaaShort
import Derived.OpenShut
set_option linter.unusedVariables false
set_option linter.unusedSimpArgs false
namespace Go.Proofs.Ytfnmbfhlfblkhaa
open Go.RowKit Go.ChangeShapes Go.WideShapes
set_option maxRecDepth 100000
set_option maxHeartbeats 2000000 in
theorem ZerosJoin_walk (w : World) (va : Value) (as0 : List UInt8) (ha : Rd w 1 va as0.length (bv as0)) (sa : as0.length ≤ 140737488351232) (vb : Value) (bs : List UInt8) (hb : Rd w 1 vb bs.length (bv bs)) (sb : bs.length ≤ 140737488351232)
    (x : Int) (wf : (Lit.int .u8 x).wf = true) :
    Calls Try.prog 5 #[va, vb, .int .u8 x] w fun e w' => e = .returned (.bool true) ∧ Below w.heap.size w w' := by
  obtain ⟨i0, i0a, i0b, i0c, i0d⟩ := info_parts infoU8
  obtain ⟨i1, i1a, i1b, i1c, i1d⟩ := info_parts infoInt
  have hx := bounds_u8 wf
  obtain ⟨b, rfl⟩ : ∃ b : UInt8, x = (b.toNat : Int) := ⟨UInt8.ofNat x.toNat, by simp only [UInt8.toNat_ofNat']; omega⟩
  clear wf
  go_enter Try.func5, Try.ntmps5
  go_wp2_with fail
  refine (begun5 _).mono ?_
  rintro e w1 ⟨rfl, hbel⟩
  have hS := (St.init w).mono hbel
  have hra := ha.keep hbel
  have hrb := hb.keep hbel
  clear hbel ha hb
  go_wp2_with fail
  refine (short_any va as0 100 w1 hra (by omega)).mono ?_
  rintro e w2 ⟨va', rfl, hra', rfl⟩
  go_wp2_with fail
  refine (short_any vb bs 100 w1 hrb (by omega)).mono ?_
  rintro e w2 ⟨vb', rfl, hrb', rfl⟩
  clear hra hrb
  have hna : (as0.take 100).length ≤ 100 := by simp; omega
  have hnb : (bs.take 100).length ≤ 100 := by simp; omega
  generalize as0.take 100 = a at *
  generalize bs.take 100 = c at *
  clear sa sb
  by_cases q0 : b = 0
  · subst q0
    go_wp2_with fail
    go_ret
    exact ⟨rfl, hS.below⟩
  have q0' : ¬ (b.toNat : Int) = 0 := by
    intro e
    exact q0 (UInt8.toNat_inj.1 (by simpa using (show b.toNat = 0 by omega)))
  have hS0 := (St.init w1).one_nil
  obtain ⟨aoa, capa, rfl⟩ := hra'.shape
  obtain ⟨aob, capb, rfl⟩ := hrb'.shape
  go_wp2_with (first | (at_builtin; (refine wpList_app 0 24 i0 (.int .u8 0) _ _ rfl rfl rfl rfl Try.underlying24 i0a i0b i0c i0d rfl (by decide) hS0 rfl (RowC.nil 5 1) hra' (bv_one a) ?_ ?_ ?_); (unfold maxLen; omega); omega; intro v1 c1 w2 hr1 hS1) | (at_builtin; (refine wpList_app1 0 24 i0 (.int .u8 0) _ _ _ rfl rfl rfl rfl Try.underlying24 i0a i0b i0c i0d rfl hS1 rfl hr1 rfl ?_ ?_ ?_); (unfold maxLen; omega); omega; intro v2 c2 w3 hr2 hS2) | (at_builtin; (refine wpList_app 0 24 i0 (.int .u8 0) _ _ rfl rfl rfl rfl Try.underlying24 i0a i0b i0c i0d rfl (by decide) hS2 rfl hr2 (hrb'.keep hS2.below) (bv_one c) ?_ ?_ ?_); (unfold maxLen; omega); omega; intro v3 c3 w4 hr3 hS3))
  replace hS3 : St w1.heap.size w1 w4 [c3] := hS3
  have e3 : [] ++ bv a ++ [Value.int .u8 (b.toNat : Int)] ++ bv c = bv (a ++ b :: c) := by simp [bv]
  have e4 : 0 + a.length + 1 + c.length = (a ++ b :: c).length := by simp; omega
  rw [e3, e4] at hr3
  clear e3 e4 hS2 hr2 hS1 hr1 hS0
  have hnc : (a ++ b :: c).length ≤ 201 := by simp; omega
  have hra2 := hra'.keep hS3.below
  have hrb2 := hrb'.keep hS3.below
  clear hra' hrb'
  refine (encode_any _ a _ hra2 (by omega)).mono ?_
  rintro e w5 ⟨v5, c5, rfl, hr5, hs5⟩
  have hS5 := hS3.join hs5
  have hrb3 := hrb2.keep hs5.below
  clear hs5 hS3 hra2 hrb2
  go_wp2_with fail
  refine (encode_any _ c _ hrb3 (by omega)).mono ?_
  rintro e w6 ⟨v6, c6, rfl, hr6, hs6⟩
  have hS6 := hS5.join hs6
  clear hs6 hS5 hrb3
  go_wp2_with fail
  refine (encode_any _ (a ++ b :: c) _ (hr3.rd hS6 2 rfl) (by omega)).mono ?_
  rintro e w7 ⟨v7, c7, rfl, hr7, hs7⟩
  have hS7 := (hS6.join hs7).one_nil
  clear hs7 hS6
  have hjoin := enc_join a c b q0 0
  have hne := List.length_pos_iff.2 (enc_ne a 0)
  have hle5 := enc_le a 0
  have hle6 := enc_le c 0
  rw [hjoin] at hr7
  have hl7 : (List.dropLast (enc a 0)).length = (enc a 0).length - 1 := by simp
  obtain ⟨ao5, cap5, rfl⟩ := hr5.shape
  have hrd5 := hr5.rd hS7 3 rfl
  have hcp := hrd5.cap
  have hrd6 := hr6.rd hS7 2 rfl
  obtain ⟨ao6, cap6, rfl⟩ := hr6.shape
  have hcut := hrd5.take ((enc a 0).length - 1) (by omega)
  rw [Nat.mul_one] at hcut
  have hcut2 : Rd w7 1 (.slice ao5 ((enc a 0).length - 1) cap5) ((enc a 0).length - 1) (iv (enc a 0).dropLast) := by
    rw [List.dropLast_eq_take]
    simpa [iv] using hcut
  generalize hea : enc a 0 = A at *
  generalize hec : enc c 0 = C at *
  clear hea hec hcut hjoin
  obtain ⟨n, hn⟩ : ∃ n, A.length = n + 1 := ⟨A.length - 1, by omega⟩
  rw [hn, Nat.add_sub_cancel] at hcut2 hl7
  rw [hn] at hcp hle5 ⊢
  have hlA := Lib.hid hn
  clear hn
  have hnn : (n : Int) ≤ 1000 := by omega
  have hb255 : (b.toNat : Int) ≤ 255 := by have := b.toNat_lt; omega
  go_wp2_with (first | (at_builtin; (refine wpList_app 0 22 i1 (.int .i64 0) _ _ rfl rfl rfl rfl Try.underlying22 i1a i1b i1c i1d rfl (by decide) hS7 rfl (RowC.nil 3 1) hcut2 (iv_one A.dropLast) ?_ ?_ ?_); (unfold maxLen; omega); omega; intro v8 c8 w8 hr8 hS8) | (at_builtin; (refine wpList_app1 0 22 i1 (.int .i64 0) _ _ _ rfl rfl rfl rfl Try.underlying22 i1a i1b i1c i1d rfl hS8 rfl hr8 rfl ?_ ?_ ?_); (unfold maxLen; omega); omega; intro v9 c9 w9 hr9 hS9) | (at_builtin; (refine wpList_app 0 22 i1 (.int .i64 0) _ _ rfl rfl rfl rfl Try.underlying22 i1a i1b i1c i1d rfl (by decide) hS9 rfl hr9 (hr6.rd hS9 2 rfl) (iv_one C) ?_ ?_ ?_); (unfold maxLen; omega); omega; intro v10 c10 w10 hr10 hS10))
  have e8 : [] ++ iv A.dropLast ++ [Value.int .i64 ((b.toNat : Int) + 1)] ++ iv C = iv (A.dropLast ++ ((b.toNat : Int) + 1) :: C) := by simp [iv]
  have e9 : 0 + n + 1 + C.length = (A.dropLast ++ ((b.toNat : Int) + 1) :: C).length := by simp [hl7]; omega
  rw [e8, e9] at hr10
  have hS11 : St w1.heap.size w1 w10 [c10, c7, c6, c5, c3] := hS10
  refine (ints_any _ _ (A.dropLast ++ ((b.toNat : Int) + 1) :: C) (A.dropLast ++ ((b.toNat : Int) + 1) :: C) _ (hr7.rd hS11 1 rfl) (hr10.rd hS11 0 rfl)).mono ?_
  rintro e w11 ⟨rfl, hd⟩
  have hS12 := (hS.join hS11).Drew hd
  go_wp2_with fail
  go_ret
  exact ⟨by simp, hS12.below⟩
end Go.Proofs.Ytfnmbfhlfblkhaa
