/-
  foliolaw5.begun returns true.
-/
import Derived.Test.YtfnmbfhlfblkhaaZerosRun
import Derived.Test.YtfnmbfhlfblkhaaZerosDec
import Derived.Test.YtfnmbfhlfblkhaaInts
import Derived.Test.YtfnmbfhlfblkhaaBytesStr
set_option linter.unusedVariables false
set_option linter.unusedSimpArgs false
namespace Go.Proofs.Ytfnmbfhlfblkhaa
open Go.RowKit
set_option maxRecDepth 100000
theorem rd_four (w : World) (a b c d : Value) (T : TypeId) : Rd (w.alloc (.cells #[a, b, c, d] T)) 1 (.slice (some ⟨w.heap.size, 0, none⟩) 4 4) 4 [a, b, c, d] := by
  refine ⟨_, 4, rfl, by simp [maxLen], by simp, by simp, fun ad e j u hu => ?_⟩
  simp only [Option.some.injEq] at e
  subst e
  rw [add_lit0]
  match j, hu with
  | 0, hu => simp at hu; subst hu; simp
  | 1, hu => simp at hu; subst hu; simp
  | 2, hu => simp at hu; subst hu; simp
  | 3, hu => simp at hu; subst hu; simp
  | j + 4, hu => simp at hu
theorem runL_three : runL 3 = [0, 0] := by
  rw [runL_pos (by omega), runL_pos (by omega)]
  simp [runL_zero]
theorem enc_begun : enc [0, 0, 0, 7] 0 = [0, 0, 8, 257] := by simp [enc, runL_three, runL_zero]
set_option maxHeartbeats 2000000 in
theorem begun5 (w : World) : Calls Try.prog 15 #[] w fun e w' => e = .returned (.bool true) ∧ Below w.heap.size w w' := by
  have hS := (St.init w).alloc' (Obj.cells #[.int .u8 0, .int .u8 0, .int .u8 0, .int .u8 7] 5)
  have hrd := rd_four w (.int .u8 0) (.int .u8 0) (.int .u8 0) (.int .u8 7) 5
  go_enter Try.func15, Try.ntmps15
  go_wp2_with fail
  refine (encode_any _ [0, 0, 0, 7] _ hrd (by simp)).mono ?_
  rintro e w1 ⟨v1, c1, rfl, hr1, hs1⟩
  rw [enc_begun] at hr1
  replace hS := hS.join hs1
  clear hs1 hrd
  go_wp2_with fail
  refine (decode_any _ [0, 0, 8, 257] 10 _ (hr1.rd hS 0 rfl) (by simp) (by omega)).mono ?_
  rintro e w2 ⟨v2, rfl, c2, hr2, hs2⟩
  rw [show dec (10 : Int).toNat [0, 0, 8, 257] [] 1 = ([0, 0, 0, 7], 0) from by decide] at hr2 ⊢
  replace hS := hS.join hs2
  clear hs2
  go_wp2_with fail
  refine (decode_any _ [0, 0, 8, 257] 3 _ (hr1.rd hS 1 rfl) (by simp) (by omega)).mono ?_
  rintro e w3 ⟨v3, rfl, c3, hr3, hs3⟩
  rw [show dec (3 : Int).toNat [0, 0, 8, 257] [] 1 = ([], 2) from by decide] at hr3 ⊢
  replace hS := (hS.mono hs3.below).alloc' (Obj.cells #[.int .i64 0] 3)
  have hone := Rd.one w3 (.int .i64 0) 3
  clear hs3
  go_wp2_with fail
  refine (decode_any _ [0] 10 _ hone (by simp) (by omega)).mono ?_
  rintro e w4 ⟨v4, rfl, c4, hr4, hs4⟩
  rw [show dec (10 : Int).toNat [0] [] 1 = ([], 6) from by decide] at hr4 ⊢
  replace hS := (hS.mono hs4.below).alloc' (Obj.cells #[.int .i64 0, .int .i64 0, .int .i64 8, .int .i64 257] 3)
  have hfour := rd_four w4 (.int .i64 0) (.int .i64 0) (.int .i64 8) (.int .i64 257) 3
  clear hs4
  have k2 := fun {w'} (hS : St w.heap.size w w' [c2, c1]) => conv_str (hr2.rd hS 0 rfl)
  go_wp2_with fail
  refine (ints_any _ _ [0, 0, 8, 257] [0, 0, 8, 257] _ (hr1.rd hS 1 rfl) hfour).mono ?_
  rintro e w5 ⟨rfl, hd⟩
  replace hS := hS.Drew hd
  have kk := conv_str (hr2.rd hS 0 rfl)
  clear k2
  go_wp2_with fail
  go_ret
  exact ⟨rfl, hS.below⟩
end Go.Proofs.Ytfnmbfhlfblkhaa
