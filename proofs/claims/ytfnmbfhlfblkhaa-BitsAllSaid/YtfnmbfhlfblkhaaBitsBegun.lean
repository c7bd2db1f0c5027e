/-
  foliolaw1.begun returns true.
-/
import Derived.Test.YtfnmbfhlfblkhaaBitsR
set_option linter.unusedVariables false
set_option linter.unusedSimpArgs false
namespace Go.Proofs.Ytfnmbfhlfblkhaa
open Go.RowKit
set_option maxRecDepth 100000
theorem wr_new (p : Nat) : WrC p [] [(p, Obj.cells #[.slice none 0 0, .int .i64 0] 39 (0, 0))] :=
  ⟨_, [], [], rfl, RowC.nil _ _, rfl, rfl⟩
set_option maxHeartbeats 1000000 in
theorem begun1 (w : World) : Calls Try.prog 21 #[] w fun e w' => e = .returned (.bool true) ∧ Below w.heap.size w w' := by
  have hS := (St.init w).alloc (Obj.cells #[.slice none 0 0, .int .i64 0] 39 (0, 0))
  have hc := wr_new w.heap.size
  go_enter Try.func21, Try.ntmps21
  go_wp2_with fail
  refine (put_any w.heap.size [] 5 3 hS hc (by omega) (by omega) (by omega) (by omega) (by simp)).mono ?_
  rintro e w1 ⟨rfl, c, hc, hS⟩
  have e5 : [] ++ bitsOf (5 : Int).toNat (3 : Int).toNat = [true, false, true] := by decide
  rw [e5] at hc
  clear e5
  go_wp2_with fail
  refine (wbytes_any w.heap.size [true, false, true] hS hc (by simp)).mono ?_
  rintro e w2 ⟨v2, c2, cs, rfl, hr2, hs2, hl2, hp2⟩
  obtain rfl : cs = [160] := packed_unique hp2 (by decide) (by simpa using hl2)
  clear hl2 hp2
  replace hS := hS.mono hs2.below
  go_wp2_with fail
  refine (bread_any v2 [160] (hr2.rd hs2 0 rfl) (by simp)).mono ?_
  rintro e w3 ⟨p, c3, rfl, hrc, hs3⟩
  replace hS := (hS.join hs3)
  go_wp2_with fail
  refine (get_any p [160] 0 3 hS hrc (by simp) (by omega) (by omega) (by simp)).mono ?_
  rintro e w4 ⟨rfl, c4, hrc, hS⟩
  have e6 : (valOf (((bitsB [160]).drop 0).take (3 : Int).toNat) : Int) = 5 := by decide
  rw [e6]
  clear e6
  go_wp2_with fail
  have hS' := hS.pick [1, 0] (by decide) [c, c4] rfl
  refine (wbytes_any w.heap.size [true, false, true] hS' hc (by simp)).mono ?_
  rintro e w5 ⟨v5, c5, cs, rfl, hr5, hs5, hl5, hp5⟩
  obtain rfl : cs = [160] := packed_unique hp5 (by decide) (by simpa using hl5)
  clear hl5 hp5
  replace hS := hS.mono hs5.below
  replace hS' := hS'.mono hs5.below
  obtain ⟨ao, cap, rfl⟩ := hr5.shape
  go_wp2_with fail
  refine (wbytes_any w.heap.size [true, false, true] hS' hc (by simp)).mono ?_
  rintro e w6 ⟨v6, c6, cs, rfl, hr6, hs6, hl6, hp6⟩
  obtain rfl : cs = [160] := packed_unique hp6 (by decide) (by simpa using hl6)
  clear hl6 hp6
  replace hS := hS.mono hs6.below
  replace hS' := hS'.mono hs6.below
  obtain ⟨g, cap6, cur, rfl, _⟩ := hr6.form (by simp)
  have k6 := hr6.cellAt hs6 0 rfl (bv_get [160] 0 160 rfl)
  go_wp2_with fail
  refine (wlen_any w.heap.size [true, false, true] hS' hc).mono ?_
  rintro e w7 ⟨rfl, rfl⟩
  go_wp2_with fail
  refine (left_any p [160] _ hS hrc (by simp)).mono ?_
  rintro e w8 ⟨rfl, n, rfl⟩
  replace hS := hS.drewN n
  go_wp2_with fail
  refine (put_bad 1 65 _ _ (.inr ⟨⟨_, rfl⟩, .inr (by omega)⟩)).mono ?_
  rintro e w9 ⟨rfl, rfl⟩
  go_wp2_with fail
  go_ret
  exact ⟨rfl, hS.below⟩
end Go.Proofs.Ytfnmbfhlfblkhaa
