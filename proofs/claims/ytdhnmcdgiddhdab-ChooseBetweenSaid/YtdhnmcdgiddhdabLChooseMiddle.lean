/-
  The walk of ChooseMiddle.
-/
import Derived.Test.YtdhnmcdgiddhdabBegun27
import Derived.Test.YtdhnmcdgiddhdabCut27
import Derived.Test.YtdhnmcdgiddhdabRefMid
set_option linter.unusedVariables false
set_option linter.unusedSimpArgs false
namespace Go.Proofs.Ytdhnmcdgiddhdab
open Go.RowKit Go.ChangeShapes Go.WideShapes
set_option maxRecDepth 100000
def sbO : Option Nat → Int
  | none => 9221120237041090561
  | some r => sbP r
theorem sb_is {o : Option Nat} {x : Nat} (h : IsF o x) : sbP x = sbO o := by
  cases o with
  | none => unfold sbP; rw [h.2]; rfl
  | some r => obtain ⟨_, rfl⟩ := h; rfl
set_option maxHeartbeats 4000000 in
theorem ChooseMiddle_walk (w : World) (v : Value) (n : Nat) (zs : List Int) (rd : Rd w 1 v n (zs.map (Value.int .u64))) (wf : ∀ z ∈ zs, (Lit.int .u64 z).wf = true) (sz : n * 8 ≤ 140737488351232) :
    Calls Try.prog 6 #[v] w fun e w' => e = .returned (.bool true) ∧ Below w.heap.size w w' := by
  obtain ⟨xs, rfl, hxs⟩ := words_of zs wf
  have hlen := rd.len
  simp only [List.length_map, Nat.mul_one] at hlen
  subst hlen
  have H0 : Hid (Rd w 1 v xs.length (xs.map fun (x : Nat) => Value.int .u64 (x : Int))) := Lib.hid (by have h := rd; rw [List.map_map] at h; exact h)
  obtain ⟨ao, cap, rfl⟩ := rd.shape
  clear rd wf sz
  go_enter Try.func6, Try.ntmps6
  go_wp2_with fail
  refine (begun27 w).mono ?_
  rintro e w1 ⟨rfl, hb⟩
  have hS1 := (St.init w).mono hb
  clear hb
  go_wp2_with fail
  refine (floats27_any _ xs w1 (H0.out.st hS1)).mono ?_
  rintro e w2 ⟨v2, c2, rfl, hr2, hS2⟩
  have hmem : ∀ x ∈ xs.take 40, x < 18446744073709551616 := fun x hx => hxs x (List.mem_of_mem_take hx)
  have hl40 : (xs.take 40).length ≤ 40 := by simp; omega
  generalize xs.take 40 = l at *
  obtain ⟨ao2, cap2, rfl⟩ := hr2.shape
  have HS2 := Lib.hid (And.intro (hS1.join hS2) hr2)
  have HM := Lib.hid hmem
  clear hS1 hS2 hr2 hmem hxs
  go_wp2_with fail
  refine (median_any _ l w2 (HS2.out.2.rd HS2.out.1 0 rfl) HM.out (by omega)).mono ?_
  rintro e w3 ⟨x3, rfl, hx3, hb⟩
  have HS3 := Lib.hid (HS2.out.1.mono hb)
  have HX3 := Lib.hid (sb_is hx3)
  clear hx3 hb
  go_wp2_with fail
  refine (sbits_sb x3 w3).mono ?_
  rintro e w4 ⟨rfl, rfl⟩
  rw [HX3.out]
  go_wp2_with fail
  refine (refmedian_any _ l w3 (HS2.out.2.rd HS3.out 0 rfl) HM.out (by omega)).mono ?_
  rintro e w4 ⟨x4, rfl, hx4, hb⟩
  have HS4 := Lib.hid (HS3.out.mono hb)
  have HX4 := Lib.hid (sb_is hx4)
  clear hx4 hb
  go_wp2_with fail
  refine (floatbits_sb x4 w4).mono ?_
  rintro e w5 ⟨rfl, rfl⟩
  rw [HX4.out]
  generalize sbO (medV (medS l)) = b1
  go_wp2_with fail
  refine (mean_any _ l w4 (HS2.out.2.rd HS4.out 0 rfl) HM.out (by omega)).mono ?_
  rintro e w5 ⟨x5, rfl, hx5, hb⟩
  have HS5 := Lib.hid (HS4.out.mono hb)
  have HX5 := Lib.hid (sb_is hx5)
  clear hx5 hb
  go_wp2_with fail
  refine (sbits_sb x5 w5).mono ?_
  rintro e w6 ⟨rfl, rfl⟩
  rw [HX5.out]
  go_wp2_with fail
  refine (refmean_any _ l w5 (HS2.out.2.rd HS5.out 0 rfl) HM.out (by omega)).mono ?_
  rintro e w6 ⟨x6, rfl, hx6, hb⟩
  have HS6 := Lib.hid (HS5.out.mono hb).below
  have HX6 := Lib.hid (sb_is hx6)
  clear hx6 hb
  go_wp2_with fail
  refine (floatbits_sb x6 w6).mono ?_
  rintro e w7 ⟨rfl, rfl⟩
  rw [HX6.out]
  generalize sbO (meanV l) = b2
  go_wp2_with fail
  go_ret
  exact ⟨by simp, HS6.out⟩
end Go.Proofs.Ytdhnmcdgiddhdab
