/-
  The walk of EntropyEqual.
-/
import Derived.Test.YtdhnmcdgiddhdaaEg11
set_option linter.unusedVariables false
set_option linter.unusedSimpArgs false
namespace Go.Proofs.Ytdhnmcdgiddhdaa
open Go.RowKit
set_option maxRecDepth 100000
set_option maxHeartbeats 1000000 in
theorem EntropyEqual_walk (w : World) (n : Int) (wf : (Lit.int .i64 n).wf = true) (x : Int) (wx : (Lit.int .u8 x).wf = true) :
    Calls Try.prog 4 #[.int .i64 n, .int .u8 x] w fun e w' => e = .returned (.bool true) ∧ Below w.heap.size w w' := by
  obtain ⟨i0, i0a, i0b, i0c, i0d⟩ := info_parts infoU8
  by_cases q1 : n < 0
  · go_enter Try.func4, Try.ntmps4
    go_wp2_with fail
    refine (begun10 _).mono ?_
    rintro e w1 ⟨rfl, hb⟩
    go_wp2_with fail
    go_ret
    exact ⟨rfl, hb⟩
  by_cases q2 : 3000 < n
  · go_enter Try.func4, Try.ntmps4
    go_wp2_with fail
    refine (begun10 _).mono ?_
    rintro e w1 ⟨rfl, hb⟩
    go_wp2_with fail
    go_ret
    exact ⟨rfl, hb⟩
  obtain ⟨N, rfl⟩ := Int.eq_ofNat_of_zero_le (show 0 ≤ n by omega)
  have hN : N ≤ 3000 := by omega
  have hNi : (N : Int) ≤ 3000 := by omega
  have hx : 0 ≤ x ∧ x < 256 := by
    have h := wx
    have h1 : IntKind.u8.min = 0 := rfl
    have h2 : IntKind.u8.max = 255 := rfl
    simp [Lit.wf] at h
    omega
  obtain ⟨y, rfl⟩ : ∃ y : UInt8, x = (y.toNat : Int) := ⟨UInt8.ofNat x.toNat, by
    rw [UInt8.toNat_ofNat']
    omega⟩
  clear q1 wf wx hx
  go_enter Try.func4, Try.ntmps4
  go_wp2_with fail
  refine (begun10 _).mono ?_
  rintro e w1 ⟨rfl, hb⟩
  have hS := (St.init w).mono hb
  clear hb
  go_wp2_with (at_make; (refine wpList_mk (n := N) 22 i0 (.int .u8 0) _ _ rfl rfl _ _ _ _ rfl rfl Try.underlying22 i0a i0b i0c i0d rfl ?_ ?_ ?_ ?_ hS ?_); omega; omega; omega; (unfold maxLen; omega); intro g c1 w2 hr hS1)
  rw [← bv_zeros, ← fillB_zero y] at hr
  have HQ := Lib.hid (And.intro hr hS1)
  clear hr hS1 hS
  go_wp2_with fail
  go_loopg [7] N (fun m s7 wr => ∃ i : Nat, i + m = N ∧ s7 = .int .i64 (i : Int) ∧ ∃ c1, Hid (RowC 5 1 (.slice (some ⟨g, 0, none⟩) N N) N (bv (fillB y N i)) c1 ∧ St w.heap.size w wr [c1]))
  case atStart => exact ⟨0, by omega, rfl, c1, HQ⟩
  case round =>
    clear HQ
    obtain ⟨i, hi, rfl, c1, HQ⟩ := hrel
    have hr := HQ.out.1
    have hS := HQ.out.2
    cases gk with
    | succ m =>
      have hlt : i < N := by omega
      have hil : (i : Int) < (N : Int) := by omega
      have hl := hr.cellAt hS 0 rfl (bv_get _ i _ (List.getElem?_eq_getElem (by rw [fillB_length]; exact hlt)))
      generalize ((fillB y N i)[i]'(by rw [fillB_length]; exact hlt)) = z at hl
      have hf := hr.freeAt hS 0 rfl i
      go_wp2_with fail
      go_roundg m
      case measure => omega
      case rel =>
        obtain ⟨c', hr', hS'⟩ := hr.store hS 0 rfl rfl i (.int .u8 (y.toNat : Int))
        rw [← bv_set, fillB_set y N i hlt] at hr'
        exact ⟨i + 1, by omega, by go_num, c', Lib.hid ⟨hr', hS'⟩⟩
    | zero =>
      obtain rfl : i = N := by omega
      rw [fillB_all] at hr
      have hll : (List.replicate i y).length = i := List.length_replicate
      have HR := Lib.hid (And.intro hr hS)
      have HLL := Lib.hid hll
      clear hr hS HQ hi hll
      go_wp2_with fail
      refine (entenc_any _ (List.replicate i y) wr (by rw [HLL.out]; exact HR.out.1.rd HR.out.2 0 rfl) (by rw [HLL.out]; omega)).mono ?_
      rintro e w3 ⟨out, v3, c3, rfl, hr3, he, hS3⟩
      obtain ⟨ao3, cap3, rfl⟩ := hr3.shape
      have hol := he.equal hN
      have holi : (out.length : Int) ≤ 300 := by omega
      have H3 := Lib.hid (And.intro hr3 (And.intro he (HR.out.2.join hS3)))
      clear hr3 he hS3
      go_wp2_with fail
      refine (entdec_any _ out (i : Int) w3 (H3.out.1.rd H3.out.2.2 0 rfl) (by omega) (by omega)).mono ?_
      intro e w4 hd
      obtain ⟨v4, c4, rfl, hr4, hS4⟩ := hd.coded (by rw [Int.toNat_natCast]; omega) (by rw [Int.toNat_natCast, HLL.out]; exact Nat.le_refl _) H3.out.2.1
      clear hd
      rw [HLL.out] at hr4
      obtain ⟨ao4, cap4, rfl⟩ := hr4.shape
      have hS5 := H3.out.2.2.join hS4
      have hc1 := conv_str (hr4.rd hS5 0 rfl)
      have hc2 := conv_str (HR.out.1.rd hS5 2 rfl)
      have HB := Lib.hid hS5.below
      clear hr4 hS4 hS5
      go_wp2_with fail
      go_ret
      exact ⟨by simp, HB.out⟩
end Go.Proofs.Ytdhnmcdgiddhdaa
