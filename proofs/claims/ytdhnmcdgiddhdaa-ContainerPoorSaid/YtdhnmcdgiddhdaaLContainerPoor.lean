/-
  The walk of ContainerPoor.
-/
import Derived.Test.YtdhnmcdgiddhdaaCtByte
set_option linter.unusedVariables false
set_option linter.unusedSimpArgs false
namespace Go.Proofs.Ytdhnmcdgiddhdaa
open Go.RowKit
set_option maxRecDepth 100000
set_option maxHeartbeats 2000000 in
theorem ContainerPoor_walk (w : World) (s : Int) (ws : (Lit.int .u32 s).wf = true) (n : Int) (wf : (Lit.int .i64 n).wf = true) :
    Calls Try.prog 10 #[.int .u32 s, .int .i64 n] w fun e w' => e = .returned (.bool true) ∧ Below w.heap.size w w' := by
  obtain ⟨i0, i0a, i0b, i0c, i0d⟩ := info_parts infoU8
  by_cases q1 : n < 0
  · go_enter Try.func10, Try.ntmps10
    go_wp2_with fail
    refine (begun11 _).mono ?_
    rintro e w1 ⟨rfl, hb⟩
    go_wp2_with fail
    go_ret
    exact ⟨rfl, hb⟩
  by_cases q2 : 2500 < n
  · go_enter Try.func10, Try.ntmps10
    go_wp2_with fail
    refine (begun11 _).mono ?_
    rintro e w1 ⟨rfl, hb⟩
    go_wp2_with fail
    go_ret
    exact ⟨rfl, hb⟩
  obtain ⟨N, rfl⟩ := Int.eq_ofNat_of_zero_le (show 0 ≤ n by omega)
  have hN : N ≤ 2500 := by omega
  have hNi : (N : Int) ≤ 2500 := by omega
  have hbs := bounds_u32 ws
  clear q1 wf ws
  go_enter Try.func10, Try.ntmps10
  go_wp2_with fail
  refine (begun11 _).mono ?_
  rintro e w1 ⟨rfl, hb⟩
  have hS := (St.init w).mono hb
  clear hb
  go_wp2_with (at_make; (refine wpList_mk (n := N) 22 i0 (.int .u8 0) _ _ rfl rfl _ _ _ _ rfl rfl Try.underlying22 i0a i0b i0c i0d rfl ?_ ?_ ?_ ?_ hS ?_); omega; omega; omega; (unfold maxLen; omega); intro g c1 w2 hr hS1)
  rw [← bv_zeros] at hr
  have HQ := Lib.hid (And.intro hr hS1)
  clear hr hS1 hS
  go_wp2_with fail
  go_loopg [7, 8] N (fun m s7 s8 wr => ∃ (i : Nat) (t : Int), i + m = N ∧ s8 = .int .i64 (i : Int) ∧ s7 = .int .u32 t ∧ 0 ≤ t ∧ t ≤ 4294967295 ∧ ∃ (x : List UInt8) (c1 : List (Nat × Obj)), x.length = N ∧ Hid (RowC 5 1 (.slice (some ⟨g, 0, none⟩) N N) N (bv x) c1 ∧ St w.heap.size w wr [c1]))
  case atStart => exact ⟨0, s, by omega, rfl, rfl, by omega, by omega, List.replicate N 0, c1, List.length_replicate, HQ⟩
  case round =>
    clear HQ
    obtain ⟨i, t, hi, rfl, rfl, ht1, ht2, x, c1, hxl, HQ⟩ := hrel
    have hr := HQ.out.1
    have hS := HQ.out.2
    cases gk with
    | succ m =>
      have hlt : i < x.length := by omega
      have hil : (i : Int) < (N : Int) := by omega
      have hl := hr.cellAt hS 0 rfl (bv_get x i _ (List.getElem?_eq_getElem hlt))
      generalize x[i] = z at hl
      have hf := hr.freeAt hS 0 rfl i
      have HXL := Lib.hid hxl
      clear hxl hlt hr hS
      go_wp2_with fail
      go_roundg m
      case measure => omega
      case rel =>
        obtain ⟨z', hz'⟩ := byteOf ((t * 1664525 + 1013904223) % 4294967296 / 16777216) (by omega) (by omega)
        obtain ⟨c', hr', hS'⟩ := HQ.out.1.store HQ.out.2 0 rfl rfl i (.int .u8 (z'.toNat : Int))
        rw [← bv_set] at hr'
        rw [hz']
        exact ⟨i + 1, _, by omega, by go_num, rfl, by omega, by omega, x.set i z', c', by rw [List.length_set]; exact HXL.out, Lib.hid ⟨hr', hS'⟩⟩
    | zero =>
      obtain rfl : i = N := by omega
      have HX := Lib.hid (And.intro hxl HQ.out)
      have hrx : Rd wr 1 (.slice (some ⟨g, 0, none⟩) i i) x.length (bv x) := by rw [hxl]; exact hr.rd hS 0 rfl
      have HRX := Lib.hid hrx
      have hxb : x.length ≤ 100000 := by omega
      have HXB := Lib.hid hxb
      clear hr hS HQ hi hxl hrx hxb
      go_wp2_with fail
      refine (pack_any _ x wr HRX.out HXB.out).mono ?_
      rintro e w3 ⟨c, v3, c3, rfl, hr3, hp, hS3⟩
      have hcs := hp.size
      have hcl : c.length ≤ 10000 := by have := HX.out.1; omega
      obtain ⟨ao3, cap3, rfl⟩ := hr3.shape
      have hcl2 : (c.length : Int) ≤ (i : Int) + 16 * (((i : Int) + 999) / 1000) + 32 := by have := HX.out.1; omega
      have H3 := Lib.hid (And.intro hr3 (And.intro hp (HX.out.2.2.join hS3)))
      clear hr3 hp hS3 hcs
      go_wp2_with fail
      refine (ctunpack_any _ c (i : Int) w3 (H3.out.1.rd H3.out.2.2 0 rfl) (by omega)).mono ?_
      intro e w4 hd
      obtain ⟨v4, rfl, hr4, hS4⟩ := hd.coded H3.out.2.1 HXB.out (by have := HX.out.1; omega)
      rw [HX.out.1] at hr4
      obtain ⟨ao4, cap4, rfl⟩ := hr4.shape
      have hS5 := H3.out.2.2.join hS4
      have hc1 := conv_str hr4
      have hc2 := conv_str (HX.out.2.1.rd hS5 1 rfl)
      have HB := Lib.hid hS5.below
      have qd : (((i : Int) + 999).tdiv 1000) = ((i : Int) + 999) / 1000 := Int.tdiv_eq_ediv_of_nonneg (by omega)
      have qw1 : IntKind.i64.wrap (((i : Int) + 999) / 1000) = ((i : Int) + 999) / 1000 := IntWalk.i64_in _ (by omega)
      have qw2 : IntKind.i64.wrap (16 * (((i : Int) + 999) / 1000)) = 16 * (((i : Int) + 999) / 1000) := IntWalk.i64_in _ (by omega)
      have qw3 : IntKind.i64.wrap ((i : Int) + 16 * (((i : Int) + 999) / 1000)) = (i : Int) + 16 * (((i : Int) + 999) / 1000) := IntWalk.i64_in _ (by omega)
      have qw4 : IntKind.i64.wrap ((i : Int) + 16 * (((i : Int) + 999) / 1000) + 32) = (i : Int) + 16 * (((i : Int) + 999) / 1000) + 32 := IntWalk.i64_in _ (by omega)
      clear hd hr4 hS4 hS5
      go_wp2_with fail
      go_ret
      exact ⟨by simp, HB.out⟩
end Go.Proofs.Ytdhnmcdgiddhdaa
