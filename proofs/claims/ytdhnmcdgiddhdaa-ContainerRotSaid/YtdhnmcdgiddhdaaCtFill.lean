/-
  Contract of foliolaw11.Filled.
-/
import Derived.Test.YtdhnmcdgiddhdaaCtByte
set_option linter.unusedVariables false
set_option linter.unusedSimpArgs false
namespace Go.Proofs.Ytdhnmcdgiddhdaa
open Go.RowKit
set_option maxRecDepth 100000
def FillOut (n : Nat) (w : World) (e : Ending) (w' : World) : Prop := ∃ x v c, x.length = n ∧ e = .returned v ∧ RowC 5 1 v n (bv x) c ∧ St w.heap.size w w' [c]
set_option maxHeartbeats 2000000 in
theorem filled_any (v : Value) (fb : List UInt8) (N : Nat) (w : World) (h : Rd w 1 v fb.length (bv fb)) (hN : N ≤ 5000) (hfb : fb.length ≤ 1000) :
    Calls Try.prog 17 #[v, .int .i64 (N : Int)] w (FillOut N w) := by
  obtain ⟨i0, i0a, i0b, i0c, i0d⟩ := info_parts infoU8
  obtain ⟨ao, cap, rfl⟩ := h.shape
  have H0 := Lib.hid h
  have hS := St.init w
  clear h
  go_enter Try.func17, Try.ntmps17
  go_wp2_with (at_make; (refine wpList_mk (n := N) 22 i0 (.int .u8 0) _ _ rfl rfl _ _ _ _ rfl rfl Try.underlying22 i0a i0b i0c i0d rfl ?_ ?_ ?_ ?_ hS ?_); omega; omega; omega; (unfold maxLen; omega); intro g c1 w2 hr hS1)
  rw [← bv_zeros] at hr
  have HQ := Lib.hid (And.intro hr hS1)
  clear hr hS1 hS
  go_wp2_with fail
  go_loopg [6, 7] N (fun m s6 s7 wr => ∃ (i : Nat) (t : Int), i + m = N ∧ s7 = .int .i64 (i : Int) ∧ s6 = .int .u32 t ∧ 0 ≤ t ∧ t ≤ 4294967295 ∧ ∃ (x : List UInt8) (c1 : List (Nat × Obj)), x.length = N ∧ Hid (RowC 5 1 (.slice (some ⟨g, 0, none⟩) N N) N (bv x) c1 ∧ St w.heap.size w wr [c1]))
  case atStart => exact ⟨0, 7, by omega, rfl, rfl, by omega, by omega, List.replicate N 0, c1, List.length_replicate, HQ⟩
  case round =>
    clear HQ
    obtain ⟨i, t, hi, rfl, rfl, ht1, ht2, x, c1, hxl, HQ⟩ := hrel
    have hr := HQ.out.1
    have hS := HQ.out.2
    cases gk with
    | zero =>
      obtain rfl : i = N := by omega
      have HX := Lib.hid (And.intro hxl HQ.out)
      clear hr hS HQ hi hxl
      go_wp2_with fail
      go_ret
      exact ⟨x, _, c1, HX.out.1, rfl, HX.out.2.1, HX.out.2.2⟩
    | succ m =>
      have hlt : i < x.length := by omega
      have hil : (i : Int) < (N : Int) := by omega
      have hl := hr.cellAt hS 0 rfl (bv_get x i _ (List.getElem?_eq_getElem hlt))
      generalize x[i] = z at hl
      have hf := hr.freeAt hS 0 rfl i
      have HXL := Lib.hid hxl
      by_cases q0 : fb.length = 0
      · have q0i : ¬ (0 : Int) < (fb.length : Int) := by omega
        clear hxl hlt hr hS q0
        go_wp2_with fail
        go_roundg m
        case measure => omega
        case rel =>
          obtain ⟨z', hz'⟩ := byteOf ((t * 1103515245 + 12345) % 4294967296 / 1048576 % 256) (by omega) (by omega)
          rw [hz']
          obtain ⟨c', hr', hS'⟩ := HQ.out.1.store HQ.out.2 0 rfl rfl i (.int .u8 (z'.toNat : Int))
          rw [← bv_set] at hr'
          exact ⟨i + 1, _, by omega, by go_num, rfl, by omega, by omega, x.set i z', c', by rw [List.length_set]; exact HXL.out, Lib.hid ⟨hr', hS'⟩⟩
      · have q0i : (0 : Int) < (fb.length : Int) := by omega
        have hrem := tmodN i fb.length
        have hk := Nat.mod_lt i (show 0 < fb.length by omega)
        generalize i % fb.length = k at *
        have hki : (k : Int) < (fb.length : Int) := by omega
        obtain ⟨y, hy⟩ : ∃ y, fb[k]? = some y := ⟨_, List.getElem?_eq_getElem hk⟩
        obtain ⟨ad, rfl, hky⟩ := (H0.out.st hS).at (bv_get fb k y hy)
        clear hxl hlt hr hS hy q0
        go_wp2_with fail
        all_goals
          go_roundg m
          case measure => omega
          case rel =>
            obtain ⟨z', hz'⟩ := byteOf ((t * 1103515245 + 12345) % 4294967296 / 1048576 % 256) (by omega) (by omega)
            first
            | (rw [hz']
               obtain ⟨c', hr', hS'⟩ := HQ.out.1.store HQ.out.2 0 rfl rfl i (.int .u8 (z'.toNat : Int))
               rw [← bv_set] at hr'
               exact ⟨i + 1, _, by omega, by go_num, rfl, by omega, by omega, x.set i z', c', by rw [List.length_set]; exact HXL.out, Lib.hid ⟨hr', hS'⟩⟩)
            | (obtain ⟨c', hr', hS'⟩ := HQ.out.1.store HQ.out.2 0 rfl rfl i (.int .u8 (y.toNat : Int))
               rw [← bv_set] at hr'
               exact ⟨i + 1, _, by omega, by go_num, rfl, by omega, by omega, x.set i y, c', by rw [List.length_set]; exact HXL.out, Lib.hid ⟨hr', hS'⟩⟩)
end Go.Proofs.Ytdhnmcdgiddhdaa
