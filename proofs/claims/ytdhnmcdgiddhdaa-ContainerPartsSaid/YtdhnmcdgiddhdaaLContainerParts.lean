/-
  The walk of ContainerParts.
-/
import Derived.Test.YtdhnmcdgiddhdaaCtFill
import Derived.Test.YtdhnmcdgiddhdaaCg2
set_option linter.unusedVariables false
set_option linter.unusedSimpArgs false
namespace Go.Proofs.Ytdhnmcdgiddhdaa
open Go.RowKit
set_option maxRecDepth 100000
theorem str_app (a b : List UInt8) : (⟨a.toArray⟩ : ByteArray) ++ ⟨b.toArray⟩ = ⟨(a ++ b).toArray⟩ := by
  apply ByteArray.ext
  simp
section
attribute [local go_sem] min2_ints min_of_two
set_option maxHeartbeats 1000000 in
theorem ContainerParts_walk (w : World) (v : Value) (bs0 : List UInt8) (h : Rd w 1 v bs0.length (bv bs0)) (sz : bs0.length ≤ 140737488351232) (n : Int) (wf : (Lit.int .i64 n).wf = true) (s : Int) (wn : (Lit.int .i64 s).wf = true) :
    Calls Try.prog 9 #[v, .int .i64 n, .int .i64 s] w fun e w' => e = .returned (.bool true) ∧ Below w.heap.size w w' := by
  rcases (show n < 0 ∨ (0 ≤ n ∧ 3000 < n) ∨ (0 ≤ n ∧ n ≤ 3000 ∧ s < 1) ∨ (0 ≤ n ∧ n ≤ 3000 ∧ 1 ≤ s ∧ 1500 < s) ∨ (0 ≤ n ∧ n ≤ 3000 ∧ 1 ≤ s ∧ s ≤ 1500) by omega) with q | ⟨q, q2⟩ | ⟨q, q2, q3⟩ | ⟨q, q2, q3, q4⟩ | ⟨q, q2, q3, q4⟩
  iterate 4
    · go_enter Try.func9, Try.ntmps9
      go_wp2_with fail
      refine (begun11 _).mono ?_
      rintro e w1 ⟨rfl, hb⟩
      go_wp2_with fail
      go_ret
      exact ⟨rfl, hb⟩
  obtain ⟨N, rfl⟩ := Int.eq_ofNat_of_zero_le q
  obtain ⟨T, rfl⟩ := Int.eq_ofNat_of_zero_le (show 0 ≤ s by omega)
  have hN : N ≤ 3000 := by omega
  have hT : 1 ≤ T := by omega
  have hT2 : T ≤ 1500 := by omega
  have d1 : decide ((N : Int) < 0) = false := by rw [decide_eq_false_iff_not]; omega
  have d2 : decide (3000 < (N : Int)) = false := by rw [decide_eq_false_iff_not]; omega
  have d3 : decide ((T : Int) < 1) = false := by rw [decide_eq_false_iff_not]; omega
  have d4 : decide (1500 < (T : Int)) = false := by rw [decide_eq_false_iff_not]; omega
  clear q q2 q3 q4 wf wn
  go_enter Try.func9, Try.ntmps9
  go_wp2_with fail
  refine (begun11 _).mono ?_
  rintro e w1 ⟨rfl, hb⟩
  have hS := (St.init w).mono hb
  have hr := h.keep hb
  clear h hb
  go_wp2_with fail
  refine (short_any v bs0 40 w1 hr (by omega)).mono ?_
  rintro e w2 ⟨v', rfl, hr', rfl⟩
  have hnb : (bs0.take 40).length ≤ 1000 := by simp; omega
  generalize bs0.take 40 = fb at *
  obtain ⟨aob, capb, rfl⟩ := hr'.shape
  have H1 := Lib.hid (And.intro hr' hS)
  clear sz hr hr' hS
  go_wp2_with fail
  refine (filled_any _ fb N w1 H1.out.1 (by omega) hnb).mono ?_
  rintro e w2 ⟨x, v2, c2, hxl, rfl, hr2, hS2⟩
  obtain ⟨ao2, cap2, rfl⟩ := hr2.shape
  have H2 := Lib.hid (And.intro hr2 (H1.out.2.join hS2))
  have hrx : Rd w2 1 (.slice ao2 N cap2) x.length (bv x) := by rw [hxl]; exact hr2.rd hS2 0 rfl
  have HRX := Lib.hid hrx
  have HXL := Lib.hid hxl
  have hxb : x.length ≤ 100000 := by omega
  have HXB := Lib.hid hxb
  clear hr2 hS2 hrx hxl hxb
  go_wp2_with fail
  refine (pack_any _ x w2 HRX.out HXB.out).mono ?_
  rintro e w3 ⟨c, v3, c3, rfl, hr3, hp, hS3⟩
  have hcl : c.length ≤ 100000 := by have := hp.size; have := HXL.out; omega
  obtain ⟨ao3, cap3, rfl⟩ := hr3.shape
  have H3 := Lib.hid (And.intro hr3 (And.intro hp (H2.out.2.join hS3)))
  clear hr3 hp hS3
  go_wp2_with fail
  go_loopg [10, 11] N (fun gf s10 s11 wr => ∃ a : Nat, N - a = gf ∧ a ≤ 5000 ∧ s11 = .int .i64 (a : Int) ∧ s10 = .string ⟨(x.take a).toArray⟩ ∧ St w.heap.size w wr [c3, c2])
  case atStart => exact ⟨0, rfl, by omega, rfl, rfl, H3.out.2.2.pick [0, 1] (by decide) _ rfl⟩
  case round =>
    obtain ⟨a, ha, ha2, rfl, rfl, hS⟩ := hrel
    have HS := Lib.hid hS
    clear hS
    cases gk with
    | zero =>
      have hai : ¬ (a : Int) < (N : Int) := by omega
      have hta : x.take a = x := List.take_of_length_le (by have := HXL.out; omega)
      have hc2 := conv_str (H2.out.1.rd HS.out 1 rfl)
      rw [hta]
      have HB := Lib.hid HS.out.below
      clear ha hta
      go_wp2_with fail
      go_ret
      exact ⟨by simp, HB.out⟩
    | succ m =>
      have hai : (a : Int) < (N : Int) := by omega
      obtain ⟨k, HK⟩ : ∃ k, Hid (k = min T (N - a)) := ⟨_, Lib.hid rfl⟩
      have hmin : (if (N : Int) - (a : Int) < (T : Int) then (N : Int) - (a : Int) else (T : Int)) = (k : Int) := by rw [HK.out]; split <;> omega
      go_wp2_with fail
      have hkb := HK.out
      refine (ctpart_any (.slice ao3 c.length cap3) c (a : Int) (k : Int) wr (H3.out.1.rd HS.out 0 rfl) (by omega) (by omega) (by omega)).mono ?_
      intro e w5 hd
      obtain ⟨v5, rfl, hr5, hS5⟩ := hd.coded H3.out.2.1 HXB.out (by have := HXL.out; omega)
      have hpl : ((x.drop a).take k).length = k := by rw [List.length_take, List.length_drop]; have := HXL.out; omega
      have hpx : x.take a ++ (x.drop a).take k = x.take (a + T) := by
        rw [List.take_add]
        congr 1
        rcases Nat.le_total T (N - a) with e | e
        · rw [show k = T by omega]
        · rw [List.take_of_length_le (by rw [List.length_drop]; have := HXL.out; omega), List.take_of_length_le (by rw [List.length_drop]; have := HXL.out; omega)]
      rw [hpl] at hr5
      obtain ⟨ao5, cap5, rfl⟩ := hr5.shape
      have hc5 := conv_str hr5
      generalize (x.drop a).take k = pp at *
      have HPX := Lib.hid (And.intro hpx hpl)
      have hS6 := HS.out.join hS5
      have HS6 := Lib.hid hS6
      have hkk : ((k : Int) != (k : Int)) = false := by simp
      have hno : ¬ 9223372036854775807 < min a x.length + pp.length := by omega
      clear hd hr5 hS5 hpx hpl hkb hS6
      go_wp2_with fail
      go_roundg (N - (a + T))
      case measure => omega
      case rel => exact ⟨a + T, rfl, by omega, by go_num, by rw [str_app, HPX.out.1], HS6.out⟩
end
end Go.Proofs.Ytdhnmcdgiddhdaa
