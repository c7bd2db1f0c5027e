/-
  The walk of EntropyAll.
-/
import Derived.Test.YtdhnmcdgiddhdaaEg11
set_option linter.unusedVariables false
set_option linter.unusedSimpArgs false
namespace Go.Proofs.Ytdhnmcdgiddhdaa
open Go.RowKit
set_option maxRecDepth 100000
/-- Bytes, so many times. -/
def repB (b : List UInt8) : Nat → List UInt8
  | 0 => []
  | n + 1 => repB b n ++ b
theorem repB_length (b : List UInt8) : ∀ n, (repB b n).length = n * b.length
  | 0 => by simp [repB]
  | n + 1 => by rw [repB, List.length_append, repB_length b n, Nat.succ_mul]
theorem repB_le (b : List UInt8) (n : Nat) (hn : n ≤ 5) (hb : b.length ≤ 200) : (repB b n).length ≤ 1000 := by
  rw [repB_length]
  exact Nat.mul_le_mul hn hb
set_option maxHeartbeats 3000000 in
theorem EntropyAll_walk (w : World) (v : Value) (bs0 : List UInt8) (h : Rd w 1 v bs0.length (bv bs0)) (sz : bs0.length ≤ 140737488351232) (a : Int) (wf : (Lit.int .i64 a).wf = true) (m : Int) (wfm : (Lit.int .i64 m).wf = true) :
    Calls Try.prog 3 #[v, .int .i64 a, .int .i64 m] w fun e w' => e = .returned (.bool true) ∧ Below w.heap.size w w' := by
  obtain ⟨i0, i0a, i0b, i0c, i0d⟩ := info_parts infoU8
  go_enter Try.func3, Try.ntmps3
  go_wp2_with fail
  refine (begun10 _).mono ?_
  rintro e w1 ⟨rfl, hb⟩
  have hS := (St.init w).mono hb
  have hr := h.keep hb
  clear h hb
  go_wp2_with fail
  refine (short_any v bs0 200 w1 hr (by omega)).mono ?_
  rintro e w2 ⟨v', rfl, hr', rfl⟩
  have hnb : (bs0.take 200).length ≤ 200 := by simp; omega
  generalize bs0.take 200 = b at *
  obtain ⟨aob, capb, rfl⟩ := hr'.shape
  have HRD := Lib.hid (And.intro hr' hS)
  clear sz hr hr' hS
  obtain ⟨T, hT, hT2⟩ : ∃ T : Nat, 1 ≤ T ∧ T ≤ 5 ∧ (T : Int) = if 1 ≤ a ∧ a ≤ 5 then a else 1 := by
    by_cases q : 1 ≤ a ∧ a ≤ 5
    · exact ⟨a.toNat, by omega, by omega, by rw [if_pos q]; omega⟩
    · exact ⟨1, by omega, by omega, by rw [if_neg q]; rfl⟩
  have HT := Lib.hid (And.intro hT hT2.1)
  have hT5 := hT2.1
  rcases (show a < 1 ∨ (1 ≤ a ∧ 5 < a) ∨ (1 ≤ a ∧ a ≤ 5) by omega) with q | q | q
  case' inl =>
    have HV : Hid ((T : Int) = 1) := Lib.hid (by rw [hT2.2, if_neg (by omega)])
    have HLT : Hid (∀ i : Nat, i < T → (i : Int) < 1) := Lib.hid (fun i hi => by have := HV.out; omega)
    have HGE : Hid (¬ (T : Int) < 1) := Lib.hid (by have := HV.out; omega)
  case' inr.inl =>
    have q1 := q.1
    have q2 := q.2
    have HV : Hid ((T : Int) = 1) := Lib.hid (by rw [hT2.2, if_neg (by omega)])
    have HLT : Hid (∀ i : Nat, i < T → (i : Int) < 1) := Lib.hid (fun i hi => by have := HV.out; omega)
    have HGE : Hid (¬ (T : Int) < 1) := Lib.hid (by have := HV.out; omega)
  case' inr.inr =>
    have q1 := q.1
    have q2 := q.2
    have HV : Hid ((T : Int) = a) := Lib.hid (by rw [hT2.2, if_pos (by omega)])
    have HLT : Hid (∀ i : Nat, i < T → (i : Int) < a) := Lib.hid (fun i hi => by have := HV.out; omega)
    have HGE : Hid (¬ (T : Int) < a) := Lib.hid (by have := HV.out; omega)
  all_goals
    clear hT hT2
    go_wp2_with fail
    go_loopg [8, 9] T (fun gf s8 s9 wr => ∃ i : Nat, i + gf = T ∧ s9 = .int .i64 (i : Int) ∧ ∃ c, RowC 5 1 s8 (repB b i).length (bv (repB b i)) c ∧ St w1.heap.size w1 wr [c])
    case atStart => exact ⟨0, by omega, rfl, [], RowC.nil _ _, (St.init w1).one_nil⟩
    case round =>
      clear q
      obtain ⟨i, hi, rfl, c, hr, hS⟩ := hrel
      cases gk with
      | succ mm =>
        have hil := HLT.out i (by omega)
        have hle := repB_le b i (by omega) hnb
        obtain ⟨ao8, cap8, rfl⟩ := hr.shape
        have hrd := HRD.out.1.st hS
        go_wp2_with (at_builtin; (refine wpList_app 0 22 i0 (.int .u8 0) _ _ rfl rfl rfl rfl Try.underlying22 i0a i0b i0c i0d rfl (by decide) hS rfl hr hrd (bv_one _) ?_ ?_ ?_); (unfold maxLen; omega); omega; intro v1 c1 w3 hr1 hS1)
        rw [← bv_append, ← List.length_append] at hr1
        have HF := Lib.hid (And.intro hr1 hS1)
        clear hr hS hrd hr1 hS1
        go_wp2_with fail
        go_roundg mm
        case measure => omega
        case rel => exact ⟨i + 1, by omega, by go_num, c1, HF.out.1, HF.out.2.pick [0] (by decide) _ rfl⟩
      | zero =>
        obtain rfl : i = T := by omega
        have hle := repB_le b i HT.out.2 hnb
        generalize repB b i = x at *
        have hlei : (x.length : Int) ≤ 1000 := by omega
        obtain ⟨ao8, cap8, rfl⟩ := hr.shape
        have HX := Lib.hid (And.intro hr hS)
        have hge := HGE.out
        clear hr hS hi
        go_wp2_with fail
        refine (entenc_any _ x wr (HX.out.1.rd HX.out.2 0 rfl) (by omega)).mono ?_
        rintro e w3 ⟨out, v3, c3, rfl, hr3, he, hS3⟩
        obtain ⟨ao3, cap3, rfl⟩ := hr3.shape
        have hol := he.size (by omega)
        have hdv : (x.length : Int).tdiv 8 = ((x.length / 8 : Nat) : Int) := (Int.ofNat_tdiv x.length 8).symm
        have holi : ¬ ((x.length : Int) + ((x.length / 8 : Nat) : Int) + 400 < (out.length : Int)) := by omega
        have hdl : ((x.length / 8 : Nat) : Int) ≤ 1000 := by omega
        have hdg : (0 : Int) ≤ ((x.length / 8 : Nat) : Int) := by omega
        have hol2 : out.length ≤ 3000 := by omega
        generalize x.length / 8 = D at *
        have H3 := Lib.hid (And.intro hr3 (And.intro he (HX.out.2.join hS3)))
        clear hr3 he hS3 hol
        go_wp2_with fail
        refine (entdec_any _ out (x.length : Int) w3 (H3.out.1.rd H3.out.2.2 0 rfl) (by omega) (by omega)).mono ?_
        intro e w4 hd
        obtain ⟨v4, c4, rfl, hr4, hS4⟩ := hd.coded (by rw [Int.toNat_natCast]; omega) (by rw [Int.toNat_natCast]; exact Nat.le_refl _) H3.out.2.1
        clear hd
        obtain ⟨ao4, cap4, rfl⟩ := hr4.shape
        have hS5 := H3.out.2.2.join hS4
        have hc1 := conv_str (hr4.rd hS5 0 rfl)
        have hc2 := conv_str (HX.out.1.rd hS5 2 rfl)
        have H5 := Lib.hid hS5
        clear hr4 hS4 hS5
        rcases (show m < 0 ∨ (0 ≤ m ∧ (x.length : Int) ≤ m) ∨ (0 ≤ m ∧ m < (x.length : Int)) by omega) with qm | ⟨qm, qm2⟩ | ⟨qm, qm2⟩
        · go_wp2_with fail
          go_ret
          exact ⟨rfl, (HRD.out.2.join H5.out).below⟩
        · go_wp2_with fail
          go_ret
          exact ⟨rfl, (HRD.out.2.join H5.out).below⟩
        · go_wp2_with fail
          refine (entdec_any _ out m w4 (H3.out.1.rd H5.out 1 rfl) (by omega) (by omega)).mono ?_
          intro e w5 hd
          obtain ⟨rfl, hS6⟩ := hd.poor (by omega) (by omega) H3.out.2.1
          have H6 := Lib.hid (HRD.out.2.join (H5.out.join hS6)).below
          clear hd hS6
          go_wp2_with fail
          go_ret
          exact ⟨rfl, H6.out⟩
end Go.Proofs.Ytdhnmcdgiddhdaa
