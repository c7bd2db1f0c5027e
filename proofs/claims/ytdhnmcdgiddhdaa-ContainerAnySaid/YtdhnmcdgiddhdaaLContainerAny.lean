/-
  The walk of ContainerAny.
-/
import Derived.Test.YtdhnmcdgiddhdaaCg2
set_option linter.unusedVariables false
set_option linter.unusedSimpArgs false
namespace Go.Proofs.Ytdhnmcdgiddhdaa
open Go.RowKit
set_option maxRecDepth 100000
set_option maxHeartbeats 4000000 in
theorem ContainerAny_walk (w : World) (v : Value) (bs0 : List UInt8) (h : Rd w 1 v bs0.length (bv bs0)) (sz : bs0.length ≤ 140737488351232) (f : Int) (wf : (Lit.int .i64 f).wf = true) (n : Int) (wn : (Lit.int .i64 n).wf = true) :
    Calls Try.prog 8 #[v, .int .i64 f, .int .i64 n] w fun e w' => e = .returned (.bool true) ∧ Below w.heap.size w w' := by
  have hbf := bounds_i64 wf
  have hbn := bounds_i64 wn
  go_enter Try.func8, Try.ntmps8
  go_wp2_with fail
  refine (begun11 _).mono ?_
  rintro e w1 ⟨rfl, hb⟩
  have hS := (St.init w).mono hb
  have hr := h.keep hb
  clear h hb
  go_wp2_with fail
  refine (short_any v bs0 200 w1 hr (by omega)).mono ?_
  rintro e w2 ⟨v', rfl, hr', rfl⟩
  have hnb : (bs0.take 200).length ≤ 200 := by simp; omega
  generalize bs0.take 200 = b at *
  obtain ⟨aob, capb, rfl⟩ := hr'.shape
  have H1 := Lib.hid (And.intro hr' hS)
  have HB := Lib.hid (And.intro hbf hbn)
  clear sz hr hr' hS wf wn hbf hbn
  go_wp2_with fail
  refine (ctunpack_any _ b 1000 w1 H1.out.1 (by omega)).mono ?_
  rintro e w2 (⟨y, v2, _, hl2, rfl, hr2, hS2⟩ | ⟨er2, he2, rfl, hS2, _⟩)
  case' inl =>
    obtain ⟨ao2, cap2, rfl⟩ := hr2.shape
    have H2 := Lib.hid hS2
    clear hr2 hS2
    go_wp2_with fail
  case' inr =>
    have g1 : ((er2 : Int) == 0) = false := by rcases he2 with rfl | rfl <;> rfl
    have g2 : ((er2 : Int) != 0) = true := by rcases he2 with rfl | rfl <;> rfl
    have H2 := Lib.hid hS2
    clear he2 hS2
    go_wp2_with fail
  all_goals
    refine (ctpart_any _ b f n w2 (H1.out.1.st H2.out) (by omega) HB.out.1 HB.out.2).mono ?_
    rintro e w3 (⟨z, v3, _, hn3, hz3, rfl, hr3, hS3⟩ | ⟨er3, he3, rfl, hS3, _⟩)
    case' inl =>
      obtain ⟨ao3, cap3, rfl⟩ := hr3.shape
      have hzl := hz3.len
      have hzi : ((z.length : Int) == n) = true := by rw [beq_iff_eq]; omega
      have H3 := Lib.hid (H2.out.join hS3)
      clear hr3 hS3 hzl hn3
      go_wp2_with fail
    case' inr =>
      have g3 : ((er3 : Int) == 0) = false := by rcases he3 with ⟨rfl, _⟩ | ⟨rfl, _⟩ <;> rfl
      have g4 : ((er3 : Int) != 0) = true := by rcases he3 with ⟨rfl, _⟩ | ⟨rfl, _⟩ <;> rfl
      have H3 := Lib.hid (H2.out.join hS3)
      clear he3 hS3
      go_wp2_with fail
    all_goals
      refine (ctblocks_any _ b w3 (H1.out.1.st H3.out) (by omega)).mono ?_
      rintro e w4 (⟨s, l, a, v4, c4, _, rfl, hr4, hS4⟩ | ⟨_, rfl, hS4⟩)
      case' inl =>
        obtain ⟨ao4, cap4, rfl⟩ := hr4.shape
        have H4 := Lib.hid (H1.out.2.join (H3.out.join hS4)).below
        clear hr4 hS4
        go_wp2_with fail
      case' inr =>
        have H4 := Lib.hid (H1.out.2.join (H3.out.join hS4)).below
        clear hS4
        go_wp2_with fail
      all_goals
        go_ret
        exact ⟨by simp, H4.out⟩
end Go.Proofs.Ytdhnmcdgiddhdaa
