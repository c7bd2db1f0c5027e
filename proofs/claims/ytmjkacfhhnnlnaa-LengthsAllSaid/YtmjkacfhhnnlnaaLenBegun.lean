/-
  foliolaw6.cut; foliolaw6.begun returns true.
-/
import Derived.Test.YtmjkacfhhnnlnaaLenSums
set_option linter.unusedVariables false
set_option linter.unusedSimpArgs false
namespace Go.Proofs.Ytmjkacfhhnnlnaa
open Go.RowKit
set_option maxRecDepth 100000
theorem cut6_gen (v : Value) (l : List Int) (w : World) (h : Rd w 1 v l.length (iv l)) :
    Calls Try.prog 7 #[v] w fun e w' => ∃ v', e = .returned v' ∧ (∀ wx, Rd wx 1 v l.length (iv l) → Rd wx 1 v' (l.take 305).length (iv (l.take 305))) ∧ w = w' := by
  obtain ⟨ao, cap, rfl⟩ := h.shape
  have hsm := h.small
  have hcp := h.cap.1
  have hcp2 := h.cap.2
  by_cases hlt : 305 < l.length
  · have hlt' : (305 : Int) < l.length := by omega
    have hcap : ao ≠ none := by
      rintro rfl
      have := h.none_iff
      omega
    obtain ⟨ad, rfl⟩ : ∃ ad, ao = some ad := by cases ao with | none => exact absurd rfl hcap | some ad => exact ⟨ad, rfl⟩
    clear hcap h
    go_enter Try.func7, Try.ntmps7
    go_wp2
    go_ret
    refine ⟨_, rfl, fun wx hx => ?_, rfl⟩
    have := hx.take 305 (by omega)
    rw [Nat.mul_one] at this
    rw [show (l.take 305).length = 305 from by simp; omega]
    simpa [iv] using this
  · have hge : ¬ (305 : Int) < l.length := by omega
    clear h
    go_enter Try.func7, Try.ntmps7
    go_wp2
    go_ret
    refine ⟨_, rfl, fun wx hx => ?_, rfl⟩
    rw [List.take_of_length_le (by omega)]
    simpa [Nat.min_eq_right (show l.length ≤ 305 by omega)] using hx
theorem len_begun : (mkI (fun s => (lenP (fN [5, 0, 1, 1]) s : Int)) 4) = [1, 0, 2, 2] := by decide +kernel
theorem small_begun : SmallF [5, 0, 1, 1] ∧ SmallL [1, 0, 2, 2] := by
  unfold SmallF SmallL
  refine ⟨⟨by decide, ?_⟩, ?_⟩
  · intro x hx; simp at hx; omega
  · intro x hx; simp at hx; omega
set_option maxHeartbeats 1000000 in
theorem begun6 (w : World) : Calls Try.prog 6 #[] w fun e w' => e = .returned (.bool true) ∧ Below w.heap.size w w' := by
  have hb : Rd (w.alloc (.cells #[.int .i64 5, .int .i64 0, .int .i64 1, .int .i64 1] 2)) 1 (.slice (some ⟨w.heap.size, 0, none⟩) 4 4) ([5, 0, 1, 1] : List Int).length (iv [5, 0, 1, 1]) := Rd.lits w #[.int .i64 5, .int .i64 0, .int .i64 1, .int .i64 1] 2 4 rfl (by decide)
  have hS := (St.init w).alloc (.cells #[.int .i64 5, .int .i64 0, .int .i64 1, .int .i64 1] 2)
  go_enter Try.func6, Try.ntmps6
  go_wp2_with fail
  refine (of_any [5, 0, 1, 1] _ _ (by decide) hb).mono ?_
  rintro e w1 (⟨hbad, _⟩ | ⟨_, v, c, rfl, hr, hS1⟩)
  · exact absurd hbad (by decide)
  · obtain ⟨ao, cap, rfl⟩ := hr.shape
    have hS2 := (hS.join hS1).pick [0] (by decide) [c] rfl
    change RowC 3 1 (.slice ao 4 cap) 4 (iv (mkI (fun s => (lenP (fN [5, 0, 1, 1]) s : Int)) 4)) c at hr
    rw [len_begun] at hr
    obtain ⟨g, rfl⟩ := hr.head (by decide)
    have hc0 := hr.cellAt hS2 0 rfl (iv_get [1, 0, 2, 2] 0 1 rfl)
    have hc1 := hr.cellAt hS2 0 rfl (iv_get [1, 0, 2, 2] 1 0 rfl)
    have hc2 := hr.cellAt hS2 0 rfl (iv_get [1, 0, 2, 2] 2 2 rfl)
    have hrd := hr.rd hS2 0 rfl
    clear hS hS1 hb
    go_wp2_with fail
    refine (lkraft_any _ [1, 0, 2, 2] _ hrd (by decide)).mono ?_
    rintro e w2 ⟨rfl, rfl⟩
    rw [show ((kraftP [1, 0, 2, 2] : Nat) : Int) = 32768 from by decide]
    have hS3 := hS2.alloc (.cells #[.int .i64 5, .int .i64 0, .int .i64 1, .int .i64 1] 2)
    have hb2 : Rd (w1.alloc (.cells #[.int .i64 5, .int .i64 0, .int .i64 1, .int .i64 1] 2)) 1 (.slice (some ⟨w1.heap.size, 0, none⟩) 4 4) ([5, 0, 1, 1] : List Int).length (iv [5, 0, 1, 1]) := Rd.lits w1 #[.int .i64 5, .int .i64 0, .int .i64 1, .int .i64 1] 2 4 rfl (by decide)
    go_wp2_with fail
    refine (lcost_any _ _ [5, 0, 1, 1] [1, 0, 2, 2] _ hb2 (hr.rd hS3 1 rfl) small_begun.1 small_begun.2).mono ?_
    rintro e w3 ⟨rfl, hd⟩
    rw [show costI [5, 0, 1, 1] [1, 0, 2, 2] = 9 from by decide]
    have hS4 := hS3.Drew hd
    go_wp2_with fail
    go_ret
    exact ⟨by simp, hS4.below⟩
end Go.Proofs.Ytmjkacfhhnnlnaa
