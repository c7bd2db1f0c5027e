/-
  foliolaw1.Short, foliolaw1.Ints.
-/
import Derived.Test.YtdgpbgdpdmikaabByte
set_option linter.unusedVariables false
set_option linter.unusedSimpArgs false
namespace Go.Proofs.Ytdgpbgdpdmikaab
open Go.RowKit
set_option maxRecDepth 100000
theorem Rd.take {w : World} {sz n cap : Nat} {ao : Option Addr} {xs : List Value} (h : Rd w sz (.slice ao n cap) n xs) (k : Nat) (hk : k ≤ n) : Rd w sz (.slice ao k cap) k (xs.take (k * sz)) := by
  obtain ⟨ao', cap', h1, h2, h3, h4, h5⟩ := h
  simp only [Value.slice.injEq, true_and] at h1
  obtain ⟨rfl, rfl⟩ := h1
  refine ⟨ao, cap, rfl, ⟨by omega, h2.2⟩, ?_, fun e => ?_, fun ad e j u hu => ?_⟩
  · rw [List.length_take, h3]
    exact Nat.min_eq_left (Nat.mul_le_mul_right _ hk)
  · have := h4 e
    omega
  · rw [List.getElem?_take] at hu
    split at hu
    · exact h5 ad e j u hu
    · simp at hu
theorem short_any (v : Value) (bs : List UInt8) (k : Nat) (w : World) (h : Rd w 1 v bs.length (bv bs)) (hk : k ≤ 1000000) :
    Calls Try.prog 16 #[v, .int .i64 (k : Int)] w fun e w' => ∃ v', e = .returned v' ∧ Rd w 1 v' (bs.take k).length (bv (bs.take k)) ∧ w = w' := by
  obtain ⟨ao, cap, rfl⟩ := h.shape
  have hsm := h.small
  have hcp := h.cap.1
  have hcp2 := h.cap.2
  by_cases hlt : k < bs.length
  · have hlt' : (k : Int) < bs.length := by omega
    have hcap : ao ≠ none := by
      rintro rfl
      have := h.none_iff
      omega
    obtain ⟨ad, rfl⟩ : ∃ ad, ao = some ad := by cases ao with | none => exact absurd rfl hcap | some ad => exact ⟨ad, rfl⟩
    clear hcap
    go_enter Try.func16, Try.ntmps16
    go_wp2
    go_ret
    have := h.take k (by omega)
    rw [Nat.mul_one] at this
    refine ⟨_, rfl, ?_, rfl⟩
    rw [show (bs.take k).length = k from by simp; omega]
    simpa [bv] using this
  · have hge : ¬ (k : Int) < bs.length := by omega
    go_enter Try.func16, Try.ntmps16
    go_wp2
    go_ret
    refine ⟨_, rfl, ?_, rfl⟩
    rw [List.take_of_length_le (by omega)]
    simpa [Nat.min_eq_right (show bs.length ≤ k by omega)] using h
theorem short_gen (v : Value) (bs : List UInt8) (k : Nat) (w : World) (h : Rd w 1 v bs.length (bv bs)) (hk : k ≤ 1000000) :
    Calls Try.prog 16 #[v, .int .i64 (k : Int)] w fun e w' => ∃ v', e = .returned v' ∧ (∀ wx, Rd wx 1 v bs.length (bv bs) → Rd wx 1 v' (bs.take k).length (bv (bs.take k))) ∧ w = w' := by
  obtain ⟨ao, cap, rfl⟩ := h.shape
  have hsm := h.small
  have hcp := h.cap.1
  have hcp2 := h.cap.2
  by_cases hlt : k < bs.length
  · have hlt' : (k : Int) < bs.length := by omega
    have hcap : ao ≠ none := by
      rintro rfl
      have := h.none_iff
      omega
    obtain ⟨ad, rfl⟩ : ∃ ad, ao = some ad := by cases ao with | none => exact absurd rfl hcap | some ad => exact ⟨ad, rfl⟩
    clear hcap h
    go_enter Try.func16, Try.ntmps16
    go_wp2
    go_ret
    refine ⟨_, rfl, fun wx hx => ?_, rfl⟩
    have := hx.take k (by omega)
    rw [Nat.mul_one] at this
    rw [show (bs.take k).length = k from by simp; omega]
    simpa [bv] using this
  · have hge : ¬ (k : Int) < bs.length := by omega
    clear h
    go_enter Try.func16, Try.ntmps16
    go_wp2
    go_ret
    refine ⟨_, rfl, fun wx hx => ?_, rfl⟩
    rw [List.take_of_length_le (by omega)]
    simpa [Nat.min_eq_right (show bs.length ≤ k by omega)] using hx
end Go.Proofs.Ytdgpbgdpdmikaab
