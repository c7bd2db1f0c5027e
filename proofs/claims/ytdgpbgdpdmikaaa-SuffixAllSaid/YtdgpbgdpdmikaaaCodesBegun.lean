/-
  foliolaw7.begun returns true; foliolaw7.cut.
-/
import Derived.Test.YtdgpbgdpdmikaaaCodesW
import Derived.Test.YtdgpbgdpdmikaaaCodesRd
import Derived.Test.YtdgpbgdpdmikaaaInts
import Derived.Test.YtdgpbgdpdmikaaaShort
set_option linter.unusedVariables false
set_option linter.unusedSimpArgs false
namespace Go.Proofs.Ytdgpbgdpdmikaaa
open Go.RowKit
set_option maxRecDepth 100000
theorem short_gen (v : Value) (bs : List UInt8) (k : Nat) (w : World) (h : Rd w 1 v bs.length (bv bs)) (hk : k ≤ 1000000) :
    Calls Try.prog 29 #[v, .int .i64 (k : Int)] w fun e w' => ∃ v', e = .returned v' ∧ (∀ wx, Rd wx 1 v bs.length (bv bs) → Rd wx 1 v' (bs.take k).length (bv (bs.take k))) ∧ w = w' := by
  obtain ⟨ao, cap, rfl⟩ := h.shape
  have hsm := h.small
  have hcp := h.cap.1
  have hcp2 := h.cap.2
  by_cases hlt : k < bs.length
  · have hlt' : (k : Int) < bs.length := by omega
    have hcap : ao ≠ none := by
      rintro rfl
      have := h.none_iff
      omega
    obtain ⟨ad, rfl⟩ : ∃ ad, ao = some ad := by cases ao with | none => exact absurd rfl hcap | some ad => exact ⟨ad, rfl⟩
    clear hcap h
    go_enter Try.func29, Try.ntmps29
    go_wp2
    go_ret
    refine ⟨_, rfl, fun wx hx => ?_, rfl⟩
    have := hx.take k (by omega)
    rw [Nat.mul_one] at this
    rw [show (bs.take k).length = k from by simp; omega]
    simpa [bv] using this
  · have hge : ¬ (k : Int) < bs.length := by omega
    clear h
    go_enter Try.func29, Try.ntmps29
    go_wp2
    go_ret
    refine ⟨_, rfl, fun wx hx => ?_, rfl⟩
    rw [List.take_of_length_le (by omega)]
    simpa [Nat.min_eq_right (show bs.length ≤ k by omega)] using hx
theorem cut7_gen (v : Value) (l : List Int) (w : World) (h : Rd w 1 v l.length (iv l)) :
    Calls Try.prog 16 #[v] w fun e w' => ∃ v', e = .returned v' ∧ (∀ wx, Rd wx 1 v l.length (iv l) → Rd wx 1 v' (l.take 302).length (iv (l.take 302))) ∧ w = w' := by
  obtain ⟨ao, cap, rfl⟩ := h.shape
  have hsm := h.small
  have hcp := h.cap.1
  have hcp2 := h.cap.2
  by_cases hlt : 302 < l.length
  · have hlt' : (302 : Int) < l.length := by omega
    have hcap : ao ≠ none := by
      rintro rfl
      have := h.none_iff
      omega
    obtain ⟨ad, rfl⟩ : ∃ ad, ao = some ad := by cases ao with | none => exact absurd rfl hcap | some ad => exact ⟨ad, rfl⟩
    clear hcap h
    go_enter Try.func16, Try.ntmps16
    go_wp2
    go_ret
    refine ⟨_, rfl, fun wx hx => ?_, rfl⟩
    have := hx.take 302 (by omega)
    rw [Nat.mul_one] at this
    rw [show (l.take 302).length = 302 from by simp; omega]
    simpa [iv] using this
  · have hge : ¬ (302 : Int) < l.length := by omega
    clear h
    go_enter Try.func16, Try.ntmps16
    go_wp2
    go_ret
    refine ⟨_, rfl, fun wx hx => ?_, rfl⟩
    rw [List.take_of_length_le (by omega)]
    simpa [Nat.min_eq_right (show l.length ≤ 302 by omega)] using hx
theorem cut7_any (v : Value) (l : List Int) (w : World) (h : Rd w 1 v l.length (iv l)) :
    Calls Try.prog 16 #[v] w fun e w' => ∃ v', e = .returned v' ∧ Rd w 1 v' (l.take 302).length (iv (l.take 302)) ∧ w = w' :=
  (cut7_gen v l w h).mono fun _ _ ⟨v', h1, h2, h3⟩ => ⟨v', h1, h2 w h, h3⟩
set_option maxHeartbeats 2000000 in
theorem begun7 (w : World) : Calls Try.prog 15 #[] w fun e w' => e = .returned (.bool true) ∧ Below w.heap.size w w' := by
  have m3 : 3 ≤ maxLen := by unfold maxLen; omega
  have hok : okLens [2, 1, 2] = true := by decide
  have hrd := Rd.lits w #[.int .i64 2, .int .i64 1, .int .i64 2] 3 3 rfl m3
  have hS := (St.init w).alloc (.cells #[.int .i64 2, .int .i64 1, .int .i64 2] 3)
  go_enter Try.func15, Try.ntmps15
  go_wp2_with fail
  refine (of_ok _ [2, 1, 2] _ hrd (by simp) hok).mono ?_
  rintro e w1 ⟨u, cC, rfl, hrC, hS1⟩
  obtain ⟨g, capg, cur, rfl, _⟩ := hrC.form (by simp)
  replace hS := ((hS.join hS1).pick [0] (by decide) [cC] rfl).alloc (Obj.cells #[.slice none 0 0, .int .i64 0] 39)
  clear hS1 hrd
  have hc := wr_new w1.heap.size
  go_wp2_with fail
  have hS2 := ((hS.alloc (.cells #[.int .i64 2, .int .i64 1, .int .i64 2] 3)).alloc (.cells #[.int .i64 1, .int .i64 0, .int .i64 2] 3)).pick [2, 1, 0, 3] (by decide) [[(w1.heap.size, Obj.cells #[.slice none 0 0, .int .i64 0] 39 (0, 0))], [(w1.heap.size + 1, Obj.cells #[.int .i64 2, .int .i64 1, .int .i64 2] 3 (0, 0))], [(w1.heap.size + 1 + 1, Obj.cells #[.int .i64 1, .int .i64 0, .int .i64 2] 3 (0, 0))], cC] (by simp)
  have r1 : RowC 3 1 (.slice (some ⟨w1.heap.size + 1, 0, none⟩) 3 3) 3 (iv [2, 1, 2]) [(w1.heap.size + 1, Obj.cells #[.int .i64 2, .int .i64 1, .int .i64 2] 3 (0, 0))] := RowC.fresh _ _ rfl (Nat.le_refl _) m3 rfl rfl
  have r2 : RowC 3 1 (.slice (some ⟨w1.heap.size + 1 + 1, 0, none⟩) 3 3) 3 (iv [1, 0, 2]) [(w1.heap.size + 1 + 1, Obj.cells #[.int .i64 1, .int .i64 0, .int .i64 2] 3 (0, 0))] := RowC.fresh _ _ rfl (Nat.le_refl _) m3 rfl rfl
  refine (write_any w1.heap.size [] _ _ [2, 1, 2] [1, 0, 2] hS2 hc (r1.rd hS2 1 rfl) (r2.rd hS2 2 rfl) (by simp) hok (by simp) (by simp) (fun w' c' h => r2.rd h 2 rfl)).mono ?_
  rintro e w2 ⟨rfl, c2, hc2, hS3⟩
  replace hS3 := hS3.pick [0, 3] (by decide) [c2, cC] rfl
  rw [show wrErr [2, 1, 2] [1, 0, 2] = 0 from by decide]
  rw [show wrBits [2, 1, 2] [1, 0, 2] [] = [false, true, false, true, true] from by decide] at hc2
  clear hS hS2 r1 r2 hc
  go_wp2_with fail
  refine (wbytes_any _ _ hS3 hc2 (by simp)).mono ?_
  rintro e w3 ⟨v3, c3, cs, rfl, hr3, hs3, hl3, hp3⟩
  obtain rfl : cs = [88] := packed_unique hp3 (by decide) (by simpa using hl3)
  clear hl3 hp3
  replace hS3 := hS3.mono hs3.below
  go_wp2_with fail
  refine (bread_any v3 [88] (hr3.rd hs3 0 rfl) (by simp)).mono ?_
  rintro e w4 ⟨p, c4, rfl, hrc, hs4⟩
  have hS4 := (hS3.join hs4).alloc (.cells #[.int .i64 2, .int .i64 1, .int .i64 2] 3)
  replace hS4 := hS4.swap
  have r1 : RowC 3 1 (.slice (some ⟨w4.heap.size, 0, none⟩) 3 3) 3 (iv [2, 1, 2]) [(w4.heap.size, Obj.cells #[.int .i64 2, .int .i64 1, .int .i64 2] 3 (0, 0))] := RowC.fresh _ _ rfl (Nat.le_refl _) m3 rfl rfl
  go_wp2_with fail
  refine (read_any p _ [2, 1, 2] [88] 0 2 9 hS4 hrc (r1.rd hS4 1 rfl) (by simp) (by simp) hok (fun w' c' h => r1.rd h 1 rfl)).mono ?_
  rintro e w5 ⟨v5, c5, rfl, hr5, c6, n6, hrc6, hS5, _⟩
  rw [show readP [2, 1, 2] 2 9 (8 * ([88] : List UInt8).length + 1) [] 0 ((bitsB [88]).drop 0) = (0, [1, 0, 2], 5) from by decide] at *
  replace hS5 := hS5.pick [3, 0, 4] (by decide) [c2, c5, cC] rfl
  clear hS3 hS4 r1 hrc hrc6
  obtain ⟨ao5, cap5, rfl⟩ := hr5.shape
  have k0 := hrC.cellAt hS5 2 rfl (codesV_at [2, 1, 2] 0 2 rfl).1
  have k1 := hrC.cellAt hS5 2 rfl (codesV_at [2, 1, 2] 1 1 rfl).1
  have k2 := hrC.cellAt hS5 2 rfl (codesV_at [2, 1, 2] 2 2 rfl).1
  rw [show (if 0 < 2 then (codeP [2, 1, 2] 0 : Int) else 0) = 2 from by decide] at k0
  rw [show (if 0 < 1 then (codeP [2, 1, 2] 1 : Int) else 0) = 0 from by decide] at k1
  rw [show (if 0 < 2 then (codeP [2, 1, 2] 2 : Int) else 0) = 3 from by decide] at k2
  go_wp2_with fail
  refine (wlen_any _ _ hS5 hc2).mono ?_
  rintro e w7 ⟨rfl, rfl⟩
  go_wp2_with fail
  have hS6 := hS5.alloc (.cells #[.int .i64 1, .int .i64 0, .int .i64 2] 3)
  have r2 : RowC 3 1 (.slice (some ⟨w5.heap.size, 0, none⟩) 3 3) 3 (iv [1, 0, 2]) [(w5.heap.size, Obj.cells #[.int .i64 1, .int .i64 0, .int .i64 2] 3 (0, 0))] := RowC.fresh _ _ rfl (Nat.le_refl _) m3 rfl rfl
  refine (ints_any _ _ [1, 0, 2] [1, 0, 2] _ (hr5.rd hS6 2 rfl) (r2.rd hS6 0 rfl)).mono ?_
  rintro e w8 ⟨rfl, hd⟩
  replace hS6 := hS6.Drew hd
  go_wp2_with fail
  go_ret
  exact ⟨by simp, hS6.below⟩
end Go.Proofs.Ytdgpbgdpdmikaaa
