/-
  The library's stable sort, the functions that turn stretches: swapRange, rotate.
-/
import Derived.Test.YtdhnmcdgiddhdabMake
import Derived.Test.YtdhnmcdgiddhdabPureSort
import Derived.BigRegion
set_option linter.unusedVariables false
set_option linter.unusedSimpArgs false
namespace Go.Proofs.Ytdhnmcdgiddhdab
open Go.RowKit
set_option maxRecDepth 100000
def rwI (f : Nat → Nat) (n : Nat) : List Value := (List.range n).map fun k => (Value.int .i64 ((f k : Nat) : Int))
theorem rwI_length (f : Nat → Nat) (n : Nat) : (rwI f n).length = n := by simp [rwI]
theorem rwI_get (f : Nat → Nat) (n i : Nat) (h : i < n) : (rwI f n)[i]? = some (Value.int .i64 ((f i : Nat) : Int)) := by simp [rwI, h]
theorem rwI_set (f : Nat → Nat) (n i v : Nat) : (rwI f n).set i (Value.int .i64 ((v : Nat) : Int)) = rwI (fun j => if j = i then v else f j) n := by
  apply List.ext_getElem?
  intro j
  rw [List.getElem?_set, rwI_length]
  by_cases hj : j < n
  · rw [rwI_get _ _ _ hj, rwI_get _ _ _ hj]
    by_cases e : i = j
    · subst e; simp [hj]
    · have e' : ¬ j = i := fun x => e x.symm
      simp [e, e']
  · rw [List.getElem?_eq_none (by rw [rwI_length]; omega), List.getElem?_eq_none (by rw [rwI_length]; omega)]
    by_cases e : i = j
    · subst e; simp [hj]
    · simp [e]
/-- A row under way: whose places hold these elements. -/
def RowSI (g cap n : Nat) (f : Nat → Nat) (c : List (Nat × Obj)) : Prop := RowC 3 1 (.slice (some ⟨g, 0, none⟩) n cap) n (rwI f n) c
section
variable {B : Nat} {w0 w : World} {F : List HL} {c : List (Nat × Obj)} {g cap n : Nat} {f : Nat → Nat}
theorem RowSI.cell (h : RowSI g cap n f c) (hS : St B w0 w (c :: F)) {i : Nat} (hi : i < n) : w.cell? ⟨g, i, none⟩ = some (Value.int .i64 ((f i : Nat) : Int)) := RowC.cellAt h hS 0 rfl (rwI_get f n i hi)
theorem RowSI.free (h : RowSI g cap n f c) (hS : St B w0 w (c :: F)) (i : Nat) : w.frozen? ⟨g, i, none⟩ = false := RowC.freeAt h hS 0 rfl i
theorem RowSI.caps (h : RowSI g cap n f c) : n ≤ cap ∧ cap ≤ 9223372036854775807 := RowC.cap h
theorem RowSI.store (h : RowSI g cap n f c) (hS : St B w0 w (c :: F)) (i v : Nat) : ∃ c', RowSI g cap n (fun j => if j = i then v else f j) c' ∧ St B w0 (w.setCell ⟨g, i, none⟩ (Value.int .i64 ((v : Nat) : Int))) (c' :: F) := by
  obtain ⟨c', h1, h2⟩ := RowC.store h hS 0 rfl rfl i (Value.int .i64 ((v : Nat) : Int))
  rw [rwI_set] at h1
  exact ⟨c', h1, h2⟩
/-- Two places exchanged. -/
theorem RowSI.swp (h : RowSI g cap n f c) (hS : St B w0 w (c :: F)) {i j : Nat} (hij : i ≠ j) (hi : i < n) (hj : j < n) :
    (w.setCell ⟨g, i, none⟩ (Value.int .i64 ((f j : Nat) : Int))).cell? ⟨g, j, none⟩ = some (Value.int .i64 ((f j : Nat) : Int)) ∧ (w.setCell ⟨g, i, none⟩ (Value.int .i64 ((f j : Nat) : Int))).frozen? ⟨g, j, none⟩ = false ∧
    ∃ c', RowSI g cap n (swp i j f) c' ∧ St B w0 ((w.setCell ⟨g, i, none⟩ (Value.int .i64 ((f j : Nat) : Int))).setCell ⟨g, j, none⟩ (Value.int .i64 ((f i : Nat) : Int))) (c' :: F) := by
  obtain ⟨c1, h1, hS1⟩ := h.store hS i (f j)
  obtain ⟨c2, h2, hS2⟩ := h1.store hS1 j (f i)
  have e : (fun k => if k = j then f i else if k = i then f j else f k) = Go.Proofs.Ytdhnmcdgiddhdab.swp i j f := by
    funext k
    unfold Go.Proofs.Ytdhnmcdgiddhdab.swp
    by_cases c1 : k = i
    · rw [if_pos c1, if_pos c1, if_neg (by omega)]
    · rw [if_neg c1, if_neg c1]
  rw [e] at h2
  refine ⟨?_, h1.free hS1 j, c2, h2, hS2⟩
  have := h1.cell hS1 hj
  simpa [Ne.symm hij] using this
def SOutI (g cap n : Nat) (f : Nat → Nat) (F : List (List (Nat × Obj))) (B : Nat) (w0 : World) (e : Ending) (w' : World) : Prop :=
  e = .returned (.tuple #[]) ∧ ∃ c', RowSI g cap n f c' ∧ St B w0 w' (c' :: F)
set_option maxHeartbeats 2000000 in
theorem swapI_any (a b k : Nat) (vf : Value) (h : RowSI g cap n f c) (hS : St B w0 w (c :: F)) (h1 : a + k ≤ b) (h2 : b + k ≤ n) (hn : n ≤ 1000000) :
    Calls Try.prog 57 #[.slice (some ⟨g, 0, none⟩) n cap, .int .i64 (a : Int), .int .i64 (b : Int), .int .i64 (k : Int), vf] w (SOutI g cap n (swr a b k f) F B w0) := by
  have hnl : (n : Int) ≤ 1000000 := by omega
  obtain ⟨hc1, hc2⟩ := h.caps
  have H0 := Lib.hid (And.intro h hS)
  clear h hS
  go_enter Try.func57, Try.ntmps57
  go_wp2_with fail
  go_loopg [10] k (fun m s10 wr => ∃ i : Nat, i + m = k ∧ s10 = .int .i64 (i : Int) ∧ ∃ c, Hid (RowSI g cap n (swr a b i f) c ∧ St B w0 wr (c :: F)))
  case atStart => exact ⟨0, by omega, rfl, c, Lib.hid (by rw [swr_zero]; exact H0.out)⟩
  case round =>
    obtain ⟨i, hi, rfl, c1, HQ⟩ := hrel
    cases gk with
    | zero =>
      obtain rfl : i = k := by omega
      have hz : ¬ (i : Int) < (i : Int) := by omega
      clear hi
      go_wp2_with fail
      go_end0
      exact ⟨rfl, c1, HQ.out⟩
    | succ m =>
      have hik : (i : Int) < (k : Int) := by omega
      have hp := HQ.out.1.cell HQ.out.2 (show a + i < n by omega)
      have hq := HQ.out.1.cell HQ.out.2 (show b + i < n by omega)
      have hf := HQ.out.1.free HQ.out.2 (a + i)
      obtain ⟨q1, q2, c2, q3, q4⟩ := HQ.out.1.swp HQ.out.2 (show a + i ≠ b + i by omega) (by omega) (by omega)
      rw [swr_step a b i f (by omega)] at q3
      have H2 := Lib.hid (And.intro q3 q4)
      clear q3 q4 HQ
      generalize swr a b i f (a + i) = x at *
      generalize swr a b i f (b + i) = y at *
      have hpi : (a : Int) + (i : Int) < (n : Int) := by omega
      have hqi : (b : Int) + (i : Int) < (n : Int) := by omega
      go_wp2_with fail
      go_region
      go_wp2_with fail
      go_roundg m
      case measure => omega
      case rel => exact ⟨i + 1, by omega, by go_num, c2, Lib.hid ⟨H2.out.1, H2.out.2.drew⟩⟩
theorem swapI_int (a b k : Nat) (A B1 K : Int) (eA : A = (a : Int)) (eB : B1 = (b : Int)) (eK : K = (k : Int)) (vf : Value) (h : RowSI g cap n f c) (hS : St B w0 w (c :: F)) (h1 : a + k ≤ b) (h2 : b + k ≤ n) (hn : n ≤ 1000000) :
    Calls Try.prog 57 #[.slice (some ⟨g, 0, none⟩) n cap, .int .i64 A, .int .i64 B1, .int .i64 K, vf] w (SOutI g cap n (swr a b k f) F B w0) := by
  subst eA eB eK
  exact swapI_any a b k vf h hS h1 h2 hn
set_option maxHeartbeats 2000000 in
theorem rotI_any (a m b : Nat) (vf : Value) (h : RowSI g cap n f c) (hS : St B w0 w (c :: F)) (h1 : a < m) (h2 : m < b) (h3 : b ≤ n) (hn : n ≤ 1000000) :
    Calls Try.prog 56 #[.slice (some ⟨g, 0, none⟩) n cap, .int .i64 (a : Int), .int .i64 (m : Int), .int .i64 (b : Int), vf] w (SOutI g cap n (rot a m b f) F B w0) := by
  have hnl : (n : Int) ≤ 1000000 := by omega
  have H0 := Lib.hid (And.intro h hS)
  clear h hS
  go_enter Try.func56, Try.ntmps56
  go_wp2_with fail
  go_loopg [10, 11] (b - a) (fun M s10 s11 wr => ∃ i j : Nat, 1 ≤ i ∧ 1 ≤ j ∧ i + j ≤ M ∧ i ≤ m ∧ m + j ≤ n ∧ s10 = .int .i64 (i : Int) ∧ s11 = .int .i64 (j : Int) ∧ ∃ (h : Nat → Nat) (c : List (Nat × Obj)), Hid (rot (m - i) m (m + j) h = rot a m b f ∧ RowSI g cap n h c ∧ St B w0 wr (c :: F)))
  case atStart => exact ⟨m - a, b - m, by omega, by omega, by omega, by omega, by omega, by congr 1; omega, by congr 1; omega, f, c, Lib.hid ⟨by rw [show m - (m - a) = a from by omega, show m + (b - m) = b from by omega], H0.out⟩⟩
  case round =>
    obtain ⟨i, j, hi1, hj1, hM, him, hjn, rfl, rfl, h, c1, HQ⟩ := hrel
    rcases Nat.lt_trichotomy i j with q | q | q
    · have q1 : ((i : Int) != (j : Int)) = true := by simp; omega
      have q2 : ¬ (j : Int) < (i : Int) := by omega
      go_wp2_with fail
      refine (swapI_int (m - i) (m + j - i) i _ _ _ (by omega) (by omega) rfl vf HQ.out.2.1 HQ.out.2.2 (by omega) (by omega) hn).mono ?_
      rintro e w2 ⟨rfl, c2, hr2, hS2⟩
      have HF : Hid (rot (m - i) m (m + (j - i)) (swr (m - i) (m + j - i) i h) = rot a m b f ∧ RowSI g cap n (swr (m - i) (m + j - i) i h) c2 ∧ St B w0 w2 (c2 :: F)) := Lib.hid ⟨by rw [rot_right m i j h him q]; exact HQ.out.1, hr2, hS2⟩
      clear hr2 hS2 HQ
      go_wp2_with fail
      cases gk with
      | zero => omega
      | succ M =>
        go_roundg (j)
        case measure => omega
        case rel => exact ⟨i, j - i, by omega, by omega, by omega, by omega, by omega, rfl, by congr 1; omega, _, c2, HF⟩
    · subst q
      have q1 : ((i : Int) != (i : Int)) = false := by simp
      go_wp2_with fail
      refine (swapI_int (m - i) m i _ _ _ (by omega) rfl rfl vf HQ.out.2.1 HQ.out.2.2 (by omega) (by omega) hn).mono ?_
      rintro e w2 ⟨rfl, c2, hr2, hS2⟩
      rw [rot_end m i h him, HQ.out.1] at hr2
      clear HQ
      go_wp2_with fail
      go_end0
      exact ⟨rfl, c2, hr2, hS2⟩
    · have q1 : ((i : Int) != (j : Int)) = true := by simp; omega
      have q2 : (j : Int) < (i : Int) := by omega
      go_wp2_with fail
      refine (swapI_int (m - i) m j _ _ _ (by omega) rfl rfl vf HQ.out.2.1 HQ.out.2.2 (by omega) (by omega) hn).mono ?_
      rintro e w2 ⟨rfl, c2, hr2, hS2⟩
      have HF : Hid (rot (m - (i - j)) m (m + j) (swr (m - i) m j h) = rot a m b f ∧ RowSI g cap n (swr (m - i) m j h) c2 ∧ St B w0 w2 (c2 :: F)) := Lib.hid ⟨by rw [rot_left m i j h him q]; exact HQ.out.1, hr2, hS2⟩
      clear hr2 hS2 HQ
      go_wp2_with fail
      cases gk with
      | zero => omega
      | succ M =>
        go_roundg (i)
        case measure => omega
        case rel => exact ⟨i - j, j, by omega, by omega, by omega, by omega, by omega, by congr 1; omega, rfl, _, c2, HF⟩
end
end Go.Proofs.Ytdhnmcdgiddhdab
