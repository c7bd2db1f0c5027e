/-
  The walk of LengthsSteep.
-/
import Derived.Test.YtmjkacfhhnnlnaaLLengthsOrder
set_option linter.unusedVariables false
set_option linter.unusedSimpArgs false
namespace Go.Proofs.Ytmjkacfhhnnlnaa
open Go.RowKit
set_option maxRecDepth 100000
theorem lens_in {f : List Int} (h : badL f = false) {i : Nat} {x : Int} (hx : f[i]? = some x) (h0 : 0 < x) : ((1 : Int) ≤ ((lenP (fN f) i : Nat) : Int)) ∧ ((lenP (fN f) i : Nat) : Int) ≤ 15 := by
  obtain ⟨g1, g2, g3⟩ := good_small h
  have e1 := fN_get f i x hx
  have := lenP_bounds (F := fN f) (by rw [fN_length]; exact g2) (s := i) (by rw [e1]; omega)
  omega
set_option maxHeartbeats 4000000 in
theorem LengthsSteep_walk (w : World) (n : Int) (wf : (Lit.int .i64 n).wf = true) (first : Int) (wf2 : (Lit.int .i64 first).wf = true) :
    Calls Try.prog 4 #[.int .i64 n, .int .i64 first] w fun e w' => e = .returned (.bool true) ∧ Below w.heap.size w w' := by
  obtain ⟨i0, i0a, i0b, i0c, i0d⟩ := info_parts infoL
  go_enter Try.func4, Try.ntmps4
  go_wp2_with fail
  refine (begun6 _).mono ?_
  rintro e w1 ⟨rfl, hb⟩
  by_cases q1 : n < 0
  · go_wp2_with fail
    go_ret
    exact ⟨rfl, hb⟩
  by_cases q2 : 40 < n
  · go_wp2_with fail
    go_ret
    exact ⟨rfl, hb⟩
  by_cases q3 : first < 1
  · go_wp2_with fail
    go_ret
    exact ⟨rfl, hb⟩
  by_cases q4 : 100 < first
  · go_wp2_with fail
    go_ret
    exact ⟨rfl, hb⟩
  have hS1 := ((St.init w).mono hb).one_nil
  clear hb
  obtain ⟨N, rfl⟩ := Int.eq_ofNat_of_zero_le (show 0 ≤ n by omega)
  have hN : N ≤ 40 := by omega
  have hNi : (N : Int) ≤ 40 := by omega
  have HFI : Hid (1 ≤ first ∧ first ≤ 100) := Lib.hid (by omega)
  clear wf wf2
  go_wp2_with fail
  go_loopg [6, 7, 8, 9] N (fun m s6 s7 s8 s9 wr => ∃ i : Nat, i + m = N ∧ s9 = .int .i64 (i : Int) ∧ (∃ a b : Int, s7 = .int .i64 a ∧ s8 = .int .i64 b ∧ 1 ≤ a ∧ a ≤ 1073741824 ∧ 1 ≤ b ∧ b ≤ 1073741824) ∧ ∃ (l : List Int) (c : List (Nat × Obj)), RowC 2 1 s6 i (iv l) c ∧ St w.heap.size w wr [c] ∧ l.length = i ∧ Hid (∀ x ∈ l, 1 ≤ x ∧ x ≤ 1073741824))
  case atStart => exact ⟨0, by omega, rfl, ⟨first, first, rfl, rfl, by have := HFI.out; omega, by have := HFI.out; omega, by have := HFI.out; omega, by have := HFI.out; omega⟩, [], [], RowC.nil 2 1, hS1, rfl, Lib.hid (by simp)⟩
  case round =>
    clear hS1
    obtain ⟨i, hi, rfl, ⟨a, b, rfl, rfl, a1, a2, b1, b2⟩, l, c, hr, hS, hl, HL⟩ := hrel
    obtain ⟨ao6, cap6, rfl⟩ := hr.shape
    have HLL := Lib.hid hl
    clear hl
    cases gk with
    | succ m =>
      have hif : (i : Int) < (N : Int) := by omega
      have r1 : IntKind.i64.wrap (a + b) = a + b := IntWalk.i64_in _ (by omega)
      have HNEW : Hid (iv l ++ [.int .i64 a] = iv (l ++ [a]) ∧ (l ++ [a]).length = i + 1 ∧ ∀ x ∈ l ++ [a], 1 ≤ x ∧ x ≤ 1073741824) := Lib.hid ⟨iv_snoc l a, by simp [HLL.out], by
        intro x hx
        rcases List.mem_append.1 hx with hx | hx
        · exact HL.out x hx
        · simp at hx; omega⟩
      by_cases q : 1073741824 < a + b
      · go_wp2_with (at_builtin; (refine wpList_app1 0 22 i0 (.int .i64 0) _ _ _ rfl rfl rfl rfl Try.underlying22 i0a i0b i0c i0d rfl hS rfl hr rfl ?_ ?_ ?_); (unfold maxLen; omega); omega; intro v1 c1 w5 hr1 hS5)
        go_roundg m
        case measure => omega
        case rel =>
          rw [HNEW.out.1] at hr1
          exact ⟨i + 1, by omega, by go_num, ⟨b, 1073741824, rfl, rfl, b1, b2, by omega, by omega⟩, l ++ [a], c1, hr1, hS5, HNEW.out.2.1, Lib.hid HNEW.out.2.2⟩
      · go_wp2_with (at_builtin; (refine wpList_app1 0 22 i0 (.int .i64 0) _ _ _ rfl rfl rfl rfl Try.underlying22 i0a i0b i0c i0d rfl hS rfl hr rfl ?_ ?_ ?_); (unfold maxLen; omega); omega; intro v1 c1 w5 hr1 hS5)
        go_roundg m
        case measure => omega
        case rel =>
          rw [HNEW.out.1] at hr1
          exact ⟨i + 1, by omega, by go_num, ⟨b, a + b, rfl, by first | rfl | simp, b1, b2, by omega, by omega⟩, l ++ [a], c1, hr1, hS5, HNEW.out.2.1, Lib.hid HNEW.out.2.2⟩
    | zero =>
      obtain rfl : i = N := by omega
      have hz : ¬ (i : Int) < (i : Int) := by omega
      obtain rfl := HLL.out
      have hgood : badL l = false := bad_of (by omega) (fun x hx => by have := HL.out x hx; omega)
      obtain ⟨g1, g2, g3⟩ := good_small hgood
      have HG := Lib.hid (And.intro g1 (And.intro (lens_small g2 l.length) hgood))
      clear hi HLL a1 a2 b1 b2 q1 q2 q3 q4 HFI hgood g1 g2 g3
      have HR := Lib.hid (And.intro hr hS)
      clear hr hS
      go_wp2_with fail
      refine (of_any l _ wr (by omega) (HR.out.1.rd HR.out.2 0 rfl)).mono ?_
      rintro e w2 (⟨hbad, _⟩ | ⟨_, v2, c2, rfl, hr2, hS2⟩)
      · rw [HG.out.2.2] at hbad; cases hbad
      obtain ⟨ao2, cap2, rfl⟩ := hr2.shape
      have hS3 := HR.out.2.join hS2
      have H2 := Lib.hid (And.intro hr2 hS3)
      have HB := Lib.hid (hr2.rd hS3 0 rfl)
      have hq : ((l.length : Int) != (l.length : Int)) = false := by simp
      clear hr2 hS2 hS3
      go_wp2_with fail
      go_loopg [12] l.length (fun m s12 wx => ∃ k : Nat, k + m = l.length ∧ s12 = .int .i64 (k : Int) ∧ w2 = wx)
      case atStart => exact ⟨0, by omega, rfl, rfl⟩
      case round =>
        obtain ⟨k, hk, rfl, rfl⟩ := hrel
        cases gk with
        | succ m =>
          have hki : (k : Int) < (l.length : Int) := by omega
          obtain ⟨x, hx⟩ : ∃ x, l[k]? = some x := ⟨_, List.getElem?_eq_getElem (by omega)⟩
          have hx0 := HL.out x (List.mem_of_getElem? hx)
          obtain ⟨k1, k2⟩ := lens_in HG.out.2.2 hx (by omega)
          obtain ⟨ad2, rfl, hc2⟩ := HB.out.at (iv_get _ k _ (mkI_get _ _ k (by omega)))
          clear hx hx0
          generalize ((lenP (fN l) k : Nat) : Int) = z at *
          go_wp2_with fail
          go_roundg m
          case measure => omega
          case rel => exact ⟨k + 1, by omega, by go_num, rfl⟩
        | zero =>
          obtain rfl : k = l.length := by omega
          have hz : ¬ (l.length : Int) < (l.length : Int) := by omega
          clear hk
          go_wp2_with fail
          refine (refcost_any _ _ l (mkI (fun s => (lenP (fN l) s : Int)) l.length) _ (HR.out.1.rd H2.out.2 1 rfl) (by rw [mkI_length]; exact HB.out) HG.out.1 HG.out.2.1).mono ?_
          rintro e w4 ⟨rfl, hd⟩
          have HS4 := Lib.hid (H2.out.2.Drew hd)
          clear hd
          rw [cost_least HG.out.2.2]
          go_wp2_with fail
          refine (least_any l _ _ HG.out.2.2 (HR.out.1.rd HS4.out 1 rfl)).mono ?_
          rintro e w5 ⟨rfl, hb⟩
          have HS5 := Lib.hid (HS4.out.mono hb).below
          generalize ((leastP (fN l) : Nat) : Int) = z at *
          go_wp2_with fail
          go_ret
          exact ⟨by simp, HS5.out⟩
end Go.Proofs.Ytmjkacfhhnnlnaa
