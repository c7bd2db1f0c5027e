/-
  The walk of SuffixOne.
-/
import Derived.Test.YtdgpbgdpdmikaaaSufBegun
set_option linter.unusedVariables false
set_option linter.unusedSimpArgs false
namespace Go.Proofs.Ytdgpbgdpdmikaaa
open Go.RowKit
set_option maxRecDepth 100000
theorem lexlt_rep (c : Nat) : ∀ m n, m < n → lexlt (List.replicate m c) (List.replicate n c) = true
  | 0, n + 1, _ => rfl
  | m + 1, n + 1, h => by
    rw [List.replicate_succ, List.replicate_succ, lexlt_cons]
    exact .inr ⟨rfl, lexlt_rep c m n (by omega)⟩
theorem lcp_rep (c : Nat) : ∀ m n, m ≤ n → lcp (List.replicate n c) (List.replicate m c) = m
  | 0, n, _ => by rw [List.replicate_zero, lcp_nil]
  | m + 1, n + 1, h => by
    rw [List.replicate_succ, List.replicate_succ, lcp_cons, if_pos rfl, lcp_rep c m n (by omega)]
theorem nb_rep (y : UInt8) (n : Nat) : nb (List.replicate n y) = List.replicate n y.toNat := by simp [nb]
theorem sa_rep (y : UInt8) (n : Nat) : IsSA (nb (List.replicate n y)) (List.range n).reverse := by
  rw [nb_rep]
  refine ⟨by rw [List.length_replicate]; exact List.reverse_perm _, ?_⟩
  rw [List.pairwise_reverse]
  refine List.Pairwise.imp_of_mem ?_ List.pairwise_lt_range
  intro a b _ hb hab
  rw [List.mem_range] at hb
  rw [List.drop_replicate, List.drop_replicate]
  exact lexlt_rep _ _ _ (by omega)
theorem rev_at (n i : Nat) (h : i < n) : ch (List.range n).reverse i = n - 1 - i := by
  apply ch_get
  rw [List.getElem?_reverse (by simpa using h), List.length_range, List.getElem?_range (by omega)]
theorem cm_rep (y : UInt8) (n i : Nat) (h : i < n) : cm (nb (List.replicate n y)) (List.range n).reverse i = i := by
  unfold cm
  by_cases h0 : i = 0
  · subst h0; rfl
  · rw [if_neg h0, rev_at n i h, rev_at n (i - 1) (by omega), nb_rep, List.drop_replicate, List.drop_replicate, lcp_rep _ _ _ (by omega)]
    omega
def fillB (y : UInt8) (n i : Nat) : List UInt8 := (List.range n).map fun j => if j < i then y else 0
theorem fillB_length (y : UInt8) (n i : Nat) : (fillB y n i).length = n := by simp [fillB]
theorem fillB_zero (y : UInt8) (n : Nat) : fillB y n 0 = List.replicate n 0 := by
  unfold fillB
  apply List.ext_getElem?
  intro j
  by_cases h : j < n <;> simp [List.getElem?_replicate, h]
theorem fillB_all (y : UInt8) (n : Nat) : fillB y n n = List.replicate n y := by
  unfold fillB
  apply List.ext_getElem?
  intro j
  by_cases h : j < n <;> simp [List.getElem?_replicate, h]
theorem fillB_set (y : UInt8) (n i : Nat) (h : i < n) : (fillB y n i).set i y = fillB y n (i + 1) := by
  unfold fillB
  apply List.ext_getElem?
  intro j
  by_cases hj : j = i
  · subst hj; simp [h]
  · rw [List.getElem?_set_ne (by omega)]
    by_cases h2 : j < n
    · simp [h2]
      by_cases h3 : j < i
      · rw [if_pos h3, if_pos (by omega)]
      · rw [if_neg h3, if_neg (by omega)]
    · simp [h2]
set_option maxHeartbeats 2000000 in
theorem SuffixOne_walk (w : World) (n : Int) (wf : (Lit.int .i64 n).wf = true) (x : Int) (wx : (Lit.int .u8 x).wf = true) :
    Calls Try.prog 13 #[.int .i64 n, .int .u8 x] w fun e w' => e = .returned (.bool true) ∧ Below w.heap.size w w' := by
  obtain ⟨i0, i0a, i0b, i0c, i0d⟩ := info_parts infoU8
  by_cases q1 : n < 0
  · go_enter Try.func13, Try.ntmps13
    go_wp2_with fail
    refine (begun8 _).mono ?_
    rintro e w1 ⟨rfl, hb⟩
    go_wp2_with fail
    go_ret
    exact ⟨rfl, hb⟩
  by_cases q2 : 1500 < n
  · go_enter Try.func13, Try.ntmps13
    go_wp2_with fail
    refine (begun8 _).mono ?_
    rintro e w1 ⟨rfl, hb⟩
    go_wp2_with fail
    go_ret
    exact ⟨rfl, hb⟩
  obtain ⟨N, rfl⟩ := Int.eq_ofNat_of_zero_le (show 0 ≤ n by omega)
  have hN : N ≤ 1500 := by omega
  have hNi : (N : Int) ≤ 1500 := by omega
  have hx : 0 ≤ x ∧ x < 256 := by
    have h := wx
    have h1 : IntKind.u8.min = 0 := rfl
    have h2 : IntKind.u8.max = 255 := rfl
    simp [Lit.wf] at h
    omega
  obtain ⟨y, rfl⟩ : ∃ y : UInt8, x = (y.toNat : Int) := ⟨UInt8.ofNat x.toNat, by
    rw [UInt8.toNat_ofNat']
    omega⟩
  clear q1 wf wx hx
  go_enter Try.func13, Try.ntmps13
  go_wp2_with fail
  refine (begun8 _).mono ?_
  rintro e w1 ⟨rfl, hb⟩
  have hS := (St.init w).mono hb
  clear hb
  go_wp2_with (at_make; (refine wpList_mk (n := N) 37 i0 (.int .u8 0) _ _ rfl rfl _ _ _ _ rfl rfl Try.underlying37 i0a i0b i0c i0d rfl ?_ ?_ ?_ ?_ hS ?_); omega; omega; omega; (unfold maxLen; omega); intro g c1 w2 hr hS1)
  rw [← bv_zeros, ← fillB_zero y] at hr
  have HQ := Lib.hid (And.intro hr hS1)
  clear hr hS1 hS
  go_wp2_with fail
  go_loopg [7] N (fun m s7 wr => ∃ i : Nat, i + m = N ∧ s7 = .int .i64 (i : Int) ∧ ∃ c1, Hid (RowC 5 1 (.slice (some ⟨g, 0, none⟩) N N) N (bv (fillB y N i)) c1 ∧ St w.heap.size w wr [c1]))
  case atStart => exact ⟨0, by omega, rfl, c1, HQ⟩
  case round =>
    clear HQ
    obtain ⟨i, hi, rfl, c1, HQ⟩ := hrel
    have hr := HQ.out.1
    have hS := HQ.out.2
    cases gk with
    | succ m =>
      have hlt : i < N := by omega
      have hil : (i : Int) < (N : Int) := by omega
      have hl := hr.cellAt hS 0 rfl (bv_get _ i _ (List.getElem?_eq_getElem (by rw [fillB_length]; exact hlt)))
      generalize ((fillB y N i)[i]'(by rw [fillB_length]; exact hlt)) = z at hl
      have hf := hr.freeAt hS 0 rfl i
      go_wp2_with fail
      go_roundg m
      case measure => omega
      case rel =>
        obtain ⟨c', hr', hS'⟩ := hr.store hS 0 rfl rfl i (.int .u8 (y.toNat : Int))
        rw [← bv_set, fillB_set y N i hlt] at hr'
        exact ⟨i + 1, by omega, by go_num, c', Lib.hid ⟨hr', hS'⟩⟩
    | zero =>
      obtain rfl : i = N := by omega
      rw [fillB_all] at hr
      have HR := Lib.hid (And.intro hr hS)
      clear hr hS HQ hi
      go_wp2_with fail
      go_ways
      refine (sort_any (List.replicate i y) _ wr (by rw [List.length_replicate]; omega) (by rw [List.length_replicate]; exact HR.out.1.rd HR.out.2 0 rfl)).mono ?_
      rintro e w3 ⟨v3, T, c3, rfl, hr3, _, hS3, hsa⟩
      obtain rfl : T = (List.range i).reverse := hsa.unique (sa_rep y i)
      replace hS3 := HR.out.2.join hS3
      rw [List.length_replicate] at hr3
      obtain ⟨ao3, cap3, rfl⟩ := hr3.shape
      have H3 := Lib.hid (And.intro hr3 hS3)
      clear hr3 hS3 hsa
      go_wp2_with fail
      refine (common_any (List.replicate i y) _ _ _ w3 (by rw [List.length_replicate]; omega) (by rw [List.length_replicate]; exact HR.out.1.rd H3.out.2 1 rfl) (by rw [List.length_replicate]; exact H3.out.1.rd H3.out.2 0 rfl) (sa_rep y i)).mono ?_
      rintro e w4 ⟨v4, c4, rfl, hr4, hS4⟩
      replace hS4 := H3.out.2.join hS4
      rw [List.length_replicate] at hr4
      obtain ⟨ao4, cap4, rfl⟩ := hr4.shape
      have H4 := Lib.hid (And.intro hr4 hS4)
      clear hr4 hS4
      go_wp2_with fail
      go_loopg [10] i (fun m s10 wr => ∃ k : Nat, k + m = i ∧ s10 = .int .i64 (k : Int) ∧ w4 = wr)
      case atStart => exact ⟨0, by omega, rfl, rfl⟩
      case round =>
        obtain ⟨k, hk, rfl, rfl⟩ := hrel
        have hb := H4.out.2.below
        cases gk with
        | zero =>
          obtain rfl : k = i := by omega
          have HB := Lib.hid hb
          clear hb
          go_wp2_with fail
          go_ret
          exact ⟨rfl, HB.out⟩
        | succ m =>
          have hlt : k < i := by omega
          have hkl : (k : Int) < (i : Int) := by omega
          obtain ⟨ad3, rfl, hc3⟩ := (H3.out.1.rd H4.out.2 1 rfl).at (iv_get _ k _ (tI_get _ k (by simpa using hlt)))
          obtain ⟨ad4, rfl, hc4⟩ := (H4.out.1.rd H4.out.2 0 rfl).at (iv_get _ k _ (mkI_get _ _ k (by simpa using hlt)))
          rw [rev_at i k hlt, show ((i - 1 - k : Nat) : Int) = (i : Int) - 1 - (k : Int) from by omega] at hc3
          rw [cm_rep y i k hlt] at hc4
          clear hb
          go_wp2_with fail
          go_roundg m
          case measure => omega
          case rel => exact ⟨k + 1, by omega, by go_num, rfl⟩
end Go.Proofs.Ytdgpbgdpdmikaaa
