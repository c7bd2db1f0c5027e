/-
  Contracts of the package zeros: run, Encode.
-/
import Derived.Test.YtfnmbfhlfblkhaaZeros
import Derived.Test.YtfnmbfhlfblkhaaPureZeros
set_option linter.unusedVariables false
set_option linter.unusedSimpArgs false
namespace Go.Proofs.Ytfnmbfhlfblkhaa
open Go.RowKit
set_option maxRecDepth 100000
section
variable {B : Nat} {w0 w : World} {F : List HL} {c : HL}
set_option maxHeartbeats 1000000 in
theorem run_any (v : Value) (n N : Nat) (xs : List Int) (hS : St B w0 w (c :: F)) (hr : RowC 3 1 v n (iv xs) c) (hb : n + N ≤ 1099511627776) :
    Calls Try.prog 35 #[v, .int .i64 (N : Int)] w fun e w' => ∃ v' c', e = .returned v' ∧ RowC 3 1 v' (n + (runL N).length) (iv (xs ++ runL N)) c' ∧ St B w0 w' (c' :: F) := by
  obtain ⟨i0, i0a, i0b, i0c, i0d⟩ := info_parts infoInt
  go_enter Try.func35, Try.ntmps35
  go_wp2_with fail
  go_loopg [0, 1] N (fun m s0 s1 wr => s1 = .int .i64 (m : Int) ∧ ∃ ys c k, Hid (ys ++ runL m = xs ++ runL N ∧ k + (runL m).length = n + (runL N).length ∧ k + m ≤ n + N) ∧ RowC 3 1 s0 k (iv ys) c ∧ St B w0 wr (c :: F))
  case atStart => exact ⟨rfl, xs, c, n, ⟨rfl, rfl, Nat.le_refl _⟩, hr, hS⟩
  case round =>
    clear hS hr
    obtain ⟨rfl, ys, c, k, HK, hr, hS⟩ := hrel
    obtain ⟨ao, cap, rfl⟩ := hr.shape
    rcases Nat.eq_zero_or_pos gk with rfl | hpos
    · have hk := HK.out
      rw [runL_zero, List.append_nil] at hk
      obtain ⟨rfl, hk2, _⟩ := hk
      simp only [List.length_nil, Nat.add_zero] at hk2
      subst hk2
      clear HK
      go_wp2_with fail
      go_ret
      exact ⟨_, c, rfl, hr, hS⟩
    · have hk := HK.out.2.2
      have hpos' : (0 : Int) < gk := by omega
      have hg : (gk : Int) ≤ 1099511627776 := by omega
      go_wp2_with (at_builtin; (refine wpList_app1 0 22 i0 (.int .i64 0) _ _ _ rfl rfl rfl rfl Try.underlying22 i0a i0b i0c i0d rfl hS rfl hr rfl ?_ ?_ ?_); (unfold maxLen; omega); omega; intro v1 c1 w1 hr1 hs1)
      go_roundg ((gk - 1) / 2)
      case measure => omega
      case rel =>
        have h := HK.out
        rw [runL_pos hpos] at h
        refine ⟨?_, ys ++ [1 - ((gk % 2 : Nat) : Int)], c1, k + 1, ⟨?_, ?_, ?_⟩, ?_, hs1⟩
        · go_num
        · rw [List.append_assoc]; exact h.1
        · have := h.2.1; simp only [List.length_cons] at this; omega
        · omega
        · rw [iv_append]
          have e : (2 - (gk : Int) % 2 - 1) = 1 - ((gk % 2 : Nat) : Int) := by omega
          rw [← e]
          exact hr1
theorem encode_any (v : Value) (bs : List UInt8) (w : World) (h : Rd w 1 v bs.length (bv bs)) (hn : bs.length ≤ 1099511600000) :
    Calls Try.prog 18 #[v] w fun e w' => ∃ v' c', e = .returned v' ∧ RowC 3 1 v' (enc bs 0).length (iv (enc bs 0)) c' ∧ St w.heap.size w w' [c'] := by
  obtain ⟨i0, i0a, i0b, i0c, i0d⟩ := info_parts infoInt
  obtain ⟨ao, cap, rfl⟩ := h.shape
  have hS := (St.init w).one_nil
  have hnl : (bs.length : Int) ≤ 1099511600000 := by omega
  go_enter Try.func18, Try.ntmps18
  go_wp2_with fail
  go_loopg [3, 4, 9] bs.length (fun m s3 s4 s9 wr => ∃ i k : Nat, i + m = bs.length ∧ s9 = .int .i64 (i : Int) ∧ s4 = .int .i64 (k : Int) ∧ ∃ ys c, Hid (ys ++ enc (bs.drop i) k = enc bs 0 ∧ ys.length + k ≤ i) ∧ RowC 3 1 s3 ys.length (iv ys) c ∧ St w.heap.size w wr [c])
  case atStart => exact ⟨0, 0, by omega, rfl, rfl, [], [], ⟨rfl, by simp⟩, RowC.nil _ _, hS⟩
  case round =>
    clear hS
    obtain ⟨i, k, hi, rfl, rfl, ys, c, HK, hr, hS⟩ := hrel
    have hki := HK.out.2
    have hki' : (k : Int) ≤ 1099511600000 := by omega
    cases gk with
    | zero =>
      obtain rfl : i = bs.length := by omega
      clear hi
      have hk := HK.out.1
      rw [List.drop_length, enc, ← List.append_assoc] at hk
      have HQ := Lib.hid hk
      clear hk
      go_wp2_with fail
      refine (run_any _ _ k ys hS hr (by omega)).mono ?_
      rintro e w1 ⟨v1, c1, rfl, hr1, hS1⟩
      have hrl := runL_le k
      rw [← List.length_append] at hr1
      have hll : (ys ++ runL k).length ≤ 1099511600000 := by simp; omega
      go_wp2_with (at_builtin; (refine wpList_app1 0 22 i0 (.int .i64 0) _ _ _ rfl rfl rfl rfl Try.underlying22 i0a i0b i0c i0d rfl hS1 rfl hr1 rfl ?_ ?_ ?_); (unfold maxLen; omega); omega; intro v2 c2 w2 hr2 hs2)
      go_ret
      refine ⟨_, c2, rfl, ?_, hs2⟩
      rw [← HQ.out]
      simpa [iv, Nat.add_assoc] using hr2
    | succ m =>
      have hlt : i < bs.length := by omega
      obtain ⟨b, hb⟩ : ∃ b, bs[i]? = some b := ⟨_, List.getElem?_eq_getElem hlt⟩
      obtain ⟨ad, rfl, hcell⟩ := (h.keep hS.below).at (bv_get bs i b hb)
      have hb0 : (b.toNat : Int) ≤ 255 := by have := b.toNat_lt; omega
      have hd : bs.drop i = b :: bs.drop (i + 1) := by rw [List.drop_eq_getElem_cons hlt]; congr 1; exact (List.getElem?_eq_some_iff.1 hb).2
      have hk := HK.out.1
      rw [hd, enc] at hk
      have HQ := Lib.hid hk
      clear hk hd hb
      by_cases hz : b = 0
      · subst hz
        rw [if_pos rfl] at HQ
        go_wp2_with fail
        go_roundg m
        case measure => omega
        case rel => exact ⟨i + 1, k + 1, by omega, by go_num, by go_num, ys, c, ⟨HQ.out, by omega⟩, hr, hS⟩
      · rw [if_neg hz] at HQ
        have hz' : ¬ (b.toNat : Int) = 0 := by
          intro e
          exact hz (UInt8.toNat_inj.1 (by simpa using (show b.toNat = 0 by omega)))
        go_wp2_with fail
        refine (run_any _ _ k ys hS hr (by omega)).mono ?_
        rintro e w1 ⟨v1, c1, rfl, hr1, hS1⟩
        have hrl := runL_le k
        rw [← List.length_append] at hr1
        have hll : (ys ++ runL k).length ≤ 1099511600000 := by simp; omega
        go_wp2_with (at_builtin; (refine wpList_app1 0 22 i0 (.int .i64 0) _ _ _ rfl rfl rfl rfl Try.underlying22 i0a i0b i0c i0d rfl hS1 rfl hr1 rfl ?_ ?_ ?_); (unfold maxLen; omega); omega; intro v2 c2 w2 hr2 hs2)
        go_roundg m
        case measure => omega
        case rel =>
          refine ⟨i + 1, 0, by omega, by go_num, by go_num, ys ++ runL k ++ [(b.toNat : Int) + 1], c2, ⟨?_, by simp; omega⟩, ?_, hs2⟩
          · rw [List.append_assoc, List.append_assoc]; exact HQ.out
          · simpa [iv, Nat.add_assoc] using hr2
end
end Go.Proofs.Ytfnmbfhlfblkhaa
