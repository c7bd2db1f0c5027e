/-
  Contract of zeros.Decode.
-/
import Derived.Test.YtfnmbfhlfblkhaaZeros
import Derived.Test.YtfnmbfhlfblkhaaPureZeros
set_option linter.unusedVariables false
set_option linter.unusedSimpArgs false
namespace Go.Proofs.Ytfnmbfhlfblkhaa
open Go.RowKit
set_option maxRecDepth 100000
section
attribute [local go_sem] max2_ints max_of_two
set_option maxHeartbeats 4000000 in
theorem decode_any (v : Value) (l : List Int) (most : Int) (w : World) (h : Rd w 1 v l.length (iv l)) (hn : l.length ≤ 1099511600000) (hm : most ≤ 1099511600000) :
    Calls Try.prog 16 #[v, .int .i64 most] w fun e w' => ∃ u, e = .returned (.tuple #[u, .int .i64 (dec most.toNat l [] 1).2]) ∧ ∃ c, RowC 5 1 u (dec most.toNat l [] 1).1.length (bv (dec most.toNat l [] 1).1) c ∧ St w.heap.size w w' [c] := by
  obtain ⟨i0, i0a, i0b, i0c, i0d⟩ := info_parts infoU8
  obtain ⟨ao, cap, rfl⟩ := h.shape
  have hS := (St.init w).one_nil
  have hnl : (l.length : Int) ≤ 1099511600000 := by omega
  obtain ⟨M, hM⟩ : ∃ M : Nat, M = most.toNat := ⟨_, rfl⟩
  have hmax : (if most < 0 then 0 else most) = (M : Int) := by split <;> omega
  rw [← hM]
  have hMl : (M : Int) ≤ 1099511600000 := by omega
  clear hM
  go_enter Try.func16, Try.ntmps16
  go_wp2_with fail
  go_loopg [6, 7, 14] l.length (fun m s6 s7 s14 wr => ∃ i wth : Nat, i + m = l.length ∧ s14 = .int .i64 (i : Int) ∧ s7 = .int .i64 (wth : Int) ∧ ∃ b c, Hid (dec M (l.drop i) b wth = dec M l [] 1 ∧ b.length ≤ M ∧ 1 ≤ wth ∧ wth ≤ 2 * M + 1) ∧ RowC 5 1 s6 b.length (bv b) c ∧ St w.heap.size w wr [c])
  case atStart => exact ⟨0, 1, by omega, rfl, rfl, [], [], ⟨rfl, by simp, by omega, by omega⟩, RowC.nil _ _, hS⟩
  case round =>
    clear hS
    obtain ⟨i, wth, hi, rfl, rfl, b, c, HK, hr, hS⟩ := hrel
    obtain ⟨ao2, cap2, rfl⟩ := hr.shape
    cases gk with
    | zero =>
      obtain rfl : i = l.length := by omega
      clear hi
      have hk := HK.out.1
      rw [List.drop_length, dec] at hk
      have HQ := Lib.hid hk
      clear hk
      go_wp2_with fail
      go_ret2
      rw [← HQ.out]
      exact ⟨_, rfl, [], RowC.nil _ _, hS.pick [] (by simp) [] rfl |>.one_nil⟩
    | succ m =>
      have hlt : i < l.length := by omega
      obtain ⟨x, hx⟩ : ∃ x, l[i]? = some x := ⟨_, List.getElem?_eq_getElem hlt⟩
      obtain ⟨ad, rfl, hcell⟩ := (h.keep hS.below).at (iv_get l i x hx)
      have hd : l.drop i = x :: l.drop (i + 1) := by rw [List.drop_eq_getElem_cons hlt]; congr 1; exact (List.getElem?_eq_some_iff.1 hx).2
      have hk := HK.out
      rw [hd] at hk
      obtain ⟨hk, hbM, hw1, hw2⟩ := hk
      have hblen : (b.length : Int) ≤ M := by omega
      clear hd hx HK
      have hne : l.drop (i + 1) ≠ [] ↔ (i : Int) < (l.length : Int) - 1 := by
        rw [Ne, List.drop_eq_nil_iff]; omega
      by_cases q1 : x < 0
      · rw [dec_bad (.inl q1)] at hk
        have HQ := Lib.hid hk
        clear hk hne
        go_wp2_with fail
        go_ret2
        rw [← HQ.out]
        exact ⟨_, rfl, [], RowC.nil _ _, hS.pick [] (by simp) [] rfl |>.one_nil⟩
      by_cases q2 : 257 < x
      · rw [dec_bad (.inr (.inl q2))] at hk
        have HQ := Lib.hid hk
        clear hk hne
        go_wp2_with fail
        go_ret2
        rw [← HQ.out]
        exact ⟨_, rfl, [], RowC.nil _ _, hS.pick [] (by simp) [] rfl |>.one_nil⟩
      by_cases q3 : x = 257
      · subst q3
        by_cases q4 : (i : Int) < (l.length : Int) - 1
        · rw [dec_bad (.inr (.inr ⟨rfl, hne.2 q4⟩))] at hk
          have HQ := Lib.hid hk
          clear hk hne q1 q2
          go_wp2_with fail
          go_ret2
          rw [← HQ.out]
          exact ⟨_, rfl, [], RowC.nil _ _, hS.pick [] (by simp) [] rfl |>.one_nil⟩
        · have e : l.drop (i + 1) = [] := by rw [List.drop_eq_nil_iff]; omega
          rw [e, dec_end] at hk
          have HQ := Lib.hid hk
          clear hk hne e q1 q2
          go_wp2_with fail
          go_ret2
          rw [← HQ.out]
          exact ⟨_, rfl, c, hr, hS⟩
      clear hne
      by_cases q4 : 1 < x
      · by_cases q5 : (M : Int) ≤ (b.length : Int)
        · rw [dec_full q4 (by omega) (by omega)] at hk
          have HQ := Lib.hid hk
          clear hk
          go_wp2_with fail
          go_ret2
          rw [← HQ.out]
          exact ⟨_, rfl, [], RowC.nil _ _, hS.pick [] (by simp) [] rfl |>.one_nil⟩
        · rw [dec_byte q4 (by omega) (by omega)] at hk
          have HQ := Lib.hid hk
          clear hk
          go_wp2_with (at_builtin; (refine wpList_app1 0 24 i0 (.int .u8 0) _ _ _ rfl rfl rfl rfl Try.underlying24 i0a i0b i0c i0d rfl hS rfl hr rfl ?_ ?_ ?_); (unfold maxLen; omega); omega; intro v2 c2 w2 hr2 hs2)
          go_roundg m
          case measure => omega
          case rel =>
            refine ⟨i + 1, 1, by omega, by go_num, by go_num, b ++ [UInt8.ofNat (x - 1).toNat], c2, ⟨HQ.out, by simp; omega, by omega, by omega⟩, ?_, hs2⟩
            rw [bv_append]
            have e : ((UInt8.ofNat (x - 1).toNat).toNat : Int) = x - 1 := by simp only [UInt8.toNat_ofNat']; omega
            have e2 : bv [UInt8.ofNat (x - 1).toNat] = [.int .u8 (x - 1)] := congrArg (fun z => [Value.int .u8 z]) e
            rw [e2, List.length_append]
            exact hr2
      · obtain ⟨d, rfl⟩ : ∃ d : Nat, x = (d : Int) := ⟨x.toNat, by omega⟩
        have hd1 : d = 0 ∨ d = 1 := by omega
        by_cases q5 : M - b.length < wth * (d + 1)
        · rw [dec_great (by omega) (by omega) (by simpa using q5)] at hk
          have HQ := Lib.hid hk
          clear hk
          have c6 : (M : Int) < wth ∨ ((M : Int) - b.length) / ((d : Int) + 1) < wth := by
            right
            have : M - b.length < wth * (d + 1) := q5
            rcases hd1 with rfl | rfl <;> omega
          clear hd1
          go_wp2_with fail
          all_goals
            go_ret2
            rw [← HQ.out]
            exact ⟨_, rfl, [], RowC.nil _ _, hS.pick [] (by simp) [] rfl |>.one_nil⟩
        · rw [dec_run (by omega) (by omega) (by simpa using q5)] at hk
          have HQ := Lib.hid hk
          clear hk
          rcases hd1 with rfl | rfl
          · go_wp2_with (at_builtin; (refine wpList_app0 0 24 3 i0 (.int .u8 0) .i64 .i64 wth _ _ rfl rfl _ rfl rfl Try.underlying24 Try.underlying3 i0a i0b i0c i0d rfl rfl (by go_num) hS rfl hr ?_ ?_ ?_); (unfold maxLen; omega); omega; intro v2 c2 w2 hr2 hs2)
            go_roundg m
            case measure => omega
            case rel =>
              refine ⟨i + 1, wth * 2, by omega, by go_num, by go_num, b ++ List.replicate wth 0, c2, ⟨by simpa using HQ.out, by simp; omega, by omega, by omega⟩, ?_, hs2⟩
              rw [bv_append, bv_zeros, List.length_append, List.length_replicate]
              exact hr2
          · go_wp2_with (at_builtin; (refine wpList_app0 0 24 3 i0 (.int .u8 0) .i64 .i64 (wth * 2) _ _ rfl rfl _ rfl rfl Try.underlying24 Try.underlying3 i0a i0b i0c i0d rfl rfl (by go_num) hS rfl hr ?_ ?_ ?_); (unfold maxLen; omega); omega; intro v2 c2 w2 hr2 hs2)
            go_roundg m
            case measure => omega
            case rel =>
              refine ⟨i + 1, wth * 2, by omega, by go_num, by go_num, b ++ List.replicate (wth * 2) 0, c2, ⟨by simpa using HQ.out, by simp; omega, by omega, by omega⟩, ?_, hs2⟩
              rw [bv_append, bv_zeros, List.length_append, List.length_replicate]
              exact hr2
end
end Go.Proofs.Ytfnmbfhlfblkhaa