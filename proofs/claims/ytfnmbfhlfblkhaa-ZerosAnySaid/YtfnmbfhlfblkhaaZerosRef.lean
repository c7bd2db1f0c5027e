/-
  Contract of the reference's Unzeros.
-/
import Derived.Test.YtfnmbfhlfblkhaaZeros
import Derived.Test.YtfnmbfhlfblkhaaPureZeros
set_option linter.unusedVariables false
set_option linter.unusedSimpArgs false
namespace Go.Proofs.Ytfnmbfhlfblkhaa
open Go.RowKit
set_option maxRecDepth 100000
theorem wrap_two (rn N M : Nat) (h : rn + N ≤ M) (hM : (M : Int) ≤ 1099511600000) : wrap64 ((rn : Int) + wrap64 (N : Int)) = ((rn + N : Nat) : Int) := by
  rw [IntWalk.wrap64_in (N : Int) (by omega), IntWalk.wrap64_in _ (by omega)]
  simp
section
set_option maxHeartbeats 4000000 in
theorem unzeros_nat (v : Value) (l : List Int) (most : Int) (M : Nat) (w : World) (h : Rd w 1 v l.length (iv l)) (hn : l.length ≤ 1099511600000) (hM : most < 0 ∧ M = 0 ∨ ¬ most < 0 ∧ most = (M : Int)) (hMl : (M : Int) ≤ 1099511600000) :
    Calls Try.prog 17 #[v, .int .i64 most] w fun e w' => ∃ u, e = .returned (.tuple #[u, .int .i64 (dec M l [] 1).2]) ∧ ∃ c, RowC 5 1 u (dec M l [] 1).1.length (bv (dec M l [] 1).1) c ∧ St w.heap.size w w' [c] := by
  obtain ⟨i0, i0a, i0b, i0c, i0d⟩ := info_parts infoU8
  obtain ⟨ao, cap, rfl⟩ := h.shape
  have hS := (St.init w).one_nil
  have hnl : (l.length : Int) ≤ 1099511600000 := by omega
  go_enter Try.func17, Try.ntmps17
  go_upto_if 12 with (fail)
  go_cut [1] (fun s1 wr => s1 = .int .i64 (M : Int) ∧ w = wr)
  case first =>
    rcases hM with ⟨hneg, rfl⟩ | ⟨hneg, rfl⟩
    · go_wp2_with fail
      go_meet
      case rel => exact ⟨rfl, rfl⟩
    · go_wp2_with fail
      go_meet
      case rel => exact ⟨rfl, rfl⟩
  case rest =>
    obtain ⟨rfl, rfl⟩ := hcut
    clear hM
    go_wp2_with fail
    go_loopg [6, 7, 8, 9] l.length (fun m s6 s7 s8 s9 wr => ∃ i rn wth : Nat, i + m = l.length ∧ s9 = .int .i64 (i : Int) ∧ s7 = .int .i64 (rn : Int) ∧ s8 = .int .i64 (wth : Int) ∧ ∃ b c, Hid (dec M (l.drop i) (b ++ List.replicate rn 0) wth = dec M l [] 1 ∧ b.length + rn ≤ M ∧ 1 ≤ wth ∧ wth ≤ 2 * M + 1) ∧ RowC 5 1 s6 b.length (bv b) c ∧ St w.heap.size w wr [c])
    case atStart => exact ⟨0, 0, 1, by omega, rfl, rfl, rfl, [], [], ⟨rfl, by simp, by omega, by omega⟩, RowC.nil _ _, hS⟩
    case round =>
      clear hS
      obtain ⟨i, rn, wth, hi, rfl, rfl, rfl, b, c, HK, hr, hS⟩ := hrel
      obtain ⟨ao2, cap2, rfl⟩ := hr.shape
      cases gk with
      | zero =>
        obtain rfl : i = l.length := by omega
        clear hi
        have hk := HK.out.1
        rw [List.drop_length, dec] at hk
        have HQ := Lib.hid hk
        clear hk
        go_wp2_with fail
        go_ret2
        rw [← HQ.out]
        exact ⟨_, rfl, [], RowC.nil _ _, hS.pick [] (by simp) [] rfl |>.one_nil⟩
      | succ m =>
        have hlt : i < l.length := by omega
        obtain ⟨x, hx⟩ : ∃ x, l[i]? = some x := ⟨_, List.getElem?_eq_getElem hlt⟩
        obtain ⟨ad, rfl, hcell⟩ := (h.keep hS.below).at (iv_get l i x hx)
        have hd : l.drop i = x :: l.drop (i + 1) := by rw [List.drop_eq_getElem_cons hlt]; congr 1; exact (List.getElem?_eq_some_iff.1 hx).2
        have hk := HK.out
        rw [hd] at hk
        obtain ⟨hk, hbM, hw1, hw2⟩ := hk
        have hblen : (b.length : Int) + rn ≤ M := by omega
        have hlz : (b ++ List.replicate rn (0 : UInt8)).length = b.length + rn := by simp
        clear hd hx HK
        have hne : l.drop (i + 1) ≠ [] ↔ ¬ (i : Int) = (l.length : Int) - 1 := by
          rw [Ne, List.drop_eq_nil_iff]; omega
        by_cases q1 : x < 0
        · rw [dec_bad (.inl q1)] at hk
          have HQ := Lib.hid hk
          clear hk hne
          go_wp2_with fail
          go_ret2
          rw [← HQ.out]
          exact ⟨_, rfl, [], RowC.nil _ _, hS.pick [] (by simp) [] rfl |>.one_nil⟩
        by_cases q2 : 257 < x
        · rw [dec_bad (.inr (.inl q2))] at hk
          have HQ := Lib.hid hk
          clear hk hne
          go_wp2_with fail
          go_ret2
          rw [← HQ.out]
          exact ⟨_, rfl, [], RowC.nil _ _, hS.pick [] (by simp) [] rfl |>.one_nil⟩
        by_cases q3 : x = 257
        · subst q3
          by_cases q4 : (i : Int) = (l.length : Int) - 1
          · have e : l.drop (i + 1) = [] := by rw [List.drop_eq_nil_iff]; omega
            rw [e, dec_end] at hk
            have HQ := Lib.hid hk
            clear hk hne e q1 q2
            have q5 : ((i : Int) == (l.length : Int) - 1) = true := by simp; omega
            have q6 : ((i : Int) != (l.length : Int) - 1) = false := by simp; omega
            clear q4
            go_wp2_with (at_builtin; (refine wpList_app0 0 24 3 i0 (.int .u8 0) .i64 .i64 rn _ _ rfl rfl _ rfl rfl Try.underlying24 Try.underlying3 i0a i0b i0c i0d rfl rfl rfl hS rfl hr ?_ ?_ ?_); (unfold maxLen; omega); omega; intro v2 c2 w2 hr2 hs2)
            go_ret2
            rw [← HQ.out]
            refine ⟨_, rfl, c2, ?_, hs2⟩
            rw [bv_append, bv_zeros, List.length_append, List.length_replicate]
            exact hr2
          · rw [dec_bad (.inr (.inr ⟨rfl, hne.2 q4⟩))] at hk
            have HQ := Lib.hid hk
            clear hk hne q1 q2
            go_wp2_with fail
            go_ret2
            rw [← HQ.out]
            exact ⟨_, rfl, [], RowC.nil _ _, hS.pick [] (by simp) [] rfl |>.one_nil⟩
        clear hne
        by_cases q4 : 1 < x
        · by_cases q5 : (M : Int) ≤ (b.length : Int) + rn
          · rw [dec_full q4 (by omega) (by omega)] at hk
            have HQ := Lib.hid hk
            clear hk
            go_wp2_with ((at_builtin; (refine wpList_app0 0 24 3 i0 (.int .u8 0) .i64 .i64 rn _ _ rfl rfl _ rfl rfl Try.underlying24 Try.underlying3 i0a i0b i0c i0d rfl rfl rfl hS rfl hr ?_ ?_ ?_); (unfold maxLen; omega); omega; intro v2 c2 w2 hr2 hs2); obtain ⟨ao3, cap3, rfl⟩ := hr2.shape)
            go_ret2
            rw [← HQ.out]
            exact ⟨_, rfl, [], RowC.nil _ _, hs2.pick [] (by simp) [] rfl |>.one_nil⟩
          · rw [dec_byte q4 (by omega) (by omega)] at hk
            have HQ := Lib.hid hk
            clear hk
            go_wp2_with (first | ((at_builtin; (refine wpList_app0 0 24 3 i0 (.int .u8 0) .i64 .i64 rn _ _ rfl rfl _ rfl rfl Try.underlying24 Try.underlying3 i0a i0b i0c i0d rfl rfl rfl hS rfl hr ?_ ?_ ?_); (unfold maxLen; omega); omega; intro v2 c2 w2 hr2 hs2); obtain ⟨ao3, cap3, rfl⟩ := hr2.shape) | (at_builtin; (refine wpList_app1 0 24 i0 (.int .u8 0) _ _ _ rfl rfl rfl rfl Try.underlying24 i0a i0b i0c i0d rfl hs2 rfl hr2 rfl ?_ ?_ ?_); (unfold maxLen; omega); omega; intro v3 c3 w3 hr3 hs3))
            go_roundg m
            case measure => omega
            case rel =>
              refine ⟨i + 1, 0, 1, by omega, by go_num, by go_num, by go_num, b ++ List.replicate rn 0 ++ [UInt8.ofNat (x - 1).toNat], c3, ⟨by simpa using HQ.out, by simp; omega, by omega, by omega⟩, ?_, hs3⟩
              have e : ((UInt8.ofNat (x - 1).toNat).toNat : Int) = x - 1 := by simp only [UInt8.toNat_ofNat']; omega
              have e2 : bv [UInt8.ofNat (x - 1).toNat] = [.int .u8 (x - 1)] := congrArg (fun z => [Value.int .u8 z]) e
              rw [bv_append, bv_append, bv_zeros, e2, List.length_append, hlz]
              exact hr3
        · obtain ⟨d, rfl⟩ : ∃ d : Nat, x = (d : Int) := ⟨x.toNat, by omega⟩
          have hd1 : d = 0 ∨ d = 1 := by omega
          have hwp : (0 : Int) < wth := by omega
          have hquo : ((M : Int) - b.length - rn) / wth < (d : Int) + 1 ↔ M - (b ++ List.replicate rn (0 : UInt8)).length < wth * (d + 1) := by
            rw [hlz, Int.ediv_lt_iff_lt_mul hwp]
            have e : ((d : Int) + 1) * (wth : Int) = ((wth * (d + 1) : Nat) : Int) := by rw [Int.mul_comm]; simp
            rw [e]
            omega
          have hq0 : 0 ≤ ((M : Int) - b.length - rn) / wth := Int.ediv_nonneg (by omega) (by omega)
          have hqM : ((M : Int) - b.length - rn) / wth ≤ (M : Int) - b.length - rn := Int.ediv_le_self _ (by omega)
          by_cases q5 : M - (b ++ List.replicate rn (0 : UInt8)).length < wth * (d + 1)
          · rw [dec_great (by omega) (by omega) (by simpa using q5)] at hk
            have HQ := Lib.hid hk
            have q6 := hquo.2 q5
            clear hk hquo q5
            go_wp2_with fail
            go_ret2
            rw [← HQ.out]
            exact ⟨_, rfl, [], RowC.nil _ _, hS.pick [] (by simp) [] rfl |>.one_nil⟩
          · rw [dec_run (by omega) (by omega) (by simpa using q5)] at hk
            have HQ := Lib.hid hk
            have q6 : ¬ ((M : Int) - b.length - rn) / wth < (d : Int) + 1 := fun e => q5 (hquo.1 e)
            have q7 : b.length + rn + wth * (d + 1) ≤ M := by rw [hlz] at q5; omega
            
            have HR := Lib.hid (show rn + wth * (d + 1) ≤ M by omega)
            clear hk hquo q5
            have q8 : ((wth * (d + 1) : Nat) : Int) ≤ M := by omega
            have q9 : wth ≤ wth * (d + 1) := Nat.le_mul_of_pos_right _ (by omega)
            go_wp2_with fail
            go_roundg m
            case measure => omega
            case rel =>
              refine ⟨i + 1, rn + wth * (d + 1), wth * 2, by omega, by go_num, ?_, by go_num, b, c, ⟨?_, by omega, by omega, by omega⟩, hr, hS⟩
              · rw [show ((d : Int) + 1) * (wth : Int) = ((wth * (d + 1) : Nat) : Int) from by rw [Int.mul_comm]; simp]
                rw [wrap_two rn (wth * (d + 1)) M HR.out hMl]
              · rw [← HQ.out, List.append_assoc, List.replicate_append_replicate]; simp
end
end Go.Proofs.Ytfnmbfhlfblkhaa
