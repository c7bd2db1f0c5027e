/-
  Contracts of the reference: Put, Text, Four, Sum, Seal.
-/
import Derived.Test.YthgbkncanoknkaaSg12
set_option linter.unusedVariables false
set_option linter.unusedSimpArgs false
namespace Go.Proofs.Ythgbkncanoknkaa
open Go.RowKit
set_option maxRecDepth 100000
set_option maxHeartbeats 2000000 in
theorem refput1_any (n : Nat) (w : World) (hn : n < 18446744073709551616) : Calls Try.prog 47 #[.int .u64 (n : Int)] w (BytesOut (putN n) w) := by
  obtain ⟨i0, i0a, i0b, i0c, i0d⟩ := info_parts infoU8
  have hS0 := (St.init w).one_nil
  go_enter Try.func47, Try.ntmps47
  go_wp2_with fail
  go_loopg [0, 3] 9 (fun gf s0 s3 wr => ∃ (q : Nat) (out : List UInt8) (c : List (Nat × Obj)), s0 = .int .u64 (q : Int) ∧ RowC 5 1 s3 out.length (bv out) c ∧ St w.heap.size w wr [c] ∧ ∃ f, f = gf ∧ out.length + f = 9 ∧ q < 2 * 128 ^ f ∧ Hid (putN n = out ++ putF f q))
  case atStart => exact ⟨n, [], [], rfl, RowC.nil _ _, hS0, 9, rfl, rfl, by omega, Lib.hid rfl⟩
  case round =>
    clear hS0
    obtain ⟨q, out, c, rfl, hr, hS, f, hgf, hf, hq, HP⟩ := hrel
    obtain ⟨ao3, cap3, rfl⟩ := hr.shape
    by_cases h : 127 < q
    · have hi : (128 : Int) ≤ (q : Int) := by omega
      have hm2 : ((q : Int) % 128 + 128) % 256 = (q : Int) % 128 + 128 := by omega
      have hq9 : 128 ^ f ≤ 128 ^ 9 := Nat.pow_le_pow_right (by omega) (by omega)
      have hwq : IntKind.u64.wrap ((q : Int) / 128) = (q : Int) / 128 := by rw [wrap_u64']; omega
      go_wp2_with (at_builtin; (refine wpList_app1 0 29 i0 (.int .u8 0) _ _ _ rfl rfl rfl rfl Try.underlying29 i0a i0b i0c i0d rfl hS rfl hr rfl ?_ ?_ ?_); (unfold maxLen; omega); omega; intro v1 c1 w3 hr1 hS1)
      subst hgf
      obtain ⟨m, rfl⟩ : ∃ m, f = m + 1 := by
        cases f with
        | zero => simp at hq; omega
        | succ m => exact ⟨m, rfl⟩
      have hu : (UInt8.ofNat (q % 128 + 128)).toNat = q % 128 + 128 := by simp; omega
      have HN : Hid (bv out ++ [.int .u8 ((q : Int) % 128 + 128)] = bv (out ++ [UInt8.ofNat (q % 128 + 128)])) := Lib.hid (by rw [← bv_snoc, hu, show (q : Int) % 128 + 128 = ((q % 128 + 128 : Nat) : Int) from by omega])
      rw [HN.out] at hr1
      go_roundg m
      case measure => omega
      case rel =>
        refine ⟨q / 128, out ++ [UInt8.ofNat (q % 128 + 128)], c1, by first | rfl | (congr 1; omega), by simpa using hr1, hS1, m, rfl, by simp; omega, ?_, Lib.hid ?_⟩
        · rw [Nat.pow_succ] at hq
          omega
        · rw [HP.out, List.append_assoc]
          show out ++ (if 127 < q then _ else _) = _
          rw [if_pos h]
          rfl
    · have hi : ¬ (128 : Int) ≤ (q : Int) := by omega
      have hm : (q : Int) % 256 = (q : Int) := by omega
      have hu : (UInt8.ofNat q).toNat = q := by simp; omega
      have HP2 : Hid (bv out ++ [.int .u8 (q : Int)] = bv (putN n) ∧ (putN n).length = out.length + 1) := Lib.hid (by
        have e : putF f q = [UInt8.ofNat q] := by cases f with
          | zero => rfl
          | succ f => show (if 127 < q then _ else _) = _; rw [if_neg h]
        rw [HP.out, e]
        refine ⟨?_, by simp⟩
        rw [← bv_snoc, hu])
      clear hu
      go_wp2_with (at_builtin; (refine wpList_app1 0 29 i0 (.int .u8 0) _ _ _ rfl rfl rfl rfl Try.underlying29 i0a i0b i0c i0d rfl hS rfl hr rfl ?_ ?_ ?_); (unfold maxLen; omega); omega; intro v1 c1 w3 hr1 hS1)
      go_ret
      exact ⟨v1, c1, rfl, by rw [HP2.out.2, ← HP2.out.1]; exact hr1, hS1⟩
set_option maxHeartbeats 2000000 in
theorem reftext1_any (s : List UInt8) (w : World) (hn : s.length ≤ 1000000) : Calls Try.prog 48 #[.string ⟨s.toArray⟩] w (BytesOut (textP s) w) := by
  obtain ⟨i0, i0a, i0b, i0c, i0d⟩ := info_parts infoU8
  have hw64 : IntKind.u64.wrap (s.length : Int) = (s.length : Int) := by rw [wrap_u64']; omega
  have hsl := strLen s
  go_enter Try.func48, Try.ntmps48
  go_wp2_with fail
  refine (refput1_any s.length w (by omega)).mono ?_
  rintro e w1 ⟨v1, c1, rfl, hr1, hS1⟩
  obtain ⟨ao1, cap1, rfl⟩ := hr1.shape
  have hpl := putN_le s.length
  go_wp2_with ((at_builtin; (refine wpList_appS 0 29 9 i0 _ _ s rfl rfl rfl rfl Try.underlying29 Try.underlying9 i0a i0b i0c i0d hS1 rfl hr1 ?_ ?_ ?_); (unfold maxLen; omega); omega; intro v2 c2 w2 hr2 hS2))
  go_ret
  rw [← bv_append] at hr2
  exact ⟨_, c2, rfl, by unfold textP; rw [List.length_append]; exact hr2, hS2⟩
set_option maxHeartbeats 2000000 in
theorem reffour1_any (n : Nat) (w : World) (hn : n < 4294967296) :
    Calls Try.prog 54 #[.int .u32 (n : Int)] w fun e w' => ∃ v c, e = .returned v ∧ RowC 5 1 v 4 (bv (fourB n)) c ∧ St w.heap.size w w' [c] := by
  go_enter Try.func54, Try.ntmps54
  go_wp2_with fail
  go_ret
  have e : bv (fourB n) = [.int .u8 ((n : Int) % 256), .int .u8 ((n : Int) / 256 % 256), .int .u8 ((n : Int) / 65536 % 256), .int .u8 ((n : Int) / 16777216)] := by
    simp [bv, fourB]
    omega
  refine ⟨_, _, rfl, RowC.fresh (cap := 4) (X := #[.int .u8 ((n : Int) % 256), .int .u8 ((n : Int) / 256 % 256), .int .u8 ((n : Int) / 65536 % 256), .int .u8 ((n : Int) / 16777216)]) w.heap.size _ (by simp [bv, fourB]) (by omega) (by decide) rfl (by rw [e]; rfl), (St.init w).alloc _⟩
set_option maxHeartbeats 2000000 in
theorem refsum1_any (v : Value) (b : List UInt8) (w : World) (h : Rd w 1 v b.length (bv b)) (hn : b.length ≤ 1000000) :
    Calls Try.prog 55 #[v] w fun e w' => e = .returned (.int .u32 (crcP b : Int)) ∧ w = w' := by
  obtain ⟨ao, cap, rfl⟩ := h.shape
  have H0 := Lib.hid h
  clear h
  go_enter Try.func55, Try.ntmps55
  go_wp2_with fail
  go_loopg [3, 4] b.length (fun m s3 s4 wr => ∃ i : Nat, i + m = b.length ∧ s4 = .int .i64 (i : Int) ∧ s3 = .int .u32 (crcL 4294967295 (b.take i) : Int) ∧ w = wr)
  case atStart => exact ⟨0, by omega, rfl, rfl, rfl⟩
  case round =>
    obtain ⟨i, hi, rfl, rfl, rfl⟩ := hrel
    cases gk with
    | zero =>
      obtain rfl : i = b.length := by omega
      rw [List.take_length]
      have hx : crcL 4294967295 b < 4294967296 := crcL_lt (by decide) b
      have HX : Hid (crcP b = 4294967295 - crcL 4294967295 b) := Lib.hid rfl
      generalize crcL 4294967295 b = x at *
      have HNOT := Lib.hid (not32 hx)
      clear hi
      go_wp2_with fail
      go_ret
      exact ⟨by rw [HX.out, ← HNOT.out]; rfl, rfl⟩
    | succ m =>
      have hil : (i : Int) < (b.length : Int) := by omega
      obtain ⟨y, hy⟩ : ∃ y, b[i]? = some y := ⟨_, List.getElem?_eq_getElem (by omega)⟩
      obtain ⟨ad, rfl, hc⟩ := H0.out.at (bv_get b i y hy)
      have HT : Hid (crcL 4294967295 (b.take (i + 1)) = crcS (crcL 4294967295 (b.take i)) y) := Lib.hid (by rw [List.take_add_one, hy, ← crcL_snoc]; rfl)
      have hx : crcL 4294967295 (b.take i) < 4294967296 := crcL_lt (by decide) _
      clear hy
      generalize crcL 4294967295 (b.take i) = x at *
      have hy256 := y.toNat_lt
      have hwy : IntKind.u32.wrap (y.toNat : Int) = (y.toNat : Int) := by rw [wrap_u32']; omega
      have hxy := xor32 (a := x) (b := y.toNat) hx (by omega)
      have hz : x ^^^ y.toNat < 4294967296 := Nat.xor_lt_two_pow (n := 32) hx (by omega)
      have HZ : Hid (crcS x y = crcC (x ^^^ y.toNat) 8) := Lib.hid rfl
      generalize x ^^^ y.toNat = z at *
      go_wp2_with fail
      go_loopg [3, 5] 8 (fun m s3 s5 wr => ∃ (j q : Nat), j + m = 8 ∧ s5 = .int .i64 (j : Int) ∧ s3 = .int .u32 (q : Int) ∧ q < 4294967296 ∧ Hid (crcC q m = crcC z 8) ∧ w = wr)
      case atStart => exact ⟨0, z, by omega, rfl, rfl, hz, Lib.hid rfl, rfl⟩
      case round =>
        obtain ⟨j, q, hj, rfl, rfl, hq, HQ, rfl⟩ := hrel
        cases gk with
        | zero =>
          obtain rfl : j = 8 := by omega
          clear hj
          go_wp2_with fail
          go_roundg m
          case measure => omega
          case rel => exact ⟨i + 1, by omega, by go_num, by rw [HT.out, HZ.out, ← HQ.out]; rfl, rfl⟩
        | succ mm =>
          have hjl : (j : Int) < 8 := by omega
          have hql := crcB_lt hq
          by_cases qo : q % 2 = 1
          · have qoi : ((q : Int) % 2 == 1) = true := by rw [beq_iff_eq]; omega
            have qoj : (q : Int) % 2 = 1 := by omega
            have HCB : Hid (bits .xor .u32 ((q : Int) / 2) 3988292384 = ((crcB q : Nat) : Int)) := Lib.hid (by
              have := xor32 (a := q / 2) (b := 3988292384) (by omega) (by decide)
              rw [show ((q / 2 : Nat) : Int) = (q : Int) / 2 from by omega] at this
              rw [crcB, if_pos qo]
              exact this)
            clear qo
            go_wp2_with fail
            go_roundg mm
            case measure => omega
            case rel => exact ⟨j + 1, crcB q, by omega, by go_num, by rw [HCB.out], hql, Lib.hid (by rw [← HQ.out]; rfl), rfl⟩
          · have qoi : ((q : Int) % 2 == 1) = false := by rw [beq_eq_false_iff_ne]; omega
            have qoj : ¬ (q : Int) % 2 = 1 := by omega
            have HCB : Hid ((q : Int) / 2 = ((crcB q : Nat) : Int)) := Lib.hid (by
              rw [crcB, if_neg qo]
              omega)
            clear qo
            go_wp2_with fail
            go_roundg mm
            case measure => omega
            case rel => exact ⟨j + 1, crcB q, by omega, by go_num, by rw [HCB.out], hql, Lib.hid (by rw [← HQ.out]; rfl), rfl⟩
end Go.Proofs.Ythgbkncanoknkaa
