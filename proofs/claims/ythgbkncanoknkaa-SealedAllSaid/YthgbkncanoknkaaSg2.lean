/-
  Texts joined: Num, NumR, BytesStr, PureBits, Bits, Crc, CrcSeal, Bl, MkF, PureLen, PureLenB.
-/
import Derived.Test.YthgbkncanoknkaaSg1
import Derived.Laws.BitsAllLaws
import Derived.WalkSpells
import Derived.Deep.DeepCutAuto
import Derived.BigQuiet
import Derived.Deep.RegionWith
import Derived.WalkLawsBesides
/-
  Contracts of the package number: Put, Get, step, Num.
-/
set_option linter.unusedVariables false
set_option linter.unusedSimpArgs false
namespace Go.Proofs.Ythgbkncanoknkaa
open Go.RowKit
set_option maxRecDepth 100000
def putF : Nat → Nat → List UInt8
  | 0, n => [UInt8.ofNat n]
  | f + 1, n => if 127 < n then UInt8.ofNat (n % 128 + 128) :: putF f (n / 128) else [UInt8.ofNat n]
def putN (n : Nat) : List UInt8 := putF 9 n
theorem or128 : ∀ x : Nat, x < 256 → bits .or .u8 (x : Int) 128 = ((x % 128 + 128 : Nat) : Int) := by decide +kernel
set_option maxHeartbeats 2000000 in
theorem numput_any (n : Nat) (w : World) (hn : n < 18446744073709551616) : Calls Try.prog 26 #[.int .u64 (n : Int)] w (BytesOut (putN n) w) := by
  obtain ⟨i0, i0a, i0b, i0c, i0d⟩ := info_parts infoU8
  have hS0 := (St.init w).one_nil
  go_enter Try.func26, Try.ntmps26
  go_wp2_with fail
  go_loopg [0, 3] 9 (fun gf s0 s3 wr => ∃ (q : Nat) (out : List UInt8) (c : List (Nat × Obj)), s0 = .int .u64 (q : Int) ∧ RowC 5 1 s3 out.length (bv out) c ∧ St w.heap.size w wr [c] ∧ ∃ f, f = gf ∧ out.length + f = 9 ∧ q < 2 * 128 ^ f ∧ Hid (putN n = out ++ putF f q))
  case atStart => exact ⟨n, [], [], rfl, RowC.nil _ _, hS0, 9, rfl, rfl, by omega, Lib.hid rfl⟩
  case round =>
    clear hS0
    obtain ⟨q, out, c, rfl, hr, hS, f, hgf, hf, hq, HP⟩ := hrel
    obtain ⟨ao3, cap3, rfl⟩ := hr.shape
    by_cases h : 127 < q
    · have hi : (127 : Int) < (q : Int) := by omega
      have ho : bits .or .u8 ((q : Int) % 256) 128 = ((q % 128 + 128 : Nat) : Int) := by
        have := or128 (q % 256) (by omega)
        rw [show (((q % 256 : Nat)) : Int) = (q : Int) % 256 from by omega] at this
        rw [this]
        congr 1
        omega
      go_wp2_with (at_builtin; (refine wpList_app1 0 29 i0 (.int .u8 0) _ _ _ rfl rfl rfl rfl Try.underlying29 i0a i0b i0c i0d rfl hS rfl hr rfl ?_ ?_ ?_); (unfold maxLen; omega); omega; intro v1 c1 w3 hr1 hS1)
      subst hgf
      obtain ⟨m, rfl⟩ : ∃ m, f = m + 1 := by
        cases f with
        | zero => simp at hq; omega
        | succ m => exact ⟨m, rfl⟩
      have hu : (UInt8.ofNat (q % 128 + 128)).toNat = q % 128 + 128 := by simp; omega
      have HN : Hid (bv out ++ [.int .u8 ((q : Int) % 128 + 128)] = bv (out ++ [UInt8.ofNat (q % 128 + 128)])) := Lib.hid (by rw [← bv_snoc, hu, show (q : Int) % 128 + 128 = ((q % 128 + 128 : Nat) : Int) from by omega])
      rw [HN.out] at hr1
      go_roundg m
      case measure => omega
      case rel =>
        refine ⟨q / 128, out ++ [UInt8.ofNat (q % 128 + 128)], c1, by first | rfl | (congr 1; omega), by simpa using hr1, hS1, m, rfl, by simp; omega, ?_, Lib.hid ?_⟩
        · rw [Nat.pow_succ] at hq
          omega
        · rw [HP.out, List.append_assoc]
          show out ++ (if 127 < q then _ else _) = _
          rw [if_pos h]
          rfl
    · have hi : ¬ (127 : Int) < (q : Int) := by omega
      have hm : (q : Int) % 256 = (q : Int) := by omega
      have hu : (UInt8.ofNat q).toNat = q := by simp; omega
      have HP2 : Hid (bv out ++ [.int .u8 (q : Int)] = bv (putN n) ∧ (putN n).length = out.length + 1) := Lib.hid (by
        have e : putF f q = [UInt8.ofNat q] := by cases f with
          | zero => rfl
          | succ f => show (if 127 < q then _ else _) = _; rw [if_neg h]
        rw [HP.out, e]
        refine ⟨?_, by simp⟩
        rw [← bv_snoc, hu])
      clear hu
      go_wp2_with (at_builtin; (refine wpList_app1 0 29 i0 (.int .u8 0) _ _ _ rfl rfl rfl rfl Try.underlying29 i0a i0b i0c i0d rfl hS rfl hr rfl ?_ ?_ ?_); (unfold maxLen; omega); omega; intro v1 c1 w3 hr1 hS1)
      go_ret
      exact ⟨v1, c1, rfl, by rw [HP2.out.2, ← HP2.out.1]; exact hr1, hS1⟩
def updN (n x i : Nat) : Nat := n ||| (x % 128 * 2 ^ (7 * i)) % 18446744073709551616
/-- What is read: the number and how many bytes; 0: none. -/
def getL : List UInt8 → Nat → Nat → Nat × Nat
  | [], _, _ => (0, 0)
  | c :: r, i, n => if 127 < c.toNat then getL r (i + 1) (updN n c.toNat i) else if (0 < i ∧ c.toNat = 0) ∨ (i = 9 ∧ 1 < c.toNat) then (0, 0) else (updN n c.toNat i, i + 1)
def getN (b : List UInt8) : Nat × Nat := getL (b.take 10) 0 0
theorem and127 : ∀ x : Nat, x < 256 → bits .and .u8 (x : Int) 127 = ((x % 128 : Nat) : Int) := by decide +kernel
theorem wrap_u64' (n : Int) : IntKind.u64.wrap n = n % 18446744073709551616 := by simp [IntKind.wrap, IntKind.bits, IntKind.signed]
theorem updN_lt {n x i : Nat} (h : n < 18446744073709551616) : updN n x i < 18446744073709551616 := by
  have e : (18446744073709551616 : Nat) = 2 ^ 64 := by decide
  unfold updN
  rw [e] at *
  exact Nat.or_lt_two_pow h (Nat.mod_lt _ (Nat.two_pow_pos _))
theorem upd_val (n x i : Nat) (hn : n < 18446744073709551616) (hx : x < 256) : bits .or .u64 (n : Int) (IntKind.u64.wrap (IntKind.u64.wrap (bits .and .u8 (x : Int) 127) * 2 ^ (7 * i))) = ((updN n x i : Nat) : Int) := by
  have e1 : IntKind.u64.wrap (bits .and .u8 (x : Int) 127) = ((x % 128 : Nat) : Int) := by rw [and127 x hx, wrap_u64']; omega
  have e2 : IntKind.u64.wrap (((x % 128 : Nat) : Int) * 2 ^ (7 * i)) = (((x % 128 * 2 ^ (7 * i)) % 18446744073709551616 : Nat) : Int) := by
    rw [wrap_u64', show ((x % 128 : Nat) : Int) * 2 ^ (7 * i) = ((x % 128 * 2 ^ (7 * i) : Nat) : Int) from by simp]
    generalize x % 128 * 2 ^ (7 * i) = z
    omega
  rw [e1, e2, u64_or_nat n _ hn (Nat.mod_lt _ (by omega))]
  rfl
set_option maxHeartbeats 4000000 in
theorem numget_any (v : Value) (b : List UInt8) (w : World) (h : Rd w 1 v b.length (bv b)) (hn : b.length ≤ 1000000) :
    Calls Try.prog 42 #[v] w fun e w' => e = .returned (.tuple #[.int .u64 ((getN b).1 : Int), .int .i64 ((getN b).2 : Int)]) ∧ w = w' := by
  obtain ⟨ao, cap, rfl⟩ := h.shape
  obtain ⟨hc1, hc2⟩ := h.cap
  have H0 := Lib.hid h
  have hni : (b.length : Int) ≤ 1000000 := by omega
  clear h
  by_cases q : 10 < b.length
  · have q1 : (10 : Int) < (b.length : Int) := by omega
    have q2 : (10 : Int) ≤ (cap : Int) := by omega
    obtain ⟨t, HT⟩ : ∃ t, Hid (Rd w 1 (.slice ao 10 cap) 10 (bv t) ∧ t.length = 10 ∧ getN b = getL (t.drop 0) 0 0) := ⟨b.take 10, Lib.hid ⟨by
      have := H0.out.take 10 (by omega)
      rwa [Nat.mul_one, show (bv b).take 10 = bv (b.take 10) from by simp [bv, List.map_take]] at this, by rw [List.length_take]; omega, rfl⟩⟩
    have htl := HT.out.2.1
    go_enter Try.func42, Try.ntmps42
    go_wp2_with fail
    go_loopg [4, 13] t.length (fun m s4 s13 wr => ∃ i n : Nat, i + m = t.length ∧ s13 = .int .i64 (i : Int) ∧ s4 = .int .u64 (n : Int) ∧ n < 18446744073709551616 ∧ Hid (getN b = getL (t.drop i) i n) ∧ w = wr)
    case atStart => exact ⟨0, 0, by omega, rfl, rfl, by omega, Lib.hid HT.out.2.2, rfl⟩
    case round =>
      obtain ⟨i, n, hi, rfl, rfl, hn1, HG, rfl⟩ := hrel
      have htl := HT.out.2.1
      cases gk with
      | succ m =>
        have hif : (i : Int) < (10 : Int) := by omega
        have hi9 : i ≤ 9 := by omega
        obtain ⟨x, hx⟩ : ∃ x, t[i]? = some x := ⟨_, List.getElem?_eq_getElem (by omega)⟩
        obtain ⟨ad, rfl, hc⟩ := HT.out.1.at (bv_get t i x hx)
        have hdrop : t.drop i = x :: t.drop (i + 1) := by
          obtain ⟨h1, h2⟩ := List.getElem?_eq_some_iff.1 hx
          rw [List.drop_eq_getElem_cons h1, h2]
        have hx256 : x.toNat < 256 := x.toNat_lt
        have hval := upd_val n x.toNat i hn1 hx256
        have hlt := updN_lt (x := x.toNat) (i := i) hn1
        have HG2 : Hid (getN b = if 127 < x.toNat then getL (t.drop (i + 1)) (i + 1) (updN n x.toNat i) else if (0 < i ∧ x.toNat = 0) ∨ (i = 9 ∧ 1 < x.toNat) then (0, 0) else (updN n x.toNat i, i + 1)) := Lib.hid (by rw [HG.out, hdrop]; rfl)
        clear hx hdrop HG
        generalize updN n x.toNat i = n2 at *
        generalize x.toNat = X at *
        by_cases h : 127 < X
        · have h1 : (127 : Int) < (X : Int) := by omega
          have HN : Hid (getN b = getL (t.drop (i + 1)) (i + 1) n2) := Lib.hid (by rw [HG2.out, if_pos h])
          clear h HG2
          go_wp2_with fail
          go_roundg m
          case measure => omega
          case rel => exact ⟨i + 1, n2, by omega, by go_num, rfl, hlt, HN, rfl⟩
        · have h1 : ¬ (127 : Int) < (X : Int) := by omega
          by_cases hb : (0 < i ∧ X = 0) ∨ (i = 9 ∧ 1 < X)
          · have HN : Hid (getN b = (0, 0)) := Lib.hid (by rw [HG2.out, if_neg h, if_pos hb])
            rcases hb with ⟨b1, b2⟩ | ⟨b1, b2⟩
            · have c1 : (0 : Int) < (i : Int) := by omega
              have c2 : ((X : Int) == 0) = true := by rw [b2]; rfl
              clear h b2 HG2
              go_wp2_with fail
              go_ret2
              exact ⟨by rw [HN.out]; rfl, rfl⟩
            · have c1 : (0 : Int) < (i : Int) := by omega
              have c2 : ((X : Int) == 0) = false := by rw [beq_eq_false_iff_ne]; omega
              have c3 : ((i : Int) == 9) = true := by rw [b1]; rfl
              have c4 : (1 : Int) < (X : Int) := by omega
              clear h b1 b2 HG2
              go_wp2_with fail
              go_ret2
              exact ⟨by rw [HN.out]; rfl, rfl⟩
          · have HN : Hid (getN b = (n2, i + 1)) := Lib.hid (by rw [HG2.out, if_neg h, if_neg hb])
            have hfin : ∀ e, e = Ending.returned (Value.tuple #[.int .u64 (n2 : Int), .int .i64 ((i : Int) + 1)]) → e = Ending.returned (Value.tuple #[.int .u64 ((getN b).1 : Int), .int .i64 ((getN b).2 : Int)]) := fun e he => by rw [he, HN.out]; rfl
            have HFI := Lib.hid hfin
            clear hfin
            by_cases c0 : i = 0
            · have c1 : ¬ (0 : Int) < (i : Int) := by omega
              have c3 : ((i : Int) == 9) = false := by rw [beq_eq_false_iff_ne]; omega
              clear h hb HG2 c0
              go_wp2_with fail
              go_ret2
              exact ⟨HFI.out _ rfl, rfl⟩
            · have c1 : (0 : Int) < (i : Int) := by omega
              have c2 : ((X : Int) == 0) = false := by rw [beq_eq_false_iff_ne]; omega
              by_cases c9 : i = 9
              · have c3 : ((i : Int) == 9) = true := by rw [c9]; rfl
                have c4 : ¬ (1 : Int) < (X : Int) := by omega
                clear h hb HG2 c0 c9
                go_wp2_with fail
                go_ret2
                exact ⟨HFI.out _ rfl, rfl⟩
              · have c3 : ((i : Int) == 9) = false := by rw [beq_eq_false_iff_ne]; omega
                clear h hb HG2 c0 c9
                go_wp2_with fail
                go_ret2
                exact ⟨HFI.out _ rfl, rfl⟩
      | zero =>
        have hz : ¬ (i : Int) < (10 : Int) := by omega
        have HF : Hid (getN b = (0, 0)) := Lib.hid (by rw [HG.out, List.drop_of_length_le (by omega)]; rfl)
        clear hi htl hn1
        go_wp2_with fail
        go_ret2
        exact ⟨by rw [HF.out]; rfl, rfl⟩
  · have q1 : ¬ (10 : Int) < (b.length : Int) := by omega
    obtain ⟨t, HT⟩ : ∃ t, Hid (Rd w 1 (.slice ao b.length cap) b.length (bv t) ∧ t.length = b.length ∧ getN b = getL (t.drop 0) 0 0) := ⟨b, Lib.hid ⟨H0.out, rfl, by unfold getN; rw [List.take_of_length_le (by omega)]; rfl⟩⟩
    have htl := HT.out.2.1
    go_enter Try.func42, Try.ntmps42
    go_wp2_with fail
    go_loopg [4, 13] t.length (fun m s4 s13 wr => ∃ i n : Nat, i + m = t.length ∧ s13 = .int .i64 (i : Int) ∧ s4 = .int .u64 (n : Int) ∧ n < 18446744073709551616 ∧ Hid (getN b = getL (t.drop i) i n) ∧ w = wr)
    case atStart => exact ⟨0, 0, by omega, rfl, rfl, by omega, Lib.hid HT.out.2.2, rfl⟩
    case round =>
      obtain ⟨i, n, hi, rfl, rfl, hn1, HG, rfl⟩ := hrel
      have htl := HT.out.2.1
      cases gk with
      | succ m =>
        have hif : (i : Int) < (b.length : Int) := by omega
        have hi9 : i ≤ 9 := by omega
        obtain ⟨x, hx⟩ : ∃ x, t[i]? = some x := ⟨_, List.getElem?_eq_getElem (by omega)⟩
        obtain ⟨ad, rfl, hc⟩ := HT.out.1.at (bv_get t i x hx)
        have hdrop : t.drop i = x :: t.drop (i + 1) := by
          obtain ⟨h1, h2⟩ := List.getElem?_eq_some_iff.1 hx
          rw [List.drop_eq_getElem_cons h1, h2]
        have hx256 : x.toNat < 256 := x.toNat_lt
        have hval := upd_val n x.toNat i hn1 hx256
        have hlt := updN_lt (x := x.toNat) (i := i) hn1
        have HG2 : Hid (getN b = if 127 < x.toNat then getL (t.drop (i + 1)) (i + 1) (updN n x.toNat i) else if (0 < i ∧ x.toNat = 0) ∨ (i = 9 ∧ 1 < x.toNat) then (0, 0) else (updN n x.toNat i, i + 1)) := Lib.hid (by rw [HG.out, hdrop]; rfl)
        clear hx hdrop HG
        generalize updN n x.toNat i = n2 at *
        generalize x.toNat = X at *
        by_cases h : 127 < X
        · have h1 : (127 : Int) < (X : Int) := by omega
          have HN : Hid (getN b = getL (t.drop (i + 1)) (i + 1) n2) := Lib.hid (by rw [HG2.out, if_pos h])
          clear h HG2
          go_wp2_with fail
          go_roundg m
          case measure => omega
          case rel => exact ⟨i + 1, n2, by omega, by go_num, rfl, hlt, HN, rfl⟩
        · have h1 : ¬ (127 : Int) < (X : Int) := by omega
          by_cases hb : (0 < i ∧ X = 0) ∨ (i = 9 ∧ 1 < X)
          · have HN : Hid (getN b = (0, 0)) := Lib.hid (by rw [HG2.out, if_neg h, if_pos hb])
            rcases hb with ⟨b1, b2⟩ | ⟨b1, b2⟩
            · have c1 : (0 : Int) < (i : Int) := by omega
              have c2 : ((X : Int) == 0) = true := by rw [b2]; rfl
              clear h b2 HG2
              go_wp2_with fail
              go_ret2
              exact ⟨by rw [HN.out]; rfl, rfl⟩
            · have c1 : (0 : Int) < (i : Int) := by omega
              have c2 : ((X : Int) == 0) = false := by rw [beq_eq_false_iff_ne]; omega
              have c3 : ((i : Int) == 9) = true := by rw [b1]; rfl
              have c4 : (1 : Int) < (X : Int) := by omega
              clear h b1 b2 HG2
              go_wp2_with fail
              go_ret2
              exact ⟨by rw [HN.out]; rfl, rfl⟩
          · have HN : Hid (getN b = (n2, i + 1)) := Lib.hid (by rw [HG2.out, if_neg h, if_neg hb])
            have hfin : ∀ e, e = Ending.returned (Value.tuple #[.int .u64 (n2 : Int), .int .i64 ((i : Int) + 1)]) → e = Ending.returned (Value.tuple #[.int .u64 ((getN b).1 : Int), .int .i64 ((getN b).2 : Int)]) := fun e he => by rw [he, HN.out]; rfl
            have HFI := Lib.hid hfin
            clear hfin
            by_cases c0 : i = 0
            · have c1 : ¬ (0 : Int) < (i : Int) := by omega
              have c3 : ((i : Int) == 9) = false := by rw [beq_eq_false_iff_ne]; omega
              clear h hb HG2 c0
              go_wp2_with fail
              go_ret2
              exact ⟨HFI.out _ rfl, rfl⟩
            · have c1 : (0 : Int) < (i : Int) := by omega
              have c2 : ((X : Int) == 0) = false := by rw [beq_eq_false_iff_ne]; omega
              by_cases c9 : i = 9
              · have c3 : ((i : Int) == 9) = true := by rw [c9]; rfl
                have c4 : ¬ (1 : Int) < (X : Int) := by omega
                clear h hb HG2 c0 c9
                go_wp2_with fail
                go_ret2
                exact ⟨HFI.out _ rfl, rfl⟩
              · have c3 : ((i : Int) == 9) = false := by rw [beq_eq_false_iff_ne]; omega
                clear h hb HG2 c0 c9
                go_wp2_with fail
                go_ret2
                exact ⟨HFI.out _ rfl, rfl⟩
      | zero =>
        have hz : ¬ (i : Int) < (b.length : Int) := by omega
        have HF : Hid (getN b = (0, 0)) := Lib.hid (by rw [HG.out, List.drop_of_length_le (by omega)]; rfl)
        clear hi htl hn1
        go_wp2_with fail
        go_ret2
        exact ⟨by rw [HF.out]; rfl, rfl⟩
end Go.Proofs.Ythgbkncanoknkaa
/-
  Contracts of number.Reader: step, Num.
-/
set_option linter.unusedVariables false
set_option linter.unusedSimpArgs false
namespace Go.Proofs.Ythgbkncanoknkaa
open Go.RowKit
set_option maxRecDepth 100000
/-- A reader as it lies: what is left, and whether something did not go. -/
def rdrC (p : Nat) (sv : Value) (bad : Bool) : List (Nat × Obj) := [(p, .cells #[sv, .bool bad] 61 (0, 0))]
section
variable {B : Nat} {w0 w : World} {F : List (List (Nat × Obj))}
theorem rdr_cells {p : Nat} {sv : Value} {bad : Bool} (hS : St B w0 w (rdrC p sv bad :: F)) : w.cell? ⟨p, 0, none⟩ = some sv ∧ w.cell? ⟨p, 1, none⟩ = some (.bool bad) ∧ w.frozen? ⟨p, 0, none⟩ = false ∧ w.frozen? ⟨p, 1, none⟩ = false :=
  ⟨hS.cell 0 rfl (List.mem_singleton.2 rfl) 0, hS.cell 0 rfl (List.mem_singleton.2 rfl) 1, hS.free 0 rfl (List.mem_singleton.2 rfl) 0, hS.free 0 rfl (List.mem_singleton.2 rfl) 1⟩
theorem rdr_bad {p : Nat} {sv : Value} {bad bad2 : Bool} (hS : St B w0 w (rdrC p sv bad :: F)) : St B w0 (w.setCell ⟨p, 1, none⟩ (.bool bad2)) (rdrC p sv bad2 :: F) := hS.store 0 rfl 1 (.bool bad2)
theorem rdr_row {p : Nat} {sv sv2 : Value} {bad : Bool} (hS : St B w0 w (rdrC p sv bad :: F)) : St B w0 (w.setCell ⟨p, 0, none⟩ sv2) (rdrC p sv2 bad :: F) := hS.store 0 rfl 0 sv2
set_option maxHeartbeats 2000000 in
theorem rstep_bad (p k : Nat) (sv : Value) (bad : Bool) (hS : St B w0 w (rdrC p sv bad :: F)) (hb : bad = true ∨ k = 0) (hk : k ≤ 100) :
    Calls Try.prog 43 #[.pointer (some ⟨p, 0, none⟩), .int .i64 (k : Int)] w fun e w' => e = .returned (.tuple #[]) ∧ St B w0 w' (rdrC p (.slice none 0 0) true :: F) := by
  obtain ⟨c0, c1, f0, f1⟩ := rdr_cells hS
  have HF := Lib.hid (rdr_row (sv2 := .slice none 0 0) (rdr_bad (bad2 := true) hS))
  cases bad with
  | true =>
    clear hS hb
    go_enter Try.func43, Try.ntmps43
    go_wp2_with fail
    ((try simp only [Exit.inBlock, Exit.then]); refine bodyPost_ret (results_none rfl _ _ _) rfl ?_)
    exact ⟨rfl, HF.out⟩
  | false =>
    have hk0 : k = 0 := by rcases hb with h | h; · cases h
                           · exact h
    have hki : ((k : Int) == 0) = true := by rw [hk0]; rfl
    clear hS hb hk0
    go_enter Try.func43, Try.ntmps43
    go_wp2_with fail
    ((try simp only [Exit.inBlock, Exit.then]); refine bodyPost_ret (results_none rfl _ _ _) rfl ?_)
    exact ⟨rfl, HF.out⟩
def StepOut (p k n cap : Nat) (ao : Option Addr) (B : Nat) (w0 : World) (F : List (List (Nat × Obj))) (e : Ending) (w' : World) : Prop :=
  e = .returned (.tuple #[]) ∧ ∃ ao', (¬ cap = k → ao' = ao.map fun a => a.add k) ∧ (cap = k → ao' = ao) ∧ St B w0 w' (rdrC p (.slice ao' (n - k) (cap - k)) false :: F)
set_option maxHeartbeats 2000000 in
theorem rstep_ok (p k n cap : Nat) (ao : Option Addr) (hS : St B w0 w (rdrC p (.slice ao n cap) false :: F)) (hk : 0 < k) (hk2 : k ≤ n) (hn : n ≤ cap) (hc : cap ≤ 9223372036854775807) :
    Calls Try.prog 43 #[.pointer (some ⟨p, 0, none⟩), .int .i64 (k : Int)] w (StepOut p k n cap ao B w0 F) := by
  obtain ⟨c0, c1, f0, f1⟩ := rdr_cells hS
  have hki : ((k : Int) == 0) = false := by rw [beq_eq_false_iff_ne]; omega
  have hkn : (k : Int) ≤ (n : Int) := by omega
  have HS := Lib.hid (fun sv2 => rdr_row (sv2 := sv2) (rdr_bad (bad2 := false) hS))
  clear hS
  by_cases hck : cap = k
  · have HC := Lib.hid hck
    go_enter Try.func43, Try.ntmps43
    go_wp2_with fail
    go_end0
    exact ⟨rfl, ao, fun h => absurd HC.out h, fun _ => rfl, by simpa [HC.out] using HS.out _⟩
  · have HC := Lib.hid hck
    go_enter Try.func43, Try.ntmps43
    go_wp2_with fail
    go_end0
    exact ⟨rfl, ao.map fun a => a.add k, fun _ => rfl, fun h => absurd h HC.out, HS.out _⟩
theorem getL_le : ∀ (l : List UInt8) (i n : Nat), n < 18446744073709551616 → ((getL l i n).2 ≤ i + l.length ∧ (getL l i n).1 < 18446744073709551616)
  | [], i, n, h => by simp [getL]
  | c :: r, i, n, h => by
    have ih := getL_le r (i + 1) (updN n c.toNat i) (updN_lt h)
    have hu := updN_lt (x := c.toNat) (i := i) h
    unfold getL
    simp only [List.length_cons]
    split
    · omega
    · split
      · simp
      · simp only
        omega
theorem getN_le (b : List UInt8) : (getN b).2 ≤ b.length ∧ (getN b).1 < 18446744073709551616 := by
  have h := getL_le (b.take 10) 0 0 (by omega)
  have : (b.take 10).length ≤ b.length := by simp; omega
  unfold getN
  omega
/-- A number that is read, and how many bytes. -/
def rdN (b : List UInt8) (most : Nat) : Option (Nat × Nat) := if (getN b).2 = 0 ∨ most < (getN b).1 then none else some (getN b)
def NumOut (p : Nat) (b : List UInt8) (most : Nat) (w0 : World) (F : List (List (Nat × Obj))) (e : Ending) (w' : World) : Prop :=
  (rdN b most = none ∧ e = .returned (.int .i64 0) ∧ St w0.heap.size w0 w' (rdrC p (.slice none 0 0) true :: F)) ∨
  (∃ n k sv', rdN b most = some (n, k) ∧ e = .returned (.int .i64 (n : Int)) ∧ Rd w0 1 sv' (b.drop k).length (bv (b.drop k)) ∧ St w0.heap.size w0 w' (rdrC p sv' false :: F))
set_option maxHeartbeats 4000000 in
theorem rnum_any (p : Nat) (sv : Value) (bad : Bool) (b : List UInt8) (most : Nat) (hm : most ≤ 4611686018427387904) (hbad : bad = true → b = []) (hrd : Rd w0 1 sv b.length (bv b)) (hS : St w0.heap.size w0 w (rdrC p sv bad :: F)) (hn : b.length ≤ 1000000) :
    Calls Try.prog 32 #[.pointer (some ⟨p, 0, none⟩), .int .i64 (most : Int)] w (NumOut p b most w0 F) := by
  obtain ⟨c0, c1, f0, f1⟩ := rdr_cells hS
  obtain ⟨ao, cap, rfl⟩ := hrd.shape
  obtain ⟨hc1, hc2⟩ := hrd.cap
  have H0 := Lib.hid (And.intro hrd (And.intro hS hbad))
  obtain ⟨hg1, hg2⟩ := getN_le b
  have hw : IntKind.u64.wrap (most : Int) = (most : Int) := by rw [wrap_u64']; omega
  have HP : Hid (rdN b most = if (getN b).2 = 0 ∨ most < (getN b).1 then none else some (getN b)) := Lib.hid rfl
  have hb0 : bad = true → (getN b).2 = 0 := fun h => by rw [hbad h]; rfl
  obtain ⟨n, k, hnk⟩ : ∃ n k, getN b = (n, k) := ⟨_, _, rfl⟩
  rw [hnk] at hg1 hg2 hb0
  simp only at hg1 hg2 hb0
  have HG := Lib.hid (And.intro (numget_any (.slice ao b.length cap) b w (hrd.st hS) hn) hnk)
  have HB0 := Lib.hid hb0
  clear hrd hS hbad hb0 hnk
  go_enter Try.func32, Try.ntmps32
  go_wp2_with fail
  refine HG.out.1.mono ?_
  rintro e w1 ⟨rfl, rfl⟩
  rw [HG.out.2]
  by_cases q1 : most < n
  · have q1i : (most : Int) < (n : Int) := by omega
    have HN : Hid (rdN b most = none) := Lib.hid (by rw [HP.out, HG.out.2, if_pos (.inr q1)])
    go_wp2_with fail
    refine (rstep_bad p 0 _ bad H0.out.2.1 (.inr rfl) (by omega)).mono ?_
    rintro e w2 ⟨rfl, hS2⟩
    obtain ⟨d0, d1, _, _⟩ := rdr_cells hS2
    have HS2 := Lib.hid hS2
    clear c0 c1 f0 f1 hS2
    go_wp2_with fail
    go_ret
    exact .inl ⟨HN.out, rfl, HS2.out⟩
  · have q1i : ¬ (most : Int) < (n : Int) := by omega
    by_cases q2 : k = 0
    · have HN : Hid (rdN b most = none) := Lib.hid (by rw [HP.out, HG.out.2, if_pos (.inl q2)])
      subst q2
      go_wp2_with fail
      refine (rstep_bad p 0 _ bad H0.out.2.1 (.inr rfl) (by omega)).mono ?_
      rintro e w2 ⟨rfl, hS2⟩
      obtain ⟨d0, d1, _, _⟩ := rdr_cells hS2
      have HS2 := Lib.hid hS2
      clear c0 c1 f0 f1 hS2
      go_wp2_with fail
      go_ret
      exact .inl ⟨HN.out, rfl, HS2.out⟩
    · have HN : Hid (rdN b most = some (n, k)) := Lib.hid (by
        rw [HP.out, HG.out.2, if_neg (by simp only; omega)])
      obtain rfl : bad = false := by
        cases bad with
        | true => exact absurd (HB0.out rfl) q2
        | false => rfl
      have hwn : IntKind.i64.wrap (n : Int) = (n : Int) := IntWalk.i64_in _ (by omega)
      go_wp2_with fail
      refine (rstep_ok p k b.length cap ao H0.out.2.1 (by omega) hg1 hc1 hc2).mono ?_
      rintro e w2 ⟨rfl, ao', a1, a2, hS2⟩
      obtain ⟨d0, d1, _, _⟩ := rdr_cells hS2
      have HF : Hid (Rd w0 1 (.slice ao' (b.length - k) (cap - k)) (b.drop k).length (bv (b.drop k)) ∧ St w0.heap.size w0 w2 (rdrC p (.slice ao' (b.length - k) (cap - k)) false :: F)) := Lib.hid ⟨by
        have := H0.out.1.drop (ao' := ao') k hg1 (by rw [Nat.mul_one]; exact a1) a2
        rw [Nat.mul_one, show (bv b).drop k = bv (b.drop k) from by simp [bv, List.map_drop]] at this
        rw [List.length_drop]
        exact this, hS2⟩
      clear c0 c1 f0 f1 hS2 a1 a2
      go_wp2_with fail
      go_ret
      exact .inr ⟨n, k, _, HN.out, rfl, HF.out.1, HF.out.2⟩
end
end Go.Proofs.Ythgbkncanoknkaa
/-
  string(b) of bytes that are read.
-/
set_option linter.unusedVariables false
set_option linter.unusedSimpArgs false
namespace Go.Proofs.Ythgbkncanoknkaa
open Go.RowKit
theorem conv_str {w : World} {v : Value} {n : Nat} {bs : List UInt8} (h : Rd w 1 v n (bv bs)) : (convert 29 9 v).run Try.prog w = .ok (.string ⟨bs.toArray⟩) w := by
  obtain ⟨ao, cap, rfl⟩ := h.shape
  have hl := h.len
  rw [bv_length, Nat.mul_one] at hl
  cases ao with
  | none =>
    obtain ⟨rfl, rfl, h0⟩ := h.none_iff
    have hbs : bs = [] := by simpa [bv] using h0
    subst hbs
    exact run_convert_bytes_nil w _ _ Try.underlying29 Try.underlying5 _ _ _ Try.underlying9
  | some ad =>
    subst hl
    refine run_convert_bytes_back w _ _ _ ad cap bs Try.underlying29 Try.underlying5 Try.underlying9 fun j hj => ?_
    obtain ⟨ad', e, hc⟩ := h.at (bv_get bs j _ (List.getElem?_eq_getElem hj))
    simp only [Option.some.injEq] at e
    subst e
    exact hc
end Go.Proofs.Ythgbkncanoknkaa
/-
  Bits as_ lists of Bools: plain Lean, no program in sight.
-/
set_option linter.unusedVariables false
set_option linter.unusedSimpArgs false
namespace Go.Proofs.Ythgbkncanoknkaa

/-- The lowest n bits of v, the highest first. -/
def bitsOf (v n : Nat) : List Bool := (List.range n).map fun j => v.testBit (n - 1 - j)
/-- The number that bits make, the highest first. -/
def valOf (l : List Bool) : Nat := l.foldl (fun a b => 2 * a + b.toNat) 0
/-- The bits of bytes. -/
def bitsB (bs : List UInt8) : List Bool := bs.flatMap fun b => bitsOf b.toNat 8

theorem bitsOf_length (v n : Nat) : (bitsOf v n).length = n := by simp [bitsOf]
theorem bitsOf_get (v n j : Nat) (h : j < n) : (bitsOf v n)[j]? = some (v.testBit (n - 1 - j)) := by simp [bitsOf, h]
theorem bitsB_length (bs : List UInt8) : (bitsB bs).length = 8 * bs.length := by
  induction bs with
  | nil => rfl
  | cons b bs ih => simp only [bitsB, List.flatMap_cons, List.length_append, bitsOf_length, List.length_cons] at ih ⊢; omega
theorem bitsB_append (a b : List UInt8) : bitsB (a ++ b) = bitsB a ++ bitsB b := by simp [bitsB]
theorem bitsB_cons (b : UInt8) (bs : List UInt8) : bitsB (b :: bs) = bitsOf b.toNat 8 ++ bitsB bs := by simp [bitsB]
theorem bitsB_get (bs : List UInt8) (k : Nat) (b : UInt8) (h : bs[k / 8]? = some b) : (bitsB bs)[k]? = some (b.toNat.testBit (7 - k % 8)) := by
  induction bs generalizing k with
  | nil => simp at h
  | cons c bs ih =>
    rw [bitsB_cons, List.getElem?_append, bitsOf_length]
    by_cases hk : k < 8
    · rw [if_pos hk, bitsOf_get _ _ _ hk]
      have h0 : k / 8 = 0 := by omega
      rw [h0] at h
      simp at h
      subst h
      congr 2
      omega
    · rw [if_neg hk]
      have e : k / 8 = (k - 8) / 8 + 1 := by omega
      rw [e, List.getElem?_cons_succ] at h
      rw [ih (k - 8) h]
      congr 3
      omega
/-- One bit of a byte is set. -/
theorem bitsB_set (bs : List UInt8) (k : Nat) (b c : UInt8) (x : Bool) (h : bs[k / 8]? = some b)
    (hc : ∀ j, j < 8 → c.toNat.testBit j = (b.toNat.testBit j || (x && j == 7 - k % 8))) (hx : (bitsB bs)[k]? = some false) : bitsB (bs.set (k / 8) c) = (bitsB bs).set k x := by
  have hlt : k / 8 < bs.length := (List.getElem?_eq_some_iff.1 h).1
  apply List.ext_getElem?
  intro i
  by_cases hi : i < 8 * bs.length
  · have hi8 : i / 8 < bs.length := by omega
    obtain ⟨d, hd⟩ : ∃ d, bs[i / 8]? = some d := ⟨_, List.getElem?_eq_getElem hi8⟩
    rw [List.getElem?_set]
    by_cases e : k / 8 = i / 8
    · have hd' : (bs.set (k / 8) c)[i / 8]? = some c := by rw [e, List.getElem?_set_self hi8]
      rw [bitsB_get _ _ _ hd', hc _ (by omega)]
      have hbd : b = d := by rw [e, hd] at h; simpa using h.symm
      subst hbd
      by_cases e2 : k = i
      · subst e2
        rw [if_pos rfl, if_pos (by rw [bitsB_length]; omega)]
        rw [bitsB_get _ _ _ h] at hx
        simp only [Option.some.injEq] at hx
        simp [hx]
      · rw [if_neg e2, bitsB_get _ _ _ hd]
        have : (7 - i % 8 == 7 - k % 8) = false := by rw [beq_eq_false_iff_ne]; omega
        simp [this]
    · have hd' : (bs.set (k / 8) c)[i / 8]? = some d := by rw [List.getElem?_set_ne e]; exact hd
      rw [bitsB_get _ _ _ hd', if_neg (by intro e2; subst e2; exact e rfl), bitsB_get _ _ _ hd]
  · rw [List.getElem?_eq_none (by rw [bitsB_length, List.length_set]; omega), List.getElem?_eq_none (by rw [List.length_set, bitsB_length]; omega)]
theorem bitsB_zero : bitsB [0] = List.replicate 8 false := by decide

theorem valOf_snoc (l : List Bool) (b : Bool) : valOf (l ++ [b]) = 2 * valOf l + b.toNat := by simp [valOf, List.foldl_append]
theorem valOf_go (l : List Bool) (a : Nat) : l.foldl (fun a b => 2 * a + b.toNat) a = a * 2 ^ l.length + valOf l := by
  induction l generalizing a with
  | nil => simp [valOf]
  | cons b l ih =>
    have h1 := ih (2 * a + b.toNat)
    have h2 := ih (2 * 0 + b.toNat)
    simp only [valOf, List.foldl_cons, List.length_cons, Nat.pow_succ] at h1 h2 ⊢
    rw [h1, h2, Nat.add_mul, Nat.mul_zero, Nat.zero_add]
    have : 2 * a * 2 ^ l.length = a * (2 ^ l.length * 2) := by rw [Nat.mul_comm 2 a, Nat.mul_assoc, Nat.mul_comm 2]
    omega
theorem valOf_cons (b : Bool) (l : List Bool) : valOf (b :: l) = b.toNat * 2 ^ l.length + valOf l := by
  have := valOf_go l (2 * 0 + b.toNat)
  simp only [Nat.mul_zero, Nat.zero_add] at this
  simpa [valOf] using this
theorem valOf_lt (l : List Bool) : valOf l < 2 ^ l.length := by
  induction l with
  | nil => simp [valOf]
  | cons b l ih => rw [valOf_cons, List.length_cons, Nat.pow_succ]; cases b <;> simp <;> omega
theorem valOf_bitsOf (v n : Nat) : valOf (bitsOf v n) = v % 2 ^ n := by
  induction n with
  | zero => simp [bitsOf, valOf, Nat.mod_one]
  | succ n ih =>
    have e : bitsOf v (n + 1) = v.testBit n :: bitsOf v n := by
      simp only [bitsOf, List.range_succ_eq_map, List.map_cons, List.map_map]
      congr 1
      apply List.map_congr_left
      intro j hj
      simp only [Function.comp]
      congr 1
      omega
    rw [e, valOf_cons, bitsOf_length, ih, Nat.mod_pow_succ, Nat.testBit_eq_decide_div_mod_eq]
    have h2 : v / 2 ^ n % 2 < 2 := Nat.mod_lt _ (by omega)
    by_cases h : v / 2 ^ n % 2 = 1
    · simp [h]; omega
    · have : v / 2 ^ n % 2 = 0 := by omega
      simp [this]
theorem bitsOf_succ (v n : Nat) : bitsOf v (n + 1) = v.testBit n :: bitsOf v n := by
  simp only [bitsOf, List.range_succ_eq_map, List.map_cons, List.map_map]
  congr 1
  apply List.map_congr_left
  intro j hj
  simp only [Function.comp]
  congr 1
  omega
/-- One bit laid into a byte. -/
def setb (b : UInt8) (x : Bool) (s : Nat) : UInt8 := UInt8.ofNat (b.toNat ||| x.toNat * 2 ^ s)
theorem setb_toNat (b : UInt8) (x : Bool) (s : Nat) (hs : s ≤ 7) : (setb b x s).toNat = b.toNat ||| x.toNat * 2 ^ s := by
  unfold setb
  have h1 : x.toNat * 2 ^ s < 2 ^ 8 := by
    have : 2 ^ s ≤ 2 ^ 7 := Nat.pow_le_pow_right (by omega) hs
    cases x <;> simp <;> omega
  have h2 : b.toNat < 2 ^ 8 := b.toNat_lt
  have := Nat.or_lt_two_pow h2 h1
  simp only [UInt8.toNat_ofNat']
  omega
theorem setb_bit (b : UInt8) (x : Bool) (s : Nat) (hs : s ≤ 7) (j : Nat) : (setb b x s).toNat.testBit j = (b.toNat.testBit j || (x && j == s)) := by
  rw [setb_toNat b x s hs, Nat.testBit_or]
  cases x with
  | false => simp
  | true =>
    simp only [Bool.toNat_true, Nat.one_mul, Nat.testBit_two_pow, Bool.true_and]
    congr 1
    rw [Bool.eq_iff_iff]
    simp
    omega
/-- The bytes that hold bits, with noughts behind. -/
def Packed (bits : List Bool) (cs : List UInt8) : Prop := bitsB cs = bits ++ List.replicate (8 * cs.length - bits.length) false
instance (bits : List Bool) (cs : List UInt8) : Decidable (Packed bits cs) := inferInstanceAs (Decidable (_ = _))
theorem packed_zero {bits : List Bool} {cs : List UInt8} (h : Packed bits cs) (hl : bits.length ≤ 8 * cs.length) : Packed bits (cs ++ [0]) := by
  unfold Packed at *
  rw [bitsB_append, h, bitsB_zero, List.append_assoc, List.replicate_append_replicate]
  congr 2
  simp
  omega
theorem packed_set {bits : List Bool} {cs : List UInt8} (h : Packed bits cs) (x : Bool) (hl : bits.length < 8 * cs.length) (b : UInt8) (hb : cs[bits.length / 8]? = some b) :
    Packed (bits ++ [x]) (cs.set (bits.length / 8) (setb b x (7 - bits.length % 8))) := by
  have h0 : (bitsB cs)[bits.length]? = some false := by
    rw [h, List.getElem?_append_right (Nat.le_refl _), Nat.sub_self, List.getElem?_replicate]
    rw [if_pos (by omega)]
  unfold Packed
  rw [bitsB_set cs bits.length b _ x hb (fun j _ => setb_bit b x _ (by omega) j) h0, h, List.set_append_right _ _ (Nat.le_refl _), Nat.sub_self, List.length_set, List.length_append]
  obtain ⟨m, hm⟩ : ∃ m, 8 * cs.length - bits.length = m + 1 := ⟨8 * cs.length - bits.length - 1, by omega⟩
  rw [hm, List.replicate_succ, List.set_cons_zero]
  have : 8 * cs.length - (bits.length + [x].length) = m := by simp; omega
  rw [this]
  simp
/-- The bit that a reader meets. -/
theorem bitsB_at {cs : List UInt8} {k : Nat} (h : k < 8 * cs.length) : ∃ b, cs[k / 8]? = some b ∧ (bitsB cs)[k]? = some (b.toNat.testBit (7 - k % 8)) := by
  have h1 : k / 8 < cs.length := by omega
  exact ⟨_, List.getElem?_eq_getElem h1, bitsB_get _ _ _ (List.getElem?_eq_getElem h1)⟩
theorem bitsOf_inj (a b : UInt8) (h : bitsOf a.toNat 8 = bitsOf b.toNat 8) : a = b := by
  have h1 := congrArg valOf h
  rw [valOf_bitsOf, valOf_bitsOf] at h1
  have h2 := a.toNat_lt
  have h3 := b.toNat_lt
  apply UInt8.toNat_inj.1
  omega
theorem bitsB_inj : ∀ (a b : List UInt8), bitsB a = bitsB b → a = b
  | [], [], _ => rfl
  | [], b :: bs, h => by have := congrArg List.length h; rw [bitsB_length, bitsB_length] at this; simp at this
  | a :: as_, [], h => by have := congrArg List.length h; rw [bitsB_length, bitsB_length] at this; simp at this
  | a :: as_, b :: bs, h => by
    rw [bitsB_cons, bitsB_cons] at h
    have h1 := List.append_inj h (by rw [bitsOf_length, bitsOf_length])
    rw [bitsOf_inj a b h1.1, bitsB_inj as_ bs h1.2]
theorem packed_unique {bits : List Bool} {a b : List UInt8} (ha : Packed bits a) (hb : Packed bits b) (hl : a.length = b.length) : a = b := by
  apply bitsB_inj
  rw [ha, hb, hl]
theorem bitsOf_split (v n m : Nat) (h : m ≤ n) : bitsOf v n = bitsOf (v / 2 ^ m) (n - m) ++ bitsOf v m := by
  apply List.ext_getElem?
  intro j
  by_cases hj : j < n
  · rw [bitsOf_get _ _ _ hj]
    by_cases h2 : j < n - m
    · rw [List.getElem?_append_left (by rw [bitsOf_length]; exact h2), bitsOf_get _ _ _ h2, Nat.testBit_div_two_pow]
      congr 2
      omega
    · rw [List.getElem?_append_right (by rw [bitsOf_length]; omega), bitsOf_length, bitsOf_get _ _ _ (by omega)]
      congr 2
      omega
  · rw [List.getElem?_eq_none (by rw [bitsOf_length]; omega), List.getElem?_eq_none (by rw [List.length_append, bitsOf_length, bitsOf_length]; omega)]
theorem packed_self (bs : List UInt8) : Packed (bitsB bs) bs := by
  unfold Packed
  rw [bitsB_length, Nat.sub_self]
  simp
theorem bitsB_take_succ (bs : List UInt8) (i : Nat) (b : UInt8) (h : bs[i]? = some b) : bitsB (bs.take (i + 1)) = bitsB (bs.take i) ++ bitsOf b.toNat 8 := by
  rw [List.take_add_one, h, bitsB_append]
  simp [bitsB]
/-- The eight bits of a byte. -/
theorem valOf_byte (bs : List UInt8) (i : Nat) (b : UInt8) (h : bs[i]? = some b) : valOf (((bitsB bs).drop (8 * i)).take 8) = b.toNat := by
  obtain ⟨hlt, e⟩ := List.getElem?_eq_some_iff.1 h
  have e1 : bs = bs.take i ++ (b :: bs.drop (i + 1)) := by
    rw [← e, ← List.drop_eq_getElem_cons hlt, List.take_append_drop]
  rw [e1, bitsB_append, bitsB_cons]
  have hl : (bitsB (bs.take i)).length = 8 * i := by rw [bitsB_length, List.length_take]; omega
  rw [List.drop_append_of_le_length (by omega), ← hl, List.drop_length, List.nil_append, List.take_append_of_le_length (by rw [bitsOf_length]; exact Nat.le_refl _), List.take_of_length_le (by rw [bitsOf_length]; exact Nat.le_refl _), valOf_bitsOf]
  have := b.toNat_lt
  omega
/-- One element after the other is turned. -/
theorem turn_next {α : Type} (f : α → α) (l : List α) (i : Nat) (x : α) (h : l[i]? = some x) : ((l.take i).map f ++ l.drop i).set i (f x) = (l.take (i + 1)).map f ++ l.drop (i + 1) := by
  obtain ⟨hlt, e⟩ := List.getElem?_eq_some_iff.1 h
  have hl : ((l.take i).map f).length = i := by simp; omega
  rw [List.set_append_right _ _ (by omega), hl, Nat.sub_self, List.drop_eq_getElem_cons hlt, List.set_cons_zero, List.take_add_one, h, List.map_append, List.append_assoc]
  rfl
theorem turn_at {α : Type} (f : α → α) (l : List α) (i : Nat) : ((l.take i).map f ++ l.drop i)[i]? = l[i]? := by
  by_cases h : i < l.length
  · rw [List.getElem?_append_right (by simp; omega)]
    simp [Nat.min_eq_left (Nat.le_of_lt h)]
  · rw [List.getElem?_eq_none (by simp; omega), List.getElem?_eq_none (by omega)]
theorem packed_false {bits : List Bool} {cs : List UInt8} (h : Packed bits cs) (hl : bits.length < 8 * cs.length) : Packed (bits ++ [false]) cs := by
  unfold Packed at *
  obtain ⟨m, hm⟩ : ∃ m, 8 * cs.length - bits.length = m + 1 := ⟨8 * cs.length - bits.length - 1, by omega⟩
  rw [h, hm, List.replicate_succ, List.append_assoc]
  congr 2
  simp
  congr 1
  omega
theorem packed_none (n : Nat) : Packed [] (List.replicate n 0) := by
  unfold Packed
  rw [List.length_replicate, List.nil_append, List.length_nil, Nat.sub_zero]
  induction n with
  | zero => rfl
  | succ n ih =>
    rw [List.replicate_succ, bitsB_cons, ih, show 8 * (n + 1) = 8 + 8 * n from by omega, ← List.replicate_append_replicate]
    rfl
end Go.Proofs.Ythgbkncanoknkaa
/-
  Contracts of the package bits (and of bytes.Clone): what each function does to memory, in the words of Base and PureBits.
-/
set_option linter.unusedVariables false
set_option linter.unusedSimpArgs false
namespace Go.Proofs.Ythgbkncanoknkaa
open Go.RowKit
set_option maxRecDepth 100000

/-- bytes.Clone: the same bytes in memory of its own. -/
theorem clone_some (ad : Addr) (n cap : Nat) (bs : List UInt8) (w : World) (h : Rd w 1 (.slice (some ad) n cap) n (bv bs)) (hn : n ≤ 140737488355328) :
    Calls Try.prog 38 #[.slice (some ad) n cap] w fun e w' => ∃ v c, e = .returned v ∧ RowC 5 1 v n (bv bs) c ∧ St w.heap.size w w' [c] := by
  obtain ⟨i0, i0a, i0b, i0c, i0d⟩ := info_parts infoU8
  go_enter Try.func38, Try.ntmps38
  go_wp2_with (at_builtin; (refine wpList_app 0 29 i0 (.int .u8 0) _ _ rfl rfl rfl rfl Try.underlying29 i0a i0b i0c i0d rfl (by decide) ((St.init w).alloc _) rfl (RowC.fresh w.heap.size [] rfl (Nat.le_refl 0) (Nat.zero_le _) rfl rfl) (h.keep (Below.alloc (Below.refl _ _) (Nat.le_refl _) _)) (bv_one bs) ?_ ?_ ?_); (unfold maxLen; omega); omega; intro v1 c1 w1 hr1 hs1)
  go_ret
  simp only [Nat.zero_add, List.nil_append] at hr1
  exact ⟨v1, c1, rfl, hr1, hs1⟩
theorem clone_any (v : Value) (n : Nat) (bs : List UInt8) (w : World) (h : Rd w 1 v n (bv bs)) (hn : n ≤ 140737488355328) :
    Calls Try.prog 38 #[v] w fun e w' => ∃ v c, e = .returned v ∧ RowC 5 1 v n (bv bs) c ∧ St w.heap.size w w' [c] := by
  obtain ⟨ao, cap, rfl⟩ := h.shape
  cases ao with
  | some ad => exact clone_some ad n cap bs w h hn
  | none =>
    obtain ⟨rfl, rfl, hx⟩ := h.none_iff
    have hbs : bs = [] := by simpa [bv] using hx
    subst hbs
    clear h hx hn
    go_enter Try.func38, Try.ntmps38
    go_wp2
    go_ret
    exact ⟨_, [], rfl, RowC.nil _ _, (St.init w).one_nil⟩

/-- A Writer at block p that holds these bits. -/
def WrC (p : Nat) (bits : List Bool) (c : HL) : Prop :=
  ∃ sv rc cs, c = [(p, Obj.cells #[sv, .int .i64 (bits.length : Int)] 96 (0, 0))] ++ rc ∧ RowC 5 1 sv cs.length (bv cs) rc ∧ cs.length = (bits.length + 7) / 8 ∧ Packed bits cs
/-- A Reader at block p over these bytes, so many bits read. -/
def RdC (p : Nat) (bs : List UInt8) (at_ : Nat) (c : HL) : Prop :=
  ∃ sv rc, c = [(p, Obj.cells #[sv, .int .i64 (at_ : Int)] 143 (0, 0))] ++ rc ∧ RowC 5 1 sv bs.length (bv bs) rc ∧ at_ ≤ 8 * bs.length

section
variable {B : Nat} {w0 w : World} {F : List HL} {c : HL}
theorem wbytes_any (p : Nat) (bits : List Bool) (hS : St B w0 w (c :: F)) (hc : WrC p bits c) (hsm : bits.length ≤ 1099511627776) :
    Calls Try.prog 62 #[.pointer (some ⟨p, 0, none⟩)] w fun e w' => ∃ v c' cs, e = .returned v ∧ RowC 5 1 v cs.length (bv cs) c' ∧ St w.heap.size w w' [c'] ∧ cs.length = (bits.length + 7) / 8 ∧ Packed bits cs := by
  obtain ⟨sv, rc, cs, rfl, hr, hl, hb⟩ := hc
  have h0 := hS.cell 0 rfl (List.mem_append.2 (.inl (List.mem_singleton.2 rfl))) 0
  have hrd := hr.rd hS.split 1 rfl
  have H := Lib.hid (And.intro hl hb)
  have hcl : cs.length ≤ 140737488355328 := by omega
  clear hr hb hl
  go_enter Try.func62, Try.ntmps62
  go_wp2_with (go_at_call 38; refine (clone_any sv cs.length cs w hrd hcl).mono ?_; rintro e w1 ⟨v1, c1, rfl, hr1, hs1⟩)
  go_ret
  exact ⟨v1, c1, cs, rfl, hr1, hs1, H.out.1, H.out.2⟩
theorem put_bad (v k : Int) (pv : Value) (w : World) (h : pv = .pointer none ∨ ((∃ p, pv = .pointer (some ⟨p, 0, none⟩)) ∧ (k < 0 ∨ 64 < k))) :
    Calls Try.prog 60 #[pv, .int .u64 v, .int .i64 k] w fun e w' => e = .returned (.bool false) ∧ w = w' := by
  rcases h with rfl | ⟨⟨p, rfl⟩, h | h⟩
  · go_enter Try.func60, Try.ntmps60
    go_wp2
    go_ret
    exact ⟨rfl, rfl⟩
  · go_enter Try.func60, Try.ntmps60
    go_wp2
    go_ret
    exact ⟨rfl, rfl⟩
  · have h1 : decide (k < 0) = false := by simp; omega
    have h2 : decide (64 < k) = true := by simp; omega
    go_enter Try.func60, Try.ntmps60
    go_wp2
    go_ret
    exact ⟨rfl, rfl⟩
theorem put_byte (b : UInt8) (V : Int) (hV0 : 0 ≤ V) (hV : V ≤ 18446744073709551615) (m s : Nat) (hs : s ≤ 7) :
    bits .or .u8 (b.toNat : Int) (bits .and .u64 (V / 2 ^ m) 1 % 256 * 2 ^ s % 256) = ((setb b (V.toNat.testBit m) s).toNat : Int) := by
  obtain ⟨v, rfl⟩ := Int.eq_ofNat_of_zero_le hV0
  have e1 : ((v : Int) / 2 ^ m) = ((v / 2 ^ m : Nat) : Int) := by simp
  have hle : v / 2 ^ m ≤ v := Nat.div_le_self _ _
  have hbit : v.testBit m = decide (v / 2 ^ m % 2 = 1) := Nat.testBit_eq_decide_div_mod_eq
  rw [e1, Int.toNat_natCast, hbit]
  generalize v / 2 ^ m = q at *
  rw [and_one_u64 _ (by omega) (by omega)]
  have h3 : 2 ^ s ≤ 2 ^ 7 := Nat.pow_le_pow_right (by omega) hs
  have e2 : (q : Int) % 2 % 256 * 2 ^ s % 256 = (((decide (q % 2 = 1)).toNat * 2 ^ s : Nat) : Int) := by
    have h7 : (0 : Int) < 2 ^ s := Int.pow_pos (by omega)
    have h8 : (2 : Int) ^ s ≤ 128 := by have := Int.ofNat_le.2 h3; simpa using this
    by_cases h : q % 2 = 1
    · have h5 : (q : Int) % 2 = 1 := by omega
      rw [h5]
      simp [h]
      omega
    · have h5 : (q : Int) % 2 = 0 := by omega
      rw [h5]
      simp [h]
  rw [e2, u8_or_nat _ _ b.toNat_lt, setb_toNat _ _ _ hs]
  cases decide (q % 2 = 1) <;> simp <;> omega
set_option maxHeartbeats 1000000 in
theorem put_any (p : Nat) (bits : List Bool) (v k : Int) (hS : St B w0 w (c :: F)) (hc : WrC p bits c) (hv0 : 0 ≤ v) (hv : v ≤ 18446744073709551615) (hk0 : 0 ≤ k) (hk : k ≤ 64) (hsm : bits.length ≤ 549755813888) :
    Calls Try.prog 60 #[.pointer (some ⟨p, 0, none⟩), .int .u64 v, .int .i64 k] w fun e w' => e = .returned (.bool true) ∧ ∃ c', WrC p (bits ++ bitsOf v.toNat k.toNat) c' ∧ St B w0 w' (c' :: F) := by
  obtain ⟨i0, i0a, i0b, i0c, i0d⟩ := info_parts infoU8
  have hd1 : decide (k < 0) = false := by simp; omega
  have hd2 : decide (64 < k) = false := by simp; omega
  have HS := Lib.hid hS
  have HC := Lib.hid hc
  clear hS hc
  go_enter Try.func60, Try.ntmps60
  go_wp2
  go_loopg [7] (k.toNat) (fun m s7 wr => s7 = .int .i64 ((m : Int) - 1) ∧ (m : Int) ≤ 64 ∧ ∃ bs c, Hid (bs ++ bitsOf v.toNat m = bits ++ bitsOf v.toNat k.toNat) ∧ WrC p bs c ∧ St B w0 wr (c :: F))
  case atStart => exact ⟨by rw [Int.toNat_of_nonneg hk0], by omega, bits, c, rfl, HC.out, HS.out⟩
  case round =>
    clear HS HC
    obtain ⟨rfl, hm, bs, c, hbs, ⟨sv, rc, cs, rfl, hr, hl, hb⟩, hS⟩ := hrel
    have hlen : bs.length ≤ 1099511627776 := by
      have := congrArg List.length hbs.out
      simp only [List.length_append, bitsOf_length] at this
      omega
    cases gk with
    | zero =>
      have e := hbs.out
      simp only [bitsOf, List.range_zero, List.map_nil, List.append_nil] at e
      have HQ : Hid (WrC p bs ([(p, Obj.cells #[sv, .int .i64 (bs.length : Int)] 96 (0, 0))] ++ rc)) := ⟨sv, rc, cs, rfl, hr, hl, hb⟩
      have E := Lib.hid e
      clear hr hl hb hbs e
      go_wp2
      go_ret
      refine ⟨rfl, _, ?_, hS⟩
      have e := E.out
      simp only [bitsOf, ← e]
      exact HQ
    | succ m =>
      have e : (((m + 1 : Nat) : Int) - 1) = (m : Int) := by omega
      rw [e]
      have hS2 := hS.split
      have h0 : wr.cell? ⟨p, 0, none⟩ = some sv := hS2.cell 0 rfl (List.mem_singleton.2 rfl) 0
      have h1 : wr.cell? ⟨p, 1, none⟩ = some (.int .i64 (bs.length : Int)) := hS2.cell 0 rfl (List.mem_singleton.2 rfl) 1
      have f0 : wr.frozen? ⟨p, 0, none⟩ = false := hS2.free 0 rfl (List.mem_singleton.2 rfl) 0
      have hcl : cs.length ≤ 137438953473 := by omega
      have HL := Lib.hid (And.intro hl hb)
      clear hl hb e hS
      go_upto_if 29 with (fail)
      go_cut [7] (fun s7 wc => s7 = .int .i64 (m : Int) ∧ ∃ sv rc cs, RowC 5 1 sv cs.length (bv cs) rc ∧ Hid (cs.length = bs.length / 8 + 1 ∧ Packed bs cs) ∧ St B w0 wc ([(p, Obj.cells #[sv, .int .i64 (bs.length : Int)] 96 (0, 0))] :: rc :: F))
      case first =>
        by_cases h8 : bs.length % 8 = 0
        · have h8' : ((bs.length : Int) % 8 == 0) = true := by simp; omega
          go_wp2_with ((at_builtin; (refine wpList_app1 1 29 i0 (.int .u8 0) _ _ _ rfl rfl rfl rfl Try.underlying29 i0a i0b i0c i0d rfl hS2 rfl hr rfl ?_ ?_ ?_); (unfold maxLen; omega); omega; intro v1 c1 w1 hr1 hs1); have k0 : w1.cell? ⟨p, 0, none⟩ = some sv := hs1.cell 0 rfl (List.mem_singleton.2 rfl) 0; have g0 : w1.frozen? ⟨p, 0, none⟩ = false := hs1.free 0 rfl (List.mem_singleton.2 rfl) 0; obtain ⟨ao, cap, rfl⟩ := hr1.shape)
          go_meet
          case rel =>
            refine ⟨rfl, _, c1, cs ++ [0], ?_, ?_, hs1.store 0 rfl 0 _⟩
            · simpa [bv] using hr1
            · have := HL.out
              exact ⟨by simp; omega, packed_zero this.2 (by omega)⟩
        · have h8' : ((bs.length : Int) % 8 == 0) = false := by simp; omega
          go_wp2
          go_meet
          case rel =>
            have := HL.out
            exact ⟨rfl, sv, rc, cs, hr, ⟨by omega, this.2⟩, hS2⟩
      case rest =>
        clear hS2 h0 h1 f0 hr HL
        obtain ⟨rfl, sv, rc, cs, hr, HL, hS⟩ := hcut
        obtain ⟨hl, hb⟩ := HL.out
        obtain ⟨g, cap, cur, rfl, _⟩ := hr.form (by omega)
        obtain ⟨b, hbyte⟩ : ∃ b, cs[bs.length / 8]? = some b := ⟨_, List.getElem?_eq_getElem (by omega)⟩
        have hap := hr.apart hS 1 0 rfl rfl (by omega)
        have hgp := hap.1
        have hpg := hap.2
        have h0 : wc.cell? ⟨p, 0, none⟩ = some (.slice (some ⟨g, 0, none⟩) cs.length cap) := hS.cell 0 rfl (List.mem_singleton.2 rfl) 0
        have h1 : wc.cell? ⟨p, 1, none⟩ = some (.int .i64 (bs.length : Int)) := hS.cell 0 rfl (List.mem_singleton.2 rfl) 1
        have f1 : wc.frozen? ⟨p, 1, none⟩ = false := hS.free 0 rfl (List.mem_singleton.2 rfl) 1
        have h2 := hr.cellAt hS 1 rfl (bv_get _ _ _ hbyte)
        have f2 := hr.freeAt hS 1 rfl (bs.length / 8)
        have hix : (bs.length : Int) / 8 < cs.length := by omega
        have HB := Lib.hid hbyte
        clear hl hb hap hbyte
        go_wp2_with (first | ((with_reducible refine wpStill_plain ?_ ?_ (fun _ _ => ?_)); rfl; rfl) | (with_reducible refine wpStill_nil ?_) | ((with_reducible refine wp_draw_tail (id := 8) 25 mixed ?_ (fun _ hK => ?_)); kernel_rfl; simp only [List.take_succ_cons, List.take_zero, List.drop_succ_cons, List.drop_zero] at hK ⊢))
        go_roundg m
        case measure => omega
        case rel =>
          have hl := HL.out
          rw [put_byte b v hv0 hv m _ (by omega)]
          obtain ⟨rc', hr', hS'⟩ := hr.store hS 1 rfl rfl (bs.length / 8) (.int .u8 ((setb b (v.toNat.testBit m) (7 - bs.length % 8)).toNat : Int))
          rw [← bv_set] at hr'
          have hS3 := ((hS'.store 0 rfl 1 (.int .i64 ((bs.length : Int) + 1))).drew).merge
          refine ⟨rfl, by omega, bs ++ [v.toNat.testBit m], _, ?_, ⟨.slice (some ⟨g, 0, none⟩) cs.length cap, rc', cs.set (bs.length / 8) (setb b (v.toNat.testBit m) (7 - bs.length % 8)), ?_, ?_, ?_, packed_set hl.2 _ (by omega) b HB.out⟩, hS3⟩
          · have := hbs.out
            rw [bitsOf_succ] at this
            show bs ++ [v.toNat.testBit m] ++ bitsOf v.toNat m = _
            rw [List.append_assoc]
            exact this
          · simp
          · rw [List.length_set]
            exact hr'
          · simp
            omega
end
theorem wr_new (p : Nat) : WrC p [] [(p, Obj.cells #[.slice none 0 0, .int .i64 0] 96 (0, 0))] :=
  ⟨_, [], [], rfl, RowC.nil _ _, rfl, rfl⟩
end Go.Proofs.Ythgbkncanoknkaa
/-
  Contracts of number.Four, number.GetFour, crc.Sum.
-/
set_option linter.unusedVariables false
set_option linter.unusedSimpArgs false
namespace Go.Proofs.Ythgbkncanoknkaa
open Go.RowKit
set_option maxRecDepth 100000
theorem wrap_u32' (n : Int) : IntKind.u32.wrap n = n % 4294967296 := by simp [IntKind.wrap, IntKind.bits, IntKind.signed]
theorem bits32 (op : BinOp) (f : Nat → Nat → Nat) (hf : ∀ a b : BitVec 32, (match op with | .and => a &&& b | .or => a ||| b | .xor => a ^^^ b | _ => a &&& ~~~b).toNat = f a.toNat b.toNat)
    (a b : Nat) (ha : a < 4294967296) (hb : b < 4294967296) (hfl : f a b < 4294967296) : bits op .u32 (a : Int) (b : Int) = ((f a b : Nat) : Int) := by
  unfold bits
  simp only
  have h1 : (BitVec.ofInt IntKind.u32.bits (a : Int)) = BitVec.ofNat 32 a := BitVec.ofInt_natCast 32 a
  have h2 : (BitVec.ofInt IntKind.u32.bits (b : Int)) = BitVec.ofNat 32 b := BitVec.ofInt_natCast 32 b
  have h3 := hf (BitVec.ofNat 32 a) (BitVec.ofNat 32 b)
  rw [BitVec.toNat_ofNat, BitVec.toNat_ofNat, Nat.mod_eq_of_lt (by omega), Nat.mod_eq_of_lt (by omega)] at h3
  rw [wrap_u32']
  rw [h1, h2]
  have h4 : ((match op with | .and => BitVec.ofNat 32 a &&& BitVec.ofNat 32 b | .or => BitVec.ofNat 32 a ||| BitVec.ofNat 32 b | .xor => BitVec.ofNat 32 a ^^^ BitVec.ofNat 32 b | _ => BitVec.ofNat 32 a &&& ~~~BitVec.ofNat 32 b).toNat : Int) = ((f a b : Nat) : Int) := by exact_mod_cast h3
  refine (congrArg (· % (4294967296 : Int)) h4).trans ?_
  show ((f a b : Nat) : Int) % 4294967296 = _
  omega
theorem xor32 {a b : Nat} (ha : a < 4294967296) (hb : b < 4294967296) : bits .xor .u32 (a : Int) (b : Int) = ((a ^^^ b : Nat) : Int) :=
  bits32 .xor (· ^^^ ·) (fun a b => BitVec.toNat_xor ..) a b ha hb (Nat.xor_lt_two_pow (n := 32) ha hb)
theorem and32 {a b : Nat} (ha : a < 4294967296) (hb : b < 4294967296) : bits .and .u32 (a : Int) (b : Int) = ((a &&& b : Nat) : Int) :=
  bits32 .and (· &&& ·) (fun a b => BitVec.toNat_and ..) a b ha hb (Nat.and_lt_two_pow (n := 32) a hb)
theorem or32 {a b : Nat} (ha : a < 4294967296) (hb : b < 4294967296) : bits .or .u32 (a : Int) (b : Int) = ((a ||| b : Nat) : Int) :=
  bits32 .or (· ||| ·) (fun a b => BitVec.toNat_or ..) a b ha hb (Nat.or_lt_two_pow (n := 32) ha hb)
/-- One bit of a sum. -/
def crcB (x : Nat) : Nat := if x % 2 = 1 then (x / 2) ^^^ 3988292384 else x / 2
theorem crcB_lt {x : Nat} (h : x < 4294967296) : crcB x < 4294967296 := by
  unfold crcB
  split
  · exact Nat.xor_lt_two_pow (n := 32) (by omega) (by decide)
  · omega
theorem crc_bit {x : Nat} (h : x < 4294967296) : bits .xor .u32 ((x : Int) / 2) (bits .and .u32 3988292384 (-bits .and .u32 (x : Int) 1 % 4294967296)) = ((crcB x : Nat) : Int) := by
  have h1 : bits .and .u32 (x : Int) 1 = ((x % 2 : Nat) : Int) := by
    have := and32 (a := x) (b := 1) h (by decide)
    rw [Nat.and_one_is_mod] at this
    exact this
  rw [h1, show ((x : Int) / 2) = ((x / 2 : Nat) : Int) from by omega]
  unfold crcB
  rcases Nat.mod_two_eq_zero_or_one x with q | q
  · rw [q, if_neg (by omega)]
    have h2 : bits .and .u32 3988292384 (-((0 : Nat) : Int) % 4294967296) = ((0 : Nat) : Int) := by decide
    rw [h2, xor32 (by omega) (by omega), Nat.xor_zero]
  · rw [q, if_pos rfl]
    have h2 : bits .and .u32 3988292384 (-((1 : Nat) : Int) % 4294967296) = ((3988292384 : Nat) : Int) := by decide
    rw [h2, xor32 (by omega) (by omega)]
def crcC (x : Nat) : Nat → Nat
  | 0 => x
  | n + 1 => crcC (crcB x) n
theorem crcC_lt {x : Nat} (h : x < 4294967296) : ∀ n, crcC x n < 4294967296
  | 0 => h
  | n + 1 => by rw [crcC]; exact crcC_lt (crcB_lt h) n
/-- One byte of a sum. -/
def crcS (x : Nat) (c : UInt8) : Nat := crcC (x ^^^ c.toNat) 8
theorem crcS_lt {x : Nat} (h : x < 4294967296) (c : UInt8) : crcS x c < 4294967296 := crcC_lt (Nat.xor_lt_two_pow (n := 32) h (by have := c.toNat_lt; omega)) 8
def crcL (x : Nat) (b : List UInt8) : Nat := b.foldl crcS x
theorem crcL_lt {x : Nat} (h : x < 4294967296) : ∀ b, crcL x b < 4294967296
  | [] => h
  | c :: b => crcL_lt (crcS_lt h c) b
theorem crcL_snoc (x : Nat) (b : List UInt8) (c : UInt8) : crcL x (b ++ [c]) = crcS (crcL x b) c := by simp [crcL]
/-- The sum of bytes. -/
def crcP (b : List UInt8) : Nat := 4294967295 - crcL 4294967295 b
theorem not32 {x : Nat} (h : x < 4294967296) : bits .xor .u32 4294967295 (x : Int) = ((4294967295 - x : Nat) : Int) := by
  have e : bits .xor .u32 4294967295 (x : Int) = ((4294967295 ^^^ x : Nat) : Int) := xor32 (a := 4294967295) (by decide) h
  rw [e]
  have h2 : (4294967295 : Nat) ^^^ x = 4294967295 - x := by
    apply Nat.eq_of_testBit_eq
    intro i
    rw [Nat.testBit_xor, show (4294967295 : Nat) = 2 ^ 32 - 1 from rfl, Nat.testBit_two_pow_sub_one, show 2 ^ 32 - 1 - x = 2 ^ 32 - (x + 1) from by omega, Nat.testBit_two_pow_sub_succ (by simpa using h)]
    by_cases q : i < 32
    · simp [q]
    · have h3 : 2 ^ 32 ≤ 2 ^ i := Nat.pow_le_pow_right (by omega) (by omega)
      rw [Nat.testBit_lt_two_pow (show x < 2 ^ i by omega)]
      simp [q]
  rw [h2]
set_option maxHeartbeats 2000000 in
theorem crcsum_any (v : Value) (b : List UInt8) (w : World) (h : Rd w 1 v b.length (bv b)) (hn : b.length ≤ 1000000) :
    Calls Try.prog 39 #[v] w fun e w' => e = .returned (.int .u32 (crcP b : Int)) ∧ w = w' := by
  obtain ⟨ao, cap, rfl⟩ := h.shape
  have H0 := Lib.hid h
  clear h
  go_enter Try.func39, Try.ntmps39
  go_wp2_with fail
  go_loopg [3, 8] b.length (fun m s3 s8 wr => ∃ i : Nat, i + m = b.length ∧ s8 = .int .i64 (i : Int) ∧ s3 = .int .u32 (crcL 4294967295 (b.take i) : Int) ∧ w = wr)
  case atStart => exact ⟨0, by omega, rfl, rfl, rfl⟩
  case round =>
    obtain ⟨i, hi, rfl, rfl, rfl⟩ := hrel
    cases gk with
    | zero =>
      obtain rfl : i = b.length := by omega
      rw [List.take_length]
      have hx : crcL 4294967295 b < 4294967296 := crcL_lt (by decide) b
      have HX : Hid (crcP b = 4294967295 - crcL 4294967295 b) := Lib.hid rfl
      generalize crcL 4294967295 b = x at *
      have HNOT := Lib.hid (not32 hx)
      clear hi
      go_wp2_with fail
      go_ret
      exact ⟨by rw [HX.out, ← HNOT.out]; rfl, rfl⟩
    | succ m =>
      have hil : (i : Int) < (b.length : Int) := by omega
      obtain ⟨y, hy⟩ : ∃ y, b[i]? = some y := ⟨_, List.getElem?_eq_getElem (by omega)⟩
      obtain ⟨ad, rfl, hc⟩ := H0.out.at (bv_get b i y hy)
      have HT : Hid (crcL 4294967295 (b.take (i + 1)) = crcS (crcL 4294967295 (b.take i)) y) := Lib.hid (by rw [List.take_add_one, hy, ← crcL_snoc]; rfl)
      have hx : crcL 4294967295 (b.take i) < 4294967296 := crcL_lt (by decide) _
      clear hy
      generalize crcL 4294967295 (b.take i) = x at *
      have hy256 := y.toNat_lt
      have hwy : IntKind.u32.wrap (y.toNat : Int) = (y.toNat : Int) := by rw [wrap_u32']; omega
      have hxy := xor32 (a := x) (b := y.toNat) hx (by omega)
      have hz : x ^^^ y.toNat < 4294967296 := Nat.xor_lt_two_pow (n := 32) hx (by omega)
      have HZ : Hid (crcS x y = crcC (x ^^^ y.toNat) 8) := Lib.hid rfl
      generalize x ^^^ y.toNat = z at *
      go_wp2_with fail
      go_loopg [3, 16] 8 (fun m s3 s16 wr => ∃ (j q : Nat), j + m = 8 ∧ s16 = .int .i64 (j : Int) ∧ s3 = .int .u32 (q : Int) ∧ q < 4294967296 ∧ Hid (crcC q m = crcC z 8) ∧ w = wr)
      case atStart => exact ⟨0, z, by omega, rfl, rfl, hz, Lib.hid rfl, rfl⟩
      case round =>
        obtain ⟨j, q, hj, rfl, rfl, hq, HQ, rfl⟩ := hrel
        cases gk with
        | zero =>
          obtain rfl : j = 8 := by omega
          clear hj
          go_wp2_with fail
          go_roundg m
          case measure => omega
          case rel => exact ⟨i + 1, by omega, by go_num, by rw [HT.out, HZ.out, ← HQ.out]; rfl, rfl⟩
        | succ mm =>
          have hjl : (j : Int) < 8 := by omega
          have HCB := Lib.hid (crc_bit hq)
          have hql := crcB_lt hq
          go_wp2_with fail
          go_roundg mm
          case measure => omega
          case rel => exact ⟨j + 1, crcB q, by omega, by go_num, by rw [HCB.out], hql, Lib.hid (by rw [← HQ.out]; rfl), rfl⟩
theorem orP {a c : Nat} (k : Nat) {Y X : Int} (hY : Y = (a : Int)) (hX : X = ((c * 2 ^ k : Nat) : Int)) (ha : a < 2 ^ k) (hs : a + c * 2 ^ k < 4294967296) : bits .or .u32 Y X = ((a + c * 2 ^ k : Nat) : Int) := by
  subst hX hY
  rw [or32 (by omega) (by omega), Nat.or_comm, Nat.mul_comm, ← Nat.two_pow_add_eq_or_of_lt ha, Nat.add_comm]
/-- A number in four bytes. -/
def fourB (n : Nat) : List UInt8 := [UInt8.ofNat n, UInt8.ofNat (n / 256), UInt8.ofNat (n / 65536), UInt8.ofNat (n / 16777216)]
def getB (b : List UInt8) : Nat := (b.getD 0 0).toNat + 256 * (b.getD 1 0).toNat + 65536 * (b.getD 2 0).toNat + 16777216 * (b.getD 3 0).toNat
theorem getB_lt (b : List UInt8) : getB b < 4294967296 := by
  unfold getB
  have := (b.getD 0 0).toNat_lt
  have := (b.getD 1 0).toNat_lt
  have := (b.getD 2 0).toNat_lt
  have := (b.getD 3 0).toNat_lt
  omega
theorem getB_four (n : Nat) (r : List UInt8) (h : n < 4294967296) : getB (fourB n ++ r) = n := by
  unfold getB fourB
  simp
  omega
theorem fourB_length (n : Nat) : (fourB n).length = 4 := rfl
set_option maxHeartbeats 2000000 in
theorem four_any (n : Nat) (w : World) (hn : n < 4294967296) :
    Calls Try.prog 37 #[.int .u32 (n : Int)] w fun e w' => ∃ v c, e = .returned v ∧ RowC 5 1 v 4 (bv (fourB n)) c ∧ St w.heap.size w w' [c] := by
  go_enter Try.func37, Try.ntmps37
  go_wp2_with fail
  go_ret
  have e : bv (fourB n) = [.int .u8 ((n : Int) % 256), .int .u8 ((n : Int) / 256 % 256), .int .u8 ((n : Int) / 65536 % 256), .int .u8 ((n : Int) / 16777216)] := by
    simp [bv, fourB]
    omega
  refine ⟨_, _, rfl, RowC.fresh (cap := 4) (X := #[.int .u8 ((n : Int) % 256), .int .u8 ((n : Int) / 256 % 256), .int .u8 ((n : Int) / 65536 % 256), .int .u8 ((n : Int) / 16777216)]) w.heap.size _ (by simp [bv, fourB]) (by omega) (by decide) rfl (by rw [e]; rfl), (St.init w).alloc _⟩
set_option maxHeartbeats 2000000 in
theorem getfour_any (v : Value) (b : List UInt8) (w : World) (h : Rd w 1 v b.length (bv b)) (hn : 4 ≤ b.length) :
    Calls Try.prog 41 #[v] w fun e w' => e = .returned (.int .u32 (getB b : Int)) ∧ Drew w w' := by
  obtain ⟨ao, cap, rfl⟩ := h.shape
  have H0 := Lib.hid h
  have hn4 : (4 : Int) ≤ (b.length : Int) := by omega
  obtain ⟨y0, hy0⟩ : ∃ y, b[0]? = some y := ⟨_, List.getElem?_eq_getElem (by omega)⟩
  obtain ⟨y1, hy1⟩ : ∃ y, b[1]? = some y := ⟨_, List.getElem?_eq_getElem (by omega)⟩
  obtain ⟨y2, hy2⟩ : ∃ y, b[2]? = some y := ⟨_, List.getElem?_eq_getElem (by omega)⟩
  obtain ⟨y3, hy3⟩ : ∃ y, b[3]? = some y := ⟨_, List.getElem?_eq_getElem (by omega)⟩
  obtain ⟨ad, rfl, k0⟩ := h.at (bv_get b 0 y0 hy0)
  obtain ⟨_, e1, k1⟩ := h.at (bv_get b 1 y1 hy1)
  obtain ⟨_, e2, k2⟩ := h.at (bv_get b 2 y2 hy2)
  obtain ⟨_, e3, k3⟩ := h.at (bv_get b 3 y3 hy3)
  cases e1
  cases e2
  cases e3
  have HG : Hid (getB b = y0.toNat + 256 * y1.toNat + 65536 * y2.toNat + 16777216 * y3.toNat) := Lib.hid (by
    unfold getB
    simp only [List.getD_eq_getElem?_getD, hy0, hy1, hy2, hy3, Option.getD_some])
  rw [show ad.add 0 = ad from by cases ad; rfl] at k0
  replace k1 : w.cell? ⟨ad.block, ad.off + 1, none⟩ = _ := k1
  replace k2 : w.cell? ⟨ad.block, ad.off + 2, none⟩ = _ := k2
  replace k3 : w.cell? ⟨ad.block, ad.off + 3, none⟩ = _ := k3
  have l0 := y0.toNat_lt
  have l1 := y1.toNat_lt
  have l2 := y2.toNat_lt
  have l3 := y3.toNat_lt
  have w0 : (y0.toNat : Int) % 4294967296 = (y0.toNat : Int) := by omega
  have w1 : (y1.toNat : Int) % 4294967296 = (y1.toNat : Int) := by omega
  have w2 : (y2.toNat : Int) % 4294967296 = (y2.toNat : Int) := by omega
  have w3 : (y3.toNat : Int) % 4294967296 = (y3.toNat : Int) := by omega
  clear h hy0 hy1 hy2 hy3
  go_enter Try.func41, Try.ntmps41
  go_wp2_with (first | ((with_reducible refine wpStill_plain ?_ ?_ (fun _ _ => ?_)); rfl; rfl) | (with_reducible refine wpStill_nil ?_) | ((with_reducible refine wp_draw_all (id := 3) mixed ?_ (fun _ _ => ?_)); kernel_rfl))
  go_ret
  refine ⟨?_, Drew.mk w 1⟩
  have o1 := orP (a := y0.toNat) (c := y1.toNat) 8 (X := (y1.toNat : Int) * 256) rfl (by omega) (by omega) (by omega)
  have o2 := orP (c := y2.toNat) 16 (X := (y2.toNat : Int) * 65536) o1 (by omega) (by omega) (by omega)
  have o3 := orP (c := y3.toNat) 24 (X := (y3.toNat : Int) * 16777216) o2 (by omega) (by omega) (by omega)
  have o4 : bits .or .u32 (bits .or .u32 (bits .or .u32 (y0.toNat : Int) ((y1.toNat : Int) * 256)) ((y2.toNat : Int) * 65536)) ((y3.toNat : Int) * 16777216) = ((getB b : Nat) : Int) := by
    rw [o3, HG.out]
    omega
  exact congrArg (fun z => Ending.returned (Value.int .u32 z)) o4
end Go.Proofs.Ythgbkncanoknkaa
/-
  Contracts of crc.Seal, crc.First.
-/
set_option linter.unusedVariables false
set_option linter.unusedSimpArgs false
namespace Go.Proofs.Ythgbkncanoknkaa
open Go.RowKit
set_option maxRecDepth 100000
theorem crcP_lt (b : List UInt8) : crcP b < 4294967296 := by unfold crcP; omega
/-- Bytes, sealed. -/
def sealP (h : List UInt8) : List UInt8 := fourB h.length ++ fourB (crcP (fourB h.length)) ++ fourB (crcP h) ++ h
theorem sealP_length (h : List UInt8) : (sealP h).length = 12 + h.length := by unfold sealP; simp only [List.length_append, fourB_length]
theorem quiet_drew {P : Program} {f : FuncId} {args : Array Value} {w : World} {n : Nat} {v : Value}
    (h : Calls P f args (w.drewN n) fun e w' => e = .returned v ∧ Drew (w.drewN n) w') : Calls P f args (w.drewN n) fun e w'' => e = .returned v ∧ ∃ m, w'' = w.drewN m :=
  h.mono fun _ _ ⟨he, k, hw⟩ => ⟨he, n + k, by rw [hw, World.drewN_drewN]⟩
theorem rd_len {w : World} {v : Value} {n : Nat} {b : List UInt8} (h : Rd w 1 v n (bv b)) : n = b.length := by
  have := h.len
  rw [bv_length, Nat.mul_one] at this
  exact this.symm
theorem crcsum_n (v : Value) (b : List UInt8) (n : Nat) (w : World) (h : Rd w 1 v n (bv b)) (hn : n ≤ 1000000) :
    Calls Try.prog 39 #[v] w fun e w' => e = .returned (.int .u32 (crcP b : Int)) ∧ w = w' := by
  obtain rfl := rd_len h
  exact crcsum_any v b w h hn
theorem getfour_n (v : Value) (b : List UInt8) (n : Nat) (w : World) (h : Rd w 1 v n (bv b)) (hn : 4 ≤ n) :
    Calls Try.prog 41 #[v] w fun e w' => e = .returned (.int .u32 (getB b : Int)) ∧ Drew w w' := by
  obtain rfl := rd_len h
  exact getfour_any v b w h hn
set_option maxHeartbeats 2000000 in
theorem crcseal_any (v : Value) (b : List UInt8) (w : World) (h : Rd w 1 v b.length (bv b)) (hn : b.length ≤ 1000000) :
    Calls Try.prog 29 #[v] w (BytesOut (sealP b) w) := by
  obtain ⟨i0, i0a, i0b, i0c, i0d⟩ := info_parts infoU8
  obtain ⟨ao, cap, rfl⟩ := h.shape
  have H0 := Lib.hid h
  have hwl : IntKind.u32.wrap (b.length : Int) = (b.length : Int) := by rw [wrap_u32']; omega
  have hwl2 : (b.length : Int) % 4294967296 = (b.length : Int) := by omega
  clear h
  go_enter Try.func29, Try.ntmps29
  go_wp2_with fail
  refine (four_any b.length w (by omega)).mono ?_
  rintro e w1 ⟨v1, c1, rfl, hr1, hS1⟩
  obtain ⟨ao1, cap1, rfl⟩ := hr1.shape
  have hl4 : (fourB b.length).length = 4 := rfl
  generalize hf4 : fourB b.length = n4 at *
  have HF4 := Lib.hid hf4
  have HL4 := Lib.hid hl4
  have H1 := Lib.hid (And.intro hr1 hS1)
  clear hr1 hS1 hf4 hl4
  go_wp2_with fail
  refine (clone_any (.slice ao1 4 cap1) 4 n4 w1 (H1.out.1.rd H1.out.2 0 rfl) (by omega)).mono ?_
  rintro e w2 ⟨v2, c2, rfl, hr2, hS2⟩
  obtain ⟨ao2, cap2, rfl⟩ := hr2.shape
  have H2 := Lib.hid (And.intro hr2 (H1.out.2.join hS2))
  clear hr2 hS2
  go_wp2_with fail
  refine (crcsum_any (.slice ao1 4 cap1) n4 w2 (by rw [HL4.out]; exact H1.out.1.rd H2.out.2 1 rfl) (by rw [HL4.out]; omega)).mono ?_
  rintro e w3 ⟨rfl, rfl⟩
  go_wp2_with fail
  refine (four_any (crcP n4) w2 (crcP_lt _)).mono ?_
  rintro e w3 ⟨v3, c3, rfl, hr3, hS3⟩
  have hS3' := H2.out.2.join hS3
  have hr2' := H2.out.1
  have hrd3 := hr3.rd hS3' 0 rfl
  obtain ⟨ao3, cap3, rfl⟩ := hr3.shape
  clear hS3 hr3
  go_wp2_with ((at_builtin; (refine wpList_app 1 29 i0 (.int .u8 0) _ _ rfl rfl rfl rfl Try.underlying29 i0a i0b i0c i0d rfl (by decide) hS3' rfl hr2' hrd3 (bv_one _) ?_ ?_ ?_); (unfold maxLen; omega); omega; intro v4 c4 w4 hr4 hS4); (obtain ⟨ao4, cap4, rfl⟩ := hr4.shape); rw [← bv_append] at hr4; have H4 := Lib.hid (And.intro hr4 (hS4.pick [1] (by decide) [c4] rfl)); clear hr4 hS4 hS3' hr2' hrd3)
  refine (crcsum_any (.slice ao b.length cap) b w4 (H0.out.st H4.out.2) hn).mono ?_
  rintro e w5 ⟨rfl, rfl⟩
  go_wp2_with fail
  refine (four_any (crcP b) w4 (crcP_lt _)).mono ?_
  rintro e w5 ⟨v5, c5, rfl, hr5, hS5⟩
  have hS5' := H4.out.2.join hS5
  have hr4' := H4.out.1
  have hrd5 := hr5.rd hS5' 0 rfl
  obtain ⟨ao5, cap5, rfl⟩ := hr5.shape
  clear hS5 hr5
  go_wp2_with (first | ((at_builtin; (refine wpList_app 0 29 i0 (.int .u8 0) _ _ rfl rfl rfl rfl Try.underlying29 i0a i0b i0c i0d rfl (by decide) hS6 rfl hr6 hrd0 (bv_one _) ?_ ?_ ?_); (unfold maxLen; omega); omega; intro v7 c7 w7 hr7 hS7); (obtain ⟨ao7, cap7, rfl⟩ := hr7.shape); rw [← bv_append] at hr7; replace hS7 := hS7.pick [0] (by decide) [c7] rfl; clear hS6 hr6 hrd0) | ((at_builtin; (refine wpList_app 1 29 i0 (.int .u8 0) _ _ rfl rfl rfl rfl Try.underlying29 i0a i0b i0c i0d rfl (by decide) hS5' rfl hr4' hrd5 (bv_one _) ?_ ?_ ?_); (unfold maxLen; omega); omega; intro v6 c6 w6 hr6 hS6); (obtain ⟨ao6, cap6, rfl⟩ := hr6.shape); rw [← bv_append] at hr6; replace hS6 := hS6.pick [1] (by decide) [c6] rfl; have hrd0 := H0.out.st hS6; clear hS5' hr4' hrd5))
  go_ret
  refine ⟨_, c7, rfl, ?_, hS7⟩
  have e : n4 ++ fourB (crcP n4) ++ fourB (crcP b) ++ b = sealP b := by unfold sealP; rw [HF4.out]
  rw [← e]
  have el : (n4 ++ fourB (crcP n4) ++ fourB (crcP b) ++ b).length = 4 + 4 + 4 + b.length := by simp only [List.length_append, fourB_length, HL4.out]
  rw [el]
  exact hr7
theorem bv_drop (b : List UInt8) (k : Nat) : bv (b.drop k) = (bv b).drop (k * 1) := by rw [Nat.mul_one]; simp [bv]
theorem bv_take (b : List UInt8) (k : Nat) : bv (b.take k) = (bv b).take (k * 1) := by rw [Nat.mul_one]; simp [bv]
/-- The seal at the beginning: what is sealed. -/
def firstP (b : List UInt8) : Option (List UInt8) :=
  if b.length < 12 ∨ getB (b.drop 4) ≠ crcP (b.take 4) ∨ b.length - 12 < getB b ∨ getB (b.drop 8) ≠ crcP ((b.drop 12).take (getB b)) then none else some ((b.drop 12).take (getB b))
def FirstOut (b : List UInt8) (w : World) (e : Ending) (w' : World) : Prop :=
  (∃ h v c, firstP b = some h ∧ e = .returned (.tuple #[v, .int .i64 ((12 + h.length : Nat) : Int), .bool true]) ∧ RowC 5 1 v h.length (bv h) c ∧ St w.heap.size w w' [c]) ∨
  (firstP b = none ∧ ∃ q, e = .returned (.tuple #[.slice none 0 0, .int .i64 0, .bool q]) ∧ St w.heap.size w w' [])
set_option maxHeartbeats 2000000 in
theorem crcfirst_any (v : Value) (b : List UInt8) (w : World) (h : Rd w 1 v b.length (bv b)) (hn : b.length ≤ 1000000) :
    Calls Try.prog 31 #[v] w (FirstOut b w) := by
  obtain ⟨i0, i0a, i0b, i0c, i0d⟩ := info_parts infoU8
  obtain ⟨ao, cap, rfl⟩ := h.shape
  have H0 := Lib.hid h
  by_cases q12 : b.length < 12
  · have q12i : (b.length : Int) < 12 := by omega
    have HN : Hid (firstP b = none) := Lib.hid (by unfold firstP; rw [if_pos (.inl q12)])
    clear h q12
    go_enter Try.func31, Try.ntmps31
    go_wp2_with fail
    go_ret3
    exact .inr ⟨HN.out, true, rfl, St.init w⟩
  have q12i : (12 : Int) ≤ (b.length : Int) := by omega
  have hcap := h.cap
  have hcapi : (b.length : Int) ≤ (cap : Int) := by omega
  obtain ⟨ad, rfl⟩ : ∃ ad, ao = some ad := by
    cases ao with
    | none => have := h.none_iff; omega
    | some ad => exact ⟨ad, rfl⟩
  have r4 : Rd w 1 (.slice (some ⟨ad.block, ad.off + 4, none⟩) (b.length - 4) (cap - 4)) (b.length - 4) (bv (b.drop 4)) := by
    have := h.drop (ao' := some ⟨ad.block, ad.off + 4, none⟩) 4 (by omega) (fun _ => rfl) (fun e => by omega)
    rwa [← bv_drop] at this
  have t4 : Rd w 1 (.slice (some ad) 4 cap) 4 (bv (b.take 4)) := by
    have := h.take 4 (by omega)
    rwa [← bv_take] at this
  have r8 : Rd w 1 (.slice (some ⟨ad.block, ad.off + 8, none⟩) (b.length - 8) (cap - 8)) (b.length - 8) (bv (b.drop 8)) := by
    have := h.drop (ao' := some ⟨ad.block, ad.off + 8, none⟩) 8 (by omega) (fun _ => rfl) (fun e => by omega)
    rwa [← bv_drop] at this
  have HA4 : Hid (∀ k, Calls Try.prog 41 #[.slice (some ⟨ad.block, ad.off + 4, none⟩) (b.length - 4) (cap - 4)] (w.drewN k) fun e w' => e = .returned (.int .u32 (getB (b.drop 4) : Int)) ∧ ∃ m, w' = w.drewN m) :=
    Lib.hid fun k => quiet_drew (getfour_n _ _ _ _ (r4.drewN k) (by omega))
  have HB4 : Hid (∀ k, Calls Try.prog 39 #[.slice (some ad) 4 cap] (w.drewN k) fun e w' => e = .returned (.int .u32 (crcP (b.take 4) : Int)) ∧ ∃ m, w' = w.drewN m) :=
    Lib.hid fun k => quiet_same (crcsum_n _ _ _ _ (t4.drewN k) (by omega))
  have HR8 := Lib.hid r8
  have HR := Lib.hid h
  have HN : Hid (firstP b = if getB (b.drop 4) ≠ crcP (b.take 4) ∨ b.length - 12 < getB b ∨ getB (b.drop 8) ≠ crcP ((b.drop 12).take (getB b)) then none else some ((b.drop 12).take (getB b))) := Lib.hid (by
    unfold firstP
    by_cases q : getB (b.drop 4) ≠ crcP (b.take 4) ∨ b.length - 12 < getB b ∨ getB (b.drop 8) ≠ crcP ((b.drop 12).take (getB b))
    · rw [if_pos q, if_pos (.inr q)]
    · rw [if_neg q, if_neg (by rintro (h | h); exact q12 h; exact q h)])
  have HGF := Lib.hid (fun k => getfour_any _ b _ (h.drewN k) (by omega))
  clear h r4 t4 r8
  generalize getB (b.drop 4) = G4 at *
  generalize crcP (b.take 4) = C4 at *
  by_cases q1 : G4 = C4
  · subst q1
    have hq1 : ((G4 : Int) != (G4 : Int)) = false := by simp
    go_enter Try.func31, Try.ntmps31
    go_wp2_with fail
    go_quiet (first | (go_at_call 41; exact HA4.out _) | (go_at_call 39; exact HB4.out _))
    go_wp2_with fail
    refine (HGF.out _).mono ?_
    rintro e w2 ⟨rfl, k2, rfl⟩
    rw [World.drewN_drewN]
    have hGl := getB_lt b
    have hG64 : IntKind.u64.wrap (getB b : Int) = (getB b : Int) := by rw [wrap_u64']; omega
    have hG642 : (getB b : Int) % 18446744073709551616 = (getB b : Int) := by omega
    have hG63 : IntKind.i64.wrap (getB b : Int) = (getB b : Int) := IntWalk.i64_in _ (by omega)
    have hL64 : IntKind.u64.wrap ((b.length : Int) - 12) = (b.length : Int) - 12 := by rw [wrap_u64']; omega
    generalize hGe : getB b = n at *
    have HGE := Lib.hid hGe
    by_cases q2 : b.length - 12 < n
    · have q2i : (b.length : Int) - 12 < (n : Int) := by omega
      have HN2 : Hid (firstP b = none) := Lib.hid (by rw [HN.out, if_pos (.inr (.inl q2))])
      clear q2 hGe
      go_wp2_with fail
      go_ret3
      exact .inr ⟨HN2.out, true, rfl, (St.init w).drewN _⟩
    · have q2i : ¬ (b.length : Int) - 12 < (n : Int) := by omega
      have HQ2 := Lib.hid q2
      clear q2 hGe
      have hn12 : n + 12 ≤ b.length := by have := HQ2.out; omega
      obtain ⟨aox, hx⟩ : ∃ aox, (¬ cap = 12 → aox = some ⟨ad.block, ad.off + 12, none⟩) ∧ (cap = 12 → aox = some ad) := by
        by_cases e : cap = 12
        · exact ⟨_, fun h => absurd e h, fun _ => rfl⟩
        · exact ⟨_, fun _ => rfl, fun h => absurd h e⟩
      have rx : Rd w 1 (.slice aox n (cap - 12)) n (bv ((b.drop 12).take n)) := by
        have h1 := HR.out.drop (ao' := aox) 12 (by omega) (fun e => by rw [hx.1 e]; rfl) (fun e => hx.2 e)
        have h2 := h1.take n (by omega)
        rwa [← bv_drop, ← bv_take] at h2
      have HRX := Lib.hid rx
      have hxl := rd_len rx
      have HXL := Lib.hid hxl
      have HX := Lib.hid (And.intro hx HN.out)
      clear rx hxl hx HN HA4 HB4 HGF hG64 hG642 hL64
      by_cases qc : cap = 12
      case' pos =>
        obtain rfl := HX.out.1.2 qc
        subst qc
        go_wp2_with fail
      case' neg =>
        obtain rfl := HX.out.1.1 qc
        go_wp2_with fail
      all_goals
        refine (getfour_n _ (b.drop 8) _ _ (HR8.out.drewN _) (by omega)).mono ?_
        rintro e w3 ⟨rfl, k3, rfl⟩
        rw [World.drewN_drewN]
        go_wp2_with fail
        refine (crcsum_n _ ((b.drop 12).take n) n _ (HRX.out.drewN _) (by omega)).mono ?_
        rintro e w4 ⟨rfl, rfl⟩
        generalize hgx : (b.drop 12).take n = x at *
        generalize hg8 : getB (b.drop 8) = G8 at *
        have HG8 := Lib.hid (And.intro hg8 hgx)
        clear hg8 hgx
        by_cases q3 : G8 = crcP x
        · have HF : Hid (firstP b = some x) := Lib.hid (by
            rw [HX.out.2, if_neg (by rintro (h | h | h); exact h rfl; exact HQ2.out h; exact h q3)])
          have q3i : ((G8 : Int) != (crcP x : Int)) = false := by rw [q3]; simp
          clear q3
          go_wp2_with (at_builtin; (refine wpList_app 0 29 i0 (.int .u8 0) _ _ rfl rfl rfl rfl Try.underlying29 i0a i0b i0c i0d rfl (by decide) (((St.init w).drewN _).alloc _) rfl (RowC.fresh _ [] rfl (Nat.le_refl 0) (Nat.zero_le _) rfl rfl) ((HRX.out.drewN _).keep (Below.alloc (Below.refl _ _) (Nat.le_refl _) _)) (bv_one x) ?_ ?_ ?_); (unfold maxLen; omega); omega; intro v1 c1 w1 hr1 hs1)
          go_ret3
          simp only [Nat.zero_add, List.nil_append] at hr1
          refine .inl ⟨x, v1, c1, HF.out, ?_, ?_, hs1⟩
          · have e := HXL.out
            rw [← e]
            simp
          · have e := HXL.out
            rw [← e]
            exact hr1
        · have HF : Hid (firstP b = none) := Lib.hid (by
            rw [HX.out.2, if_pos (.inr (.inr q3))])
          have q3i : ((G8 : Int) != (crcP x : Int)) = true := by rw [bne_iff_ne]; omega
          clear q3
          go_wp2_with fail
          go_ret3
          exact .inr ⟨HF.out, false, rfl, (St.init w).drewN _⟩
  · have hq1 : ((G4 : Int) != (C4 : Int)) = true := by rw [bne_iff_ne]; omega
    have HN2 : Hid (firstP b = none) := Lib.hid (by rw [HN.out, if_pos (.inl q1)])
    clear q1
    go_enter Try.func31, Try.ntmps31
    go_wp2_with fail
    go_quiet (first | (go_at_call 41; exact HA4.out _) | (go_at_call 39; exact HB4.out _))
    go_wp2_with fail
    go_ret3
    exact .inr ⟨HN2.out, false, rfl, (St.init w).drewN _⟩
end Go.Proofs.Ythgbkncanoknkaa
/-
  Rows of bools.
-/
set_option linter.unusedVariables false
set_option linter.unusedSimpArgs false
namespace Go.Proofs.Ythgbkncanoknkaa
open Go.RowKit
theorem infoBool : (Try.prog.info? 4).map (fun i => (i.zero, i.size, i.bytes)) = some (some (.bool false), 1, 1) := by kernel_rfl
/-- Bools as cells. -/
def bl (l : List Bool) : List Value := l.map Value.bool
theorem bl_length (l : List Bool) : (bl l).length = l.length := by simp [bl]
theorem bl_append (a b : List Bool) : bl (a ++ b) = bl a ++ bl b := by simp [bl]
theorem bl_get (l : List Bool) (i : Nat) (x : Bool) (h : l[i]? = some x) : (bl l)[i]? = some (.bool x) := by simp [bl, h]
end Go.Proofs.Ythgbkncanoknkaa
/-
  Rows of numbers and of bools by functions.
-/
set_option linter.unusedVariables false
set_option linter.unusedSimpArgs false
namespace Go.Proofs.Ythgbkncanoknkaa
open Go.RowKit
set_option maxRecDepth 100000
/-- Numbers by places. -/
def mkI (f : Nat → Int) (n : Nat) : List Int := (List.range n).map f
theorem mkI_length (f : Nat → Int) (n : Nat) : (mkI f n).length = n := by simp [mkI]
theorem mkI_get (f : Nat → Int) (n i : Nat) (h : i < n) : (mkI f n)[i]? = some (f i) := by simp [mkI, h]
theorem mkI_set (f : Nat → Int) (n i : Nat) (v : Int) : (mkI f n).set i v = mkI (fun j => if j = i then v else f j) n := by
  apply List.ext_getElem?
  intro j
  rw [List.getElem?_set, mkI_length]
  by_cases hj : j < n
  · rw [mkI_get _ _ _ hj, mkI_get _ _ _ hj]
    by_cases e : i = j
    · subst e; simp [hj]
    · have e' : ¬ j = i := fun x => e x.symm
      simp [e, e']
  · rw [List.getElem?_eq_none (by rw [mkI_length]; omega), List.getElem?_eq_none (by rw [mkI_length]; omega)]
    by_cases e : i = j
    · subst e; simp [hj]
    · simp [e]
theorem mkI_congr (f g : Nat → Int) (n : Nat) (h : ∀ i, i < n → f i = g i) : mkI f n = mkI g n := by
  unfold mkI
  apply List.map_congr_left
  intro i hi
  exact h i (by simpa using hi)
theorem mkI_const (v : Int) (n : Nat) : mkI (fun _ => v) n = List.replicate n v := by
  unfold mkI
  rw [List.eq_replicate_iff]
  refine ⟨by simp, ?_⟩
  intro x hx
  obtain ⟨_, _, rfl⟩ := List.mem_map.1 hx
  rfl
theorem iv_set (l : List Int) (i : Nat) (v : Int) : (iv l).set i (.int .i64 v) = iv (l.set i v) := by simp [iv, List.map_set]
theorem iv_replicate (n : Nat) (v : Int) : iv (List.replicate n v) = List.replicate n (.int .i64 v) := by simp [iv]
/-- Bools by places. -/
def mkB (f : Nat → Bool) (n : Nat) : List Bool := (List.range n).map f
theorem mkB_length (f : Nat → Bool) (n : Nat) : (mkB f n).length = n := by simp [mkB]
theorem mkB_get (f : Nat → Bool) (n i : Nat) (h : i < n) : (mkB f n)[i]? = some (f i) := by simp [mkB, h]
theorem mkB_set (f : Nat → Bool) (n i : Nat) (v : Bool) : (mkB f n).set i v = mkB (fun j => if j = i then v else f j) n := by
  apply List.ext_getElem?
  intro j
  rw [List.getElem?_set, mkB_length]
  by_cases hj : j < n
  · rw [mkB_get _ _ _ hj, mkB_get _ _ _ hj]
    by_cases e : i = j
    · subst e; simp [hj]
    · have e' : ¬ j = i := fun x => e x.symm
      simp [e, e']
  · rw [List.getElem?_eq_none (by rw [mkB_length]; omega), List.getElem?_eq_none (by rw [mkB_length]; omega)]
    by_cases e : i = j
    · subst e; simp [hj]
    · simp [e]
theorem mkB_congr (f g : Nat → Bool) (n : Nat) (h : ∀ i, i < n → f i = g i) : mkB f n = mkB g n := by
  unfold mkB
  apply List.map_congr_left
  intro i hi
  exact h i (by simpa using hi)
theorem bl_set (l : List Bool) (i : Nat) (v : Bool) : (bl l).set i (.bool v) = bl (l.set i v) := by simp [bl, List.map_set]

end Go.Proofs.Ythgbkncanoknkaa
/-
  Lengths of codes, plain: coins, packages, the merging of lists; how many leaves are taken at each level; Kraft; the least cost.
-/
set_option linter.unusedVariables false
set_option linter.unusedSimpArgs false
namespace Go.Proofs.Ythgbkncanoknkaa
inductive Coin where
  | leaf (w s : Nat) : Coin
  | pack (a b : Coin) : Coin
deriving DecidableEq
def Coin.worth : Coin → Nat
  | .leaf w _ => w
  | .pack a b => a.worth + b.worth
/-- How often a symbol stands in a coin. -/
def Coin.cnt (s : Nat) : Coin → Nat
  | .leaf _ t => if t = s then 1 else 0
  | .pack a b => a.cnt s + b.cnt s
section
variable {α : Type}
def mergeF (key : α → Nat) : Nat → List α → List α → List α
  | 0, a, b => a ++ b
  | _ + 1, [], b => b
  | _ + 1, x :: a, [] => x :: a
  | n + 1, x :: a, y :: b => if key x ≤ key y then x :: mergeF key n a (y :: b) else y :: mergeF key n (x :: a) b
def mergeK (key : α → Nat) (a b : List α) : List α := mergeF key (a.length + b.length) a b
theorem mergeF_nil (key : α → Nat) (n : Nat) (b : List α) : mergeF key n [] b = b := by cases n <;> rfl
theorem mergeF_nil2 (key : α → Nat) (n : Nat) (a : List α) : mergeF key n a [] = a := by cases n <;> cases a <;> simp [mergeF]
theorem mergeK_nil (key : α → Nat) (b : List α) : mergeK key [] b = b := mergeF_nil _ _ _
theorem mergeK_nil2 (key : α → Nat) (a : List α) : mergeK key a [] = a := mergeF_nil2 _ _ _
theorem mergeK_cons (key : α → Nat) (x y : α) (a b : List α) : mergeK key (x :: a) (y :: b) = if key x ≤ key y then x :: mergeK key a (y :: b) else y :: mergeK key (x :: a) b := by
  unfold mergeK
  have e : (x :: a).length + (y :: b).length = (a.length + (y :: b).length) + 1 := by simp; omega
  have e2 : (x :: a).length + b.length = a.length + (y :: b).length := by simp; omega
  rw [e, e2, mergeF]
theorem mergeK_ind {P : List α → List α → Prop} (h1 : ∀ b, P [] b) (h2 : ∀ x a, P (x :: a) []) (h3 : ∀ x a y b, P a (y :: b) → P (x :: a) b → P (x :: a) (y :: b)) : ∀ a b, P a b
  | [], b => h1 b
  | x :: a, [] => h2 x a
  | x :: a, y :: b => h3 x a y b (mergeK_ind h1 h2 h3 a (y :: b)) (mergeK_ind h1 h2 h3 (x :: a) b)
termination_by a b => a.length + b.length
theorem mergeK_perm (key : α → Nat) : ∀ a b : List α, (mergeK key a b).Perm (a ++ b) := by
  apply mergeK_ind
  · intro b; rw [mergeK_nil]; exact List.Perm.refl _
  · intro x a; rw [mergeK_nil2, List.append_nil]
  · intro x a y b h1 h2
    rw [mergeK_cons]
    split
    · exact h1.cons x
    · refine (h2.cons y).trans ?_
      exact (List.perm_middle (l₁ := x :: a) (a := y) (l₂ := b)).symm
theorem mergeK_length (key : α → Nat) (a b : List α) : (mergeK key a b).length = a.length + b.length := by
  rw [(mergeK_perm key a b).length_eq, List.length_append]
def SortK (key : α → Nat) (l : List α) : Prop := l.Pairwise fun x y => key x ≤ key y
theorem mergeK_sorted (key : α → Nat) : ∀ a b : List α, SortK key a → SortK key b → SortK key (mergeK key a b) := by
  apply mergeK_ind
  · intro b _ h; rw [mergeK_nil]; exact h
  · intro x a h _; rw [mergeK_nil2]; exact h
  · intro x a y b h1 h2 ha hb
    unfold SortK at *
    rw [mergeK_cons]
    rw [List.pairwise_cons] at ha hb
    split
    · rename_i hle
      rw [List.pairwise_cons]
      refine ⟨fun z hz => ?_, h1 ha.2 (List.pairwise_cons.2 hb)⟩
      have := (mergeK_perm key a (y :: b)).subset hz
      rw [List.mem_append, List.mem_cons] at this
      rcases this with h | rfl | h
      · exact ha.1 z h
      · exact hle
      · exact Nat.le_trans hle (hb.1 z h)
    · rename_i hle
      rw [List.pairwise_cons]
      refine ⟨fun z hz => ?_, h2 (List.pairwise_cons.2 ha) hb.2⟩
      have := (mergeK_perm key (x :: a) b).subset hz
      rw [List.mem_append, List.mem_cons] at this
      rcases this with (rfl | h) | h
      · omega
      · have := ha.1 z h; omega
      · exact hb.1 z h
/-- The first m of a merged list: the first ones of both, and where they part. -/
theorem mergeK_take (key : α → Nat) : ∀ (a b : List α), ∀ m, m ≤ a.length + b.length → ∃ c p, c + p = m ∧ c ≤ a.length ∧ p ≤ b.length ∧ ((mergeK key a b).take m).Perm (a.take c ++ b.take p) ∧
    (∀ x y, SortK key a → SortK key b → a[c]? = some x → 0 < p → b[p - 1]? = some y → key y < key x) ∧ (∀ x y, SortK key a → SortK key b → 0 < c → a[c - 1]? = some x → b[p]? = some y → key x ≤ key y) := by
  apply mergeK_ind
  · intro b m hm
    simp only [List.length_nil, Nat.zero_add] at hm
    exact ⟨0, m, by omega, Nat.le_refl _, hm, by rw [mergeK_nil]; simp, by simp, by simp⟩
  · intro x a m hm
    simp only [List.length_nil, Nat.add_zero] at hm
    exact ⟨m, 0, by omega, hm, Nat.le_refl _, by rw [mergeK_nil2]; simp, by simp, by simp⟩
  · intro x a y b h1 h2 m hm
    rw [mergeK_cons]
    cases m with
    | zero => exact ⟨0, 0, rfl, Nat.zero_le _, Nat.zero_le _, by simp, by simp, by simp⟩
    | succ m =>
      simp only [List.length_cons] at hm
      split
      · rename_i hle
        obtain ⟨c, p, e1, e2, e3, e4, e5, e6⟩ := h1 m (by simp; omega)
        refine ⟨c + 1, p, by omega, by simp; omega, e3, by simpa using e4.cons x, ?_, ?_⟩
        · intro u v ha hb hu hp hv
          exact e5 u v (List.pairwise_cons.1 ha).2 hb (by simpa using hu) hp hv
        · intro u v ha hb _ hu hv
          cases c with
          | succ c => exact e6 u v (List.pairwise_cons.1 ha).2 hb (Nat.succ_pos _) (by simpa using hu) hv
          | zero =>
            simp at hu
            subst hu
            cases p with
            | zero => simp at hv; subst hv; exact hle
            | succ p =>
              simp only [List.getElem?_cons_succ] at hv
              have := (List.pairwise_cons.1 hb).1 v (List.mem_of_getElem? hv)
              omega
      · rename_i hle
        obtain ⟨c, p, e1, e2, e3, e4, e5, e6⟩ := h2 m (by simp; omega)
        refine ⟨c, p + 1, by omega, e2, by simp; omega, ?_, ?_, ?_⟩
        · rw [List.take_succ_cons, List.take_succ_cons]
          exact (e4.cons y).trans (List.perm_middle (l₁ := (x :: a).take c) (a := y) (l₂ := b.take p)).symm
        · intro u v ha hb hu _ hv
          cases p with
          | succ p => exact e5 u v ha (List.pairwise_cons.1 hb).2 hu (Nat.succ_pos _) (by simpa using hv)
          | zero =>
            simp at hv
            subst hv
            cases c with
            | zero => simp at hu; subst hu; omega
            | succ c =>
              simp only [List.getElem?_cons_succ] at hu
              have := (List.pairwise_cons.1 ha).1 u (List.mem_of_getElem? hu)
              omega
        · intro u v ha hb hc hu hv
          exact e6 u v ha (List.pairwise_cons.1 hb).2 hc hu (by simpa using hv)
end
def pairsC : List Coin → List Coin
  | x :: y :: l => .pack x y :: pairsC l
  | _ => []
def levelC (l : List Coin) : Nat → List Coin
  | 0 => l
  | k + 1 => mergeK Coin.worth l (pairsC (levelC l k))
theorem pairsC_length : ∀ l : List Coin, (pairsC l).length = l.length / 2
  | [] => rfl
  | [_] => by simp [pairsC]
  | _ :: _ :: l => by simp only [pairsC, List.length_cons, pairsC_length l]; omega
theorem pairsC_take : ∀ (l : List Coin) (p : Nat), 2 * p ≤ l.length → (pairsC l).take p = pairsC (l.take (2 * p))
  | _, 0, _ => by simp [pairsC]
  | [], p + 1, h => by simp at h
  | [_], p + 1, h => by simp at h; omega
  | x :: y :: l, p + 1, h => by
    rw [show 2 * (p + 1) = 2 * p + 1 + 1 from by omega]
    simp only [List.take_succ_cons, pairsC]
    rw [pairsC_take l p (by simp at h; omega)]
theorem pairsC_get : ∀ (l : List Coin) (p : Nat), 2 * p + 1 < l.length → ∃ x y, l[2 * p]? = some x ∧ l[2 * p + 1]? = some y ∧ (pairsC l)[p]? = some (.pack x y)
  | [], p, h => by simp at h
  | [_], p, h => by simp at h
  | x :: y :: l, 0, _ => ⟨x, y, rfl, rfl, rfl⟩
  | x :: y :: l, p + 1, h => by
    obtain ⟨u, v, h1, h2, h3⟩ := pairsC_get l p (by simp at h; omega)
    exact ⟨u, v, by rw [show 2 * (p + 1) = 2 * p + 1 + 1 from by omega]; simpa using h1, by rw [show 2 * (p + 1) + 1 = 2 * p + 1 + 1 + 1 from by omega]; simpa using h2, by simpa [pairsC] using h3⟩
theorem pairsC_sorted : ∀ l : List Coin, SortK Coin.worth l → SortK Coin.worth (pairsC l)
  | [], _ => List.Pairwise.nil
  | [_], _ => List.Pairwise.nil
  | x :: y :: l, h => by
    unfold SortK at *
    rw [pairsC]
    rw [List.pairwise_cons, List.pairwise_cons] at h
    rw [List.pairwise_cons]
    refine ⟨fun z hz => ?_, pairsC_sorted l h.2.2⟩
    obtain ⟨p, hp⟩ := List.mem_iff_getElem?.1 hz
    have hl := (List.getElem?_eq_some_iff.1 hp).1
    rw [pairsC_length] at hl
    obtain ⟨u, v, h1, h2, h3⟩ := pairsC_get l p (by omega)
    rw [hp] at h3
    cases h3
    have a1 := h.1 u (List.mem_cons_of_mem _ (List.mem_of_getElem? h1))
    have a2 := h.2.1 v (List.mem_of_getElem? h2)
    simp only [Coin.worth]
    omega
theorem levelC_sorted {l : List Coin} (h : SortK Coin.worth l) : ∀ k, SortK Coin.worth (levelC l k)
  | 0 => h
  | k + 1 => mergeK_sorted _ _ _ h (pairsC_sorted _ (levelC_sorted h k))
theorem levelC_length (l : List Coin) (k : Nat) : (levelC l (k + 1)).length = l.length + (levelC l k).length / 2 := by
  rw [levelC, mergeK_length, pairsC_length]
theorem level14_length (l : List Coin) (h1 : 2 ≤ l.length) (h : l.length ≤ 300) : 2 * l.length - 2 ≤ (levelC l 14).length := by
  have e := levelC_length l
  have h0 : (levelC l 0).length = l.length := rfl
  have s0 : 2 * l.length ≤ (levelC l 0).length + 300 := by omega
  have s1 : 2 * l.length ≤ (levelC l 1).length + 150 := by have q : (levelC l 1).length = l.length + (levelC l 0).length / 2 := e 0; omega
  have s2 : 2 * l.length ≤ (levelC l 2).length + 75 := by have q : (levelC l 2).length = l.length + (levelC l 1).length / 2 := e 1; omega
  have s3 : 2 * l.length ≤ (levelC l 3).length + 38 := by have q : (levelC l 3).length = l.length + (levelC l 2).length / 2 := e 2; omega
  have s4 : 2 * l.length ≤ (levelC l 4).length + 19 := by have q : (levelC l 4).length = l.length + (levelC l 3).length / 2 := e 3; omega
  have s5 : 2 * l.length ≤ (levelC l 5).length + 10 := by have q : (levelC l 5).length = l.length + (levelC l 4).length / 2 := e 4; omega
  have s6 : 2 * l.length ≤ (levelC l 6).length + 5 := by have q : (levelC l 6).length = l.length + (levelC l 5).length / 2 := e 5; omega
  have s7 : 2 * l.length ≤ (levelC l 7).length + 3 := by have q : (levelC l 7).length = l.length + (levelC l 6).length / 2 := e 6; omega
  have s8 : 2 * l.length ≤ (levelC l 8).length + 2 := by have q : (levelC l 8).length = l.length + (levelC l 7).length / 2 := e 7; omega
  have s9 : 2 * l.length ≤ (levelC l 9).length + 1 := by have q : (levelC l 9).length = l.length + (levelC l 8).length / 2 := e 8; omega
  have s10 : 2 * l.length ≤ (levelC l 10).length + 1 := by have q : (levelC l 10).length = l.length + (levelC l 9).length / 2 := e 9; omega
  have s11 : 2 * l.length ≤ (levelC l 11).length + 1 := by have q : (levelC l 11).length = l.length + (levelC l 10).length / 2 := e 10; omega
  have s12 : 2 * l.length ≤ (levelC l 12).length + 1 := by have q : (levelC l 12).length = l.length + (levelC l 11).length / 2 := e 11; omega
  have s13 : 2 * l.length ≤ (levelC l 13).length + 1 := by have q : (levelC l 13).length = l.length + (levelC l 12).length / 2 := e 12; omega
  have s14 : 2 * l.length ≤ (levelC l 14).length + 1 := by have q : (levelC l 14).length = l.length + (levelC l 13).length / 2 := e 13; omega
  omega
/-- Sums over lists of coins. -/
def sumC (g : Coin → Nat) (l : List Coin) : Nat := (l.map g).sum
theorem sumC_append (g : Coin → Nat) (a b : List Coin) : sumC g (a ++ b) = sumC g a + sumC g b := by simp [sumC]
theorem sumC_perm (g : Coin → Nat) {a b : List Coin} (h : a.Perm b) : sumC g a = sumC g b := (h.map g).sum_nat
theorem sumC_pairs (g : Coin → Nat) (hg : ∀ x y, g (.pack x y) = g x + g y) : ∀ (l : List Coin), l.length % 2 = 0 → sumC g (pairsC l) = sumC g l
  | [], _ => rfl
  | [_], h => by simp at h
  | x :: y :: l, h => by
    have := sumC_pairs g hg l (by simp at h; omega)
    simp only [pairsC, sumC, List.map_cons, List.sum_cons, hg] at *
    omega
theorem worth_get {l : List Coin} (h : SortK Coin.worth l) {i j : Nat} {x y : Coin} (hx : l[i]? = some x) (hy : l[j]? = some y) (hij : i ≤ j) : x.worth ≤ y.worth := by
  obtain ⟨h1, e1⟩ := List.getElem?_eq_some_iff.1 hx
  obtain ⟨h2, e2⟩ := List.getElem?_eq_some_iff.1 hy
  rcases Nat.lt_or_ge i j with q | q
  · have := List.pairwise_iff_getElem.1 h i j h1 h2 q
    rw [e1, e2] at this
    exact this
  · have : i = j := by omega
    subst this
    rw [hx] at hy
    cases hy
    exact Nat.le_refl _
def wsum : List Nat → Nat
  | [] => 0
  | c :: cs => c * 2 ^ cs.length + wsum cs
/-- The leaves that are taken, level by level from above: how many; each level takes no more than the one above. -/
theorem chain {l : List Coin} (h : SortK Coin.worth l) : ∀ (k m : Nat), m ≤ (levelC l k).length → ∃ cs : List Nat, cs.length = k + 1 ∧ (∀ c ∈ cs, c ≤ l.length) ∧ cs.Pairwise (fun a b => b ≤ a) ∧ m * 2 ^ k = wsum cs ∧
    (∀ g : Coin → Nat, (∀ x y, g (.pack x y) = g x + g y) → sumC g ((levelC l k).take m) = (cs.map fun c => sumC g (l.take c)).sum) ∧
    (∀ c, cs.head? = some c → ∀ i x, i < c → l[i]? = some x → x ∈ (levelC l k).take m) ∧
    (∀ c, cs.head? = some c → k = 0 → c = m) ∧
    (∀ c, cs.head? = some c → ∀ j, k = j + 1 → ∃ p, c + p = m ∧ p ≤ (pairsC (levelC l j)).length ∧ ∀ x y, l[c]? = some x → 0 < p → (pairsC (levelC l j))[p - 1]? = some y → y.worth < x.worth)
  | 0, m, hm => by
    refine ⟨[m], rfl, by simpa [levelC] using hm, List.pairwise_singleton _ _, by simp [wsum], fun g _ => by simp [levelC], ?_, fun c hc _ => by simpa using hc.symm, fun c _ j hj => by omega⟩
    intro c hc i x hi hx
    simp at hc
    subst hc
    exact List.mem_of_getElem? (i := i) (by rw [levelC, List.getElem?_take, if_pos hi]; exact hx)
  | k + 1, m, hm => by
    have hlen := hm
    rw [levelC, mergeK_length] at hlen
    obtain ⟨c, p, e1, e2, e3, e4, e5, e6⟩ := mergeK_take Coin.worth l (pairsC (levelC l k)) m hlen
    have hp2 : 2 * p ≤ (levelC l k).length := by rw [pairsC_length] at e3; omega
    obtain ⟨cs, f1, f2, f3, f4, f5, f6, f7, f8⟩ := chain h k (2 * p) hp2
    have hps := pairsC_sorted _ (levelC_sorted h k)
    have hhead : ∀ d, cs.head? = some d → d ≤ c := by
      intro d hd
      rcases Nat.lt_or_ge c d with q | q
      · exfalso
        have hdl : d ≤ l.length := f2 d (List.mem_of_mem_head? hd)
        obtain ⟨x, hx⟩ : ∃ x, l[c]? = some x := ⟨_, List.getElem?_eq_getElem (by omega)⟩
        have hmem := f6 d hd c x q hx
        obtain ⟨i, hi⟩ := List.mem_iff_getElem?.1 hmem
        rw [List.getElem?_take] at hi
        split at hi
        · rename_i hi2
          have hp0 : 0 < p := by omega
          obtain ⟨u, v, g1, g2, g3⟩ := pairsC_get (levelC l k) (p - 1) (by omega)
          have := e5 x _ h hps hx hp0 g3
          have hw := worth_get (levelC_sorted h k) hi g2 (by omega)
          simp only [Coin.worth] at this
          omega
        · cases hi
      · exact q
    refine ⟨c :: cs, by simp [f1], ?_, ?_, ?_, ?_, ?_, ?_, ?_⟩
    · intro d hd
      rcases List.mem_cons.1 hd with rfl | hd
      · exact e2
      · exact f2 d hd
    · rw [List.pairwise_cons]
      refine ⟨fun d hd => ?_, f3⟩
      cases cs with
      | nil => cases hd
      | cons z zs =>
        have hz := hhead z rfl
        rcases List.mem_cons.1 hd with rfl | hd
        · exact hz
        · exact Nat.le_trans ((List.pairwise_cons.1 f3).1 d hd) hz
    · rw [wsum, f1, ← f4, ← e1, Nat.pow_succ, Nat.add_mul, Nat.mul_assoc 2 p, Nat.mul_comm 2 (p * 2 ^ k), Nat.mul_assoc p]
    · intro g hg
      rw [levelC, sumC_perm g e4, sumC_append, pairsC_take _ _ hp2, sumC_pairs g hg _ (by rw [List.length_take]; omega), f5 g hg]
      simp
    · intro d hd i x hi hx
      simp at hd
      subst hd
      rw [levelC]
      exact e4.symm.subset (List.mem_append_left _ (List.mem_of_getElem? (i := i) (by rw [List.getElem?_take, if_pos hi]; exact hx)))
    · intro _ _ h0
      omega
    · intro d hd j hj
      simp at hd
      subst hd
      have : j = k := by omega
      subst this
      exact ⟨p, e1, e3, fun x y hx hp hy => e5 x y h hps hx hp hy⟩
/-- Not many packages are worth less than the last leaf. -/
theorem packs_few {l : List Coin} (h : SortK Coin.worth l) (hn : 2 ≤ l.length) {z : Coin} (hz : l[l.length - 1]? = some z) : ∀ (k p : Nat) (y : Coin), 0 < p → (pairsC (levelC l k))[p - 1]? = some y → y.worth < z.worth → p ≤ l.length - 2 := by
  have key : ∀ k p y, 0 < p → (pairsC (levelC l k))[p - 1]? = some y → y.worth < z.worth → ∀ i x, i < 2 * p → (levelC l k)[i]? = some x → x.worth < z.worth := by
    intro k p y hp hy hw i x hi hx
    have hl := (List.getElem?_eq_some_iff.1 hy).1
    rw [pairsC_length] at hl
    obtain ⟨u, v, g1, g2, g3⟩ := pairsC_get (levelC l k) (p - 1) (by omega)
    rw [hy] at g3
    cases g3
    have := worth_get (levelC_sorted h k) hx g2 (by omega)
    simp only [Coin.worth] at hw
    omega
  intro k
  induction k with
  | zero =>
    intro p y hp hy hw
    have hl := (List.getElem?_eq_some_iff.1 hy).1
    rw [pairsC_length, levelC] at hl
    have := key 0 p y hp hy hw
    rcases Nat.lt_or_ge (l.length - 1) (2 * p) with q | q
    · have := this (l.length - 1) z q hz
      omega
    · omega
  | succ k ih =>
    intro p y hp hy hw
    have hl := (List.getElem?_eq_some_iff.1 hy).1
    rw [pairsC_length] at hl
    have hall := key (k + 1) p y hp hy hw
    obtain ⟨c, q, e1, e2, e3, e4, _, _⟩ := mergeK_take Coin.worth l (pairsC (levelC l k)) (2 * p) (by rw [pairsC_length, ← levelC_length]; omega)
    have hmem : ∀ x ∈ (levelC l (k + 1)).take (2 * p), x.worth < z.worth := by
      intro x hx
      obtain ⟨i, hi⟩ := List.mem_iff_getElem?.1 hx
      rw [List.getElem?_take] at hi
      split at hi
      · exact hall i x (by assumption) hi
      · cases hi
    rw [levelC] at hmem
    have hc : c ≤ l.length - 1 := by
      rcases Nat.lt_or_ge (l.length - 1) c with q2 | q2
      · have := hmem z (e4.symm.subset (List.mem_append_left _ (List.mem_of_getElem? (i := l.length - 1) (by rw [List.getElem?_take, if_pos q2]; exact hz))))
        omega
      · exact q2
    have hq : q ≤ l.length - 2 := by
      cases q with
      | zero => omega
      | succ q =>
        obtain ⟨y2, hy2⟩ : ∃ y2, (pairsC (levelC l k))[q]? = some y2 := ⟨_, List.getElem?_eq_getElem (by omega)⟩
        refine ih (q + 1) y2 (Nat.succ_pos _) hy2 ?_
        exact hmem y2 (e4.symm.subset (List.mem_append_right _ (List.mem_of_getElem? (i := q) (by rw [List.getElem?_take, if_pos (Nat.lt_succ_self _)]; exact hy2))))
    omega
end Go.Proofs.Ythgbkncanoknkaa
/-
  Lengths of codes, plain: how long each leaf's code is, and that Kraft's sum is whole; that no other lengths are cheaper.
-/
set_option linter.unusedVariables false
set_option linter.unusedSimpArgs false
namespace Go.Proofs.Ythgbkncanoknkaa
/-- At how many levels a place is taken. -/
def li (cs : List Nat) (i : Nat) : Nat := cs.countP fun c => decide (i < c)
theorem li_le (cs : List Nat) (i : Nat) : li cs i ≤ cs.length := List.countP_le_length
theorem li_cons (c : Nat) (cs : List Nat) (i : Nat) : li (c :: cs) i = li cs i + if i < c then 1 else 0 := by
  unfold li
  rw [List.countP_cons]
  simp
theorem li_anti (cs : List Nat) {i j : Nat} (h : i ≤ j) : li cs j ≤ li cs i := by
  unfold li
  apply List.countP_mono_left
  intro c _ hc
  simp only [decide_eq_true_eq] at hc ⊢
  omega
theorem sum_map_add (l : List Nat) (f g : Nat → Nat) : (l.map fun i => f i + g i).sum = (l.map f).sum + (l.map g).sum := by
  induction l with
  | nil => rfl
  | cons x l ih => simp only [List.map_cons, List.sum_cons, ih]; omega
theorem sum_map_congr (l : List Nat) (f g : Nat → Nat) (h : ∀ i ∈ l, f i = g i) : (l.map f).sum = (l.map g).sum := by rw [List.map_congr_left h]
theorem sum_const (n k : Nat) : ((List.range n).map fun _ => k).sum = n * k := by
  induction n with
  | zero => simp
  | succ n ih => rw [List.range_succ, List.map_append, List.sum_append_nat, ih, Nat.add_mul]; simp
theorem sum_below (n c k : Nat) (h : c ≤ n) : ((List.range n).map fun i => if i < c then k else 0).sum = c * k := by
  induction n with
  | zero => have : c = 0 := by omega
            subst this; simp
  | succ n ih =>
    rw [List.range_succ, List.map_append, List.sum_append_nat]
    by_cases q : c ≤ n
    · rw [ih q]; simp; omega
    · have : c = n + 1 := by omega
      subst this
      rw [sum_map_congr _ _ (fun _ => k) (fun i hi => by rw [if_pos]; simp at hi; omega), sum_const, Nat.add_mul]
      simp
theorem kraft_cs (n : Nat) : ∀ cs : List Nat, (∀ c ∈ cs, c ≤ n) → cs.Pairwise (fun a b => b ≤ a) → ((List.range n).map fun i => 2 ^ cs.length - 2 ^ (cs.length - li cs i)).sum = wsum cs
  | [], _, _ => by simp [wsum, li, sum_const]
  | c :: cs, hle, hp => by
    rw [List.pairwise_cons] at hp
    have ih := kraft_cs n cs (fun d hd => hle d (List.mem_cons_of_mem _ hd)) hp.2
    have hc := hle c (List.mem_cons_self ..)
    rw [wsum, ← ih, ← sum_below n c (2 ^ cs.length) hc, ← sum_map_add]
    apply sum_map_congr
    intro i _
    rw [li_cons, List.length_cons]
    by_cases q : i < c
    · rw [if_pos q, if_pos q]
      have h1 := li_le cs i
      have h2 : 2 ^ (cs.length - li cs i) ≤ 2 ^ cs.length := Nat.pow_le_pow_right (by omega) (by omega)
      rw [show cs.length + 1 - (li cs i + 1) = cs.length - li cs i from by omega, Nat.pow_succ]
      omega
    · rw [if_neg q, if_neg q]
      have : li cs i = 0 := by
        unfold li
        rw [List.countP_eq_zero]
        intro d hd
        have := hp.1 d hd
        simp
        omega
      rw [this]
      simp
/-- What is taken of the leaves of a sorted list. -/
theorem taken {l : List Coin} (h : SortK Coin.worth l) (hn : 2 ≤ l.length) (hn2 : l.length ≤ 300) : ∃ cs : List Nat, cs.length = 15 ∧ cs.head? = some l.length ∧ (∀ c ∈ cs, c ≤ l.length) ∧ cs.Pairwise (fun a b => b ≤ a) ∧
    (2 * l.length - 2) * 2 ^ 14 = wsum cs ∧ ∀ g : Coin → Nat, (∀ x y, g (.pack x y) = g x + g y) → sumC g ((levelC l 14).take (2 * l.length - 2)) = (cs.map fun c => sumC g (l.take c)).sum := by
  obtain ⟨cs, h1, h2, h3, h4, h5, h6, h7, h8⟩ := chain h 14 (2 * l.length - 2) (level14_length l hn hn2)
  refine ⟨cs, h1, ?_, h2, h3, h4, h5⟩
  cases cs with
  | nil => simp at h1
  | cons c cs =>
    have hc := h2 c (List.mem_cons_self ..)
    obtain ⟨p, e1, e2, e3⟩ := h8 c rfl 13 rfl
    rcases Nat.lt_or_ge c l.length with q | q
    · exfalso
      have hp : 0 < p := by omega
      obtain ⟨x, hx⟩ : ∃ x, l[c]? = some x := ⟨_, List.getElem?_eq_getElem q⟩
      obtain ⟨y, hy⟩ : ∃ y, (pairsC (levelC l 13))[p - 1]? = some y := ⟨_, List.getElem?_eq_getElem (by omega)⟩
      obtain ⟨z, hz⟩ : ∃ z, l[l.length - 1]? = some z := ⟨_, List.getElem?_eq_getElem (by omega)⟩
      have hw := e3 x y hx hp hy
      have hxz := worth_get h hx hz (by omega)
      have := packs_few h hn hz 13 p y hp hy (by omega)
      omega
    · have : c = l.length := by omega
      subst this
      rfl
theorem kraft_whole {l : List Coin} {cs : List Nat} (h1 : cs.length = 15) (h2 : ∀ c ∈ cs, c ≤ l.length) (h3 : cs.Pairwise (fun a b => b ≤ a)) (hn : 2 ≤ l.length) (h4 : (2 * l.length - 2) * 2 ^ 14 = wsum cs) :
    ((List.range l.length).map fun i => 2 ^ (15 - li cs i)).sum = 2 ^ 15 := by
  have hk := kraft_cs l.length cs h2 h3
  rw [h1] at hk
  have hs : ((List.range l.length).map fun i => 2 ^ (15 - li cs i)).sum + ((List.range l.length).map fun i => 2 ^ 15 - 2 ^ (15 - li cs i)).sum = l.length * 2 ^ 15 := by
    rw [← sum_map_add, ← sum_const]
    apply sum_map_congr
    intro i _
    have : 2 ^ (15 - li cs i) ≤ 2 ^ 15 := Nat.pow_le_pow_right (by omega) (by omega)
    omega
  rw [hk, ← h4] at hs
  omega
/-! No other lengths are cheaper -/
def worths (l : List Coin) (m : Nat) : Nat := sumC Coin.worth (l.take m)
theorem sumC_take_split (g : Coin → Nat) (l : List Coin) {i j : Nat} (h : i ≤ j) : sumC g (l.take j) = sumC g (l.take i) + sumC g ((l.take j).drop i) := by
  rw [← sumC_append]
  congr 1
  have := List.take_append_drop i (l.take j)
  rw [List.take_take, Nat.min_eq_left h] at this
  exact this.symm
theorem sumC_le_of (l : List Coin) (z : Nat) (h : ∀ x ∈ l, x.worth ≤ z) : sumC Coin.worth l ≤ l.length * z := by
  induction l with
  | nil => simp [sumC]
  | cons x l ih =>
    have h1 := h x (List.mem_cons_self ..)
    have h2 := ih fun y hy => h y (List.mem_cons_of_mem _ hy)
    simp only [sumC, List.map_cons, List.sum_cons, List.length_cons, Nat.add_mul] at *
    omega
theorem sumC_ge_of (l : List Coin) (z : Nat) (h : ∀ x ∈ l, z ≤ x.worth) : l.length * z ≤ sumC Coin.worth l := by
  induction l with
  | nil => simp
  | cons x l ih =>
    have h1 := h x (List.mem_cons_self ..)
    have h2 := ih fun y hy => h y (List.mem_cons_of_mem _ hy)
    simp only [sumC, List.map_cons, List.sum_cons, List.length_cons, Nat.add_mul] at *
    omega
/-- The stretch of a sorted list ahead of a place is not worth more than as long a stretch behind a dearer one. -/
theorem stretch {a b : List Coin} (ha : SortK Coin.worth a) (hb : SortK Coin.worth b) {i c p j : Nat} (h1 : i ≤ c) (hc : c ≤ a.length) (h2 : p ≤ j) (hj : j ≤ b.length) (he : c - i = j - p)
    (hx : ∀ x y, 0 < c → a[c - 1]? = some x → b[p]? = some y → x.worth ≤ y.worth) : worths a c + worths b p ≤ worths a i + worths b j := by
  unfold worths
  rw [sumC_take_split Coin.worth a h1, sumC_take_split Coin.worth b h2]
  rcases Nat.eq_or_lt_of_le h1 with q | q
  · have e1 : (a.take c).drop i = [] := by rw [List.drop_eq_nil_iff, List.length_take]; omega
    rw [e1]
    simp only [sumC, List.map_nil, List.sum_nil]
    omega
  · obtain ⟨x, hx1⟩ : ∃ x, a[c - 1]? = some x := ⟨_, List.getElem?_eq_getElem (by omega)⟩
    obtain ⟨y, hy1⟩ : ∃ y, b[p]? = some y := ⟨_, List.getElem?_eq_getElem (by omega)⟩
    have hxy := hx x y (by omega) hx1 hy1
    have s1 := sumC_le_of ((a.take c).drop i) x.worth (by
      intro u hu
      obtain ⟨k, hk⟩ := List.mem_iff_getElem?.1 hu
      rw [List.getElem?_drop, List.getElem?_take] at hk
      split at hk
      · exact worth_get ha hk hx1 (by omega)
      · cases hk)
    have s2 := sumC_ge_of ((b.take j).drop p) y.worth (by
      intro u hu
      obtain ⟨k, hk⟩ := List.mem_iff_getElem?.1 hu
      rw [List.getElem?_drop, List.getElem?_take] at hk
      split at hk
      · exact worth_get hb hy1 hk (by omega)
      · cases hk)
    have l1 : ((a.take c).drop i).length = c - i := by rw [List.length_drop, List.length_take]; omega
    have l2 : ((b.take j).drop p).length = c - i := by rw [List.length_drop, List.length_take]; omega
    rw [l1] at s1
    rw [l2] at s2
    have := Nat.mul_le_mul_left (c - i) hxy
    omega
/-- The first ones of a merged list are the cheapest. -/
theorem merge_cheap {a b : List Coin} (ha : SortK Coin.worth a) (hb : SortK Coin.worth b) {i j : Nat} (hi : i ≤ a.length) (hj : j ≤ b.length) : worths (mergeK Coin.worth a b) (i + j) ≤ worths a i + worths b j := by
  obtain ⟨c, p, e1, e2, e3, e4, e5, e6⟩ := mergeK_take Coin.worth a b (i + j) (by omega)
  have e : worths (mergeK Coin.worth a b) (i + j) = worths a c + worths b p := by
    unfold worths
    rw [sumC_perm _ e4, sumC_append]
  rw [e]
  rcases Nat.lt_or_ge i c with q | q
  · exact stretch ha hb (by omega) e2 (by omega) hj (by omega) (fun x y h1 h2 h3 => e6 x y ha hb h1 h2 h3)
  · have := stretch hb ha (i := j) (c := p) (p := c) (j := i) (by omega) e3 (by omega) hi (by omega) (fun x y h1 h2 h3 => Nat.le_of_lt (e5 y x ha hb h3 h1 h2))
    omega
/-- Any choice of leaves, level by level (ds: how many at each level, from below). -/
theorem level_cheap {l : List Coin} (h : SortK Coin.worth l) : ∀ (k : Nat) (ds : Nat → Nat) (ms : Nat → Nat), (∀ j, j ≤ k → ds j ≤ l.length) → ms 0 = ds 0 → (∀ j, j < k → ms (j + 1) = ds (j + 1) + ms j / 2) →
    ms k ≤ (levelC l k).length ∧ worths (levelC l k) (ms k) ≤ ((List.range (k + 1)).map fun j => worths l (ds j)).sum
  | 0, ds, ms, h1, h2, _ => by
    rw [h2]
    exact ⟨h1 0 (Nat.le_refl _), by simp [levelC]⟩
  | k + 1, ds, ms, h1, h2, h3 => by
    obtain ⟨i1, i2⟩ := level_cheap h k ds ms (fun j hj => h1 j (by omega)) h2 (fun j hj => h3 j (by omega))
    have hp : ms k / 2 ≤ (pairsC (levelC l k)).length := by rw [pairsC_length]; omega
    have hd := h1 (k + 1) (Nat.le_refl _)
    have hm := merge_cheap h (pairsC_sorted _ (levelC_sorted h k)) hd hp
    rw [h3 k (Nat.lt_succ_self _)]
    refine ⟨by rw [levelC_length]; rw [pairsC_length] at hp; omega, ?_⟩
    rw [levelC, List.range_succ, List.map_append, List.sum_append_nat]
    have hw : worths (pairsC (levelC l k)) (ms k / 2) ≤ worths (levelC l k) (ms k) := by
      unfold worths
      rw [pairsC_take _ _ (by omega), sumC_pairs Coin.worth (fun _ _ => rfl) _ (by rw [List.length_take]; omega)]
      rw [sumC_take_split Coin.worth (levelC l k) (show 2 * (ms k / 2) ≤ ms k by omega)]
      omega
    simp only [List.map_cons, List.map_nil, List.sum_cons, List.sum_nil]
    omega
end Go.Proofs.Ythgbkncanoknkaa
