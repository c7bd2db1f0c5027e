/-
  Contracts of the reference's Bit, Bits, Bytes.
-/
import Derived.Test.YtdgpbgdpdmikaaaBits
set_option linter.unusedVariables false
set_option linter.unusedSimpArgs false
namespace Go.Proofs.Ytdgpbgdpdmikaaa
open Go.RowKit
set_option maxRecDepth 100000
theorem infoBool : (Try.prog.info? 4).map (fun i => (i.zero, i.size, i.bytes)) = some (some (.bool false), 1, 1) := by kernel_rfl
/-- Bools as cells. -/
def bl (l : List Bool) : List Value := l.map Value.bool
theorem bl_length (l : List Bool) : (bl l).length = l.length := by simp [bl]
theorem bl_append (a b : List Bool) : bl (a ++ b) = bl a ++ bl b := by simp [bl]
theorem bl_get (l : List Bool) (i : Nat) (x : Bool) (h : l[i]? = some x) : (bl l)[i]? = some (.bool x) := by simp [bl, h]
theorem bit_fact (v : Int) (k : Nat) (h0 : 0 ≤ v) : (v / 2 ^ k % 2 == 1) = v.toNat.testBit k := by
  obtain ⟨n, rfl⟩ := Int.eq_ofNat_of_zero_le h0
  have e1 : ((n : Int) / 2 ^ k) = ((n / 2 ^ k : Nat) : Int) := by simp
  rw [e1, Int.toNat_natCast, Nat.testBit_eq_decide_div_mod_eq]
  generalize n / 2 ^ k = q
  rw [Bool.eq_iff_iff]
  simp
  omega
theorem bit_any (v k : Int) (w : World) (hv0 : 0 ≤ v) (hv : v ≤ 18446744073709551615) (hk0 : 0 ≤ k) (hk : k ≤ 63) :
    Calls Try.prog 22 #[.int .u64 v, .int .i64 k] w fun e w' => e = .returned (.bool (v.toNat.testBit k.toNat)) ∧ w = w' := by
  obtain ⟨K, rfl⟩ := Int.eq_ofNat_of_zero_le hk0
  rw [Int.toNat_natCast]
  have hb := bit_fact v K hv0
  have hx : (0 : Int) ≤ v / 2 ^ K := Int.ediv_nonneg hv0 (by have : (0 : Int) < 2 ^ K := Int.pow_pos (by omega); omega)
  go_enter Try.func22, Try.ntmps22
  go_wp2
  go_ret
  exact ⟨rfl, rfl⟩
set_option maxHeartbeats 1000000 in
theorem bits_any (v : Value) (bs : List UInt8) (w : World) (h : Rd w 1 v bs.length (bv bs)) (hn : bs.length ≤ 1099511627776) :
    Calls Try.prog 31 #[v] w fun e w' => ∃ v c, e = .returned v ∧ RowC 4 1 v (8 * bs.length) (bl (bitsB bs)) c ∧ St w.heap.size w w' [c] := by
  obtain ⟨i0, i0a, i0b, i0c, i0d⟩ := info_parts infoBool
  obtain ⟨ao, cap, rfl⟩ := h.shape
  have hS := (St.init w).one_nil
  have hnl : (bs.length : Int) ≤ 1099511627776 := by omega
  go_enter Try.func31, Try.ntmps31
  go_wp2_with fail
  go_loopg [3, 4] bs.length (fun m s3 s4 wr => ∃ i : Nat, i + m = bs.length ∧ s4 = .int .i64 (i : Int) ∧ ∃ c, RowC 4 1 s3 (8 * i) (bl (bitsB (bs.take i))) c ∧ St w.heap.size w wr [c])
  case atStart => exact ⟨0, by omega, rfl, [], RowC.nil _ _, hS⟩
  case round =>
    clear hS
    obtain ⟨i, hi, rfl, c, hr, hS⟩ := hrel
    cases gk with
    | zero =>
      obtain rfl : i = bs.length := by omega
      clear hi
      rw [List.take_length] at hr
      go_wp2_with fail
      go_ret
      exact ⟨_, c, rfl, hr, hS⟩
    | succ m =>
      have hlt : i < bs.length := by omega
      obtain ⟨b, hb⟩ : ∃ b, bs[i]? = some b := ⟨_, List.getElem?_eq_getElem hlt⟩
      have hb0 : (b.toNat : Int) ≤ 255 := by have := b.toNat_lt; omega
      have HB := Lib.hid hb
      clear hb
      go_wp2_with fail
      go_loopg [3, 5] 8 (fun k s3 s5 wr => k ≤ 8 ∧ s5 = .int .i64 ((k : Int) - 1) ∧ ∃ c l, Hid (l ++ bitsOf b.toNat k = bitsB (bs.take (i + 1)) ∧ l.length + k = 8 * (i + 1)) ∧ RowC 4 1 s3 l.length (bl l) c ∧ St w.heap.size w wr [c])
      case atStart =>
        refine ⟨by omega, rfl, c, bitsB (bs.take i), ⟨(bitsB_take_succ _ _ _ HB.out).symm, ?_⟩, ?_, hS⟩
        · rw [bitsB_length, List.length_take]; omega
        · rw [bitsB_length, List.length_take, Nat.min_eq_left (by omega)]; exact hr
      case round =>
        clear hS hr
        obtain ⟨hk, rfl, c, l, HL, hr, hS⟩ := hrel
        obtain ⟨ao3, cap3, rfl⟩ := hr.shape
        cases gk with
        | zero =>
          go_wp2_with fail
          go_roundg m
          case measure => omega
          case rel =>
            have := HL.out
            rw [show bitsOf b.toNat 0 = [] from rfl, List.append_nil] at this
            refine ⟨i + 1, by omega, by go_num, c, ?_, hS⟩
            rw [← this.1, show 8 * (i + 1) = l.length from by omega]
            exact hr
        | succ k =>
          have e : (((k + 1 : Nat) : Int) - 1) = (k : Int) := by omega
          rw [e]
          clear e
          have hrd := h.keep hS.below
          obtain ⟨ad, rfl, hcell⟩ := hrd.at (bv_get bs i b HB.out)
          have hll : l.length ≤ 8796093022208 := by have := HL.out; omega
          have hk7 : (k : Int) ≤ 7 := by omega
          go_wp2_with (first | (go_at_call 22; refine (bit_any (b.toNat : Int) (k : Int) wr (by omega) (by omega) (by omega) (by omega)).mono ?_; rintro e w1 ⟨rfl, rfl⟩) | (at_builtin; (refine wpList_app1 0 44 i0 (.bool false) _ _ _ rfl rfl rfl rfl Try.underlying44 i0a i0b i0c i0d rfl hS rfl hr rfl ?_ ?_ ?_); (unfold maxLen; omega); omega; intro v1 c1 w1 hr1 hs1))
          go_roundg k
          case measure => omega
          case rel =>
            refine ⟨by omega, by go_num, c1, l ++ [b.toNat.testBit k], ⟨?_, ?_⟩, ?_, hs1⟩
            · have := HL.out.1
              rw [bitsOf_succ] at this
              rw [List.append_assoc]
              exact this
            · have := HL.out.2
              simp; omega
            · simpa [bl] using hr1
theorem set_byte (b : UInt8) (s : Nat) (hs : s ≤ 7) : bits .or .u8 (b.toNat : Int) (128 / 2 ^ s) = ((setb b true (7 - s)).toNat : Int) := by
  have e : (128 : Int) / 2 ^ s = ((2 ^ (7 - s) : Nat) : Int) := by
    have : s = 0 ∨ s = 1 ∨ s = 2 ∨ s = 3 ∨ s = 4 ∨ s = 5 ∨ s = 6 ∨ s = 7 := by omega
    rcases this with rfl | rfl | rfl | rfl | rfl | rfl | rfl | rfl <;> decide
  have h3 : 2 ^ (7 - s) ≤ 2 ^ 7 := Nat.pow_le_pow_right (by omega) (by omega)
  rw [e, u8_or_nat _ _ b.toNat_lt (by omega), setb_toNat _ _ _ (by omega)]
  simp
set_option maxHeartbeats 1000000 in
theorem refbytes_any (v : Value) (l : List Bool) (w : World) (h : Rd w 1 v l.length (bl l)) (hn : l.length ≤ 1099511627776) :
    Calls Try.prog 24 #[v] w fun e w' => ∃ v c cs, e = .returned v ∧ RowC 5 1 v cs.length (bv cs) c ∧ St w.heap.size w w' [c] ∧ cs.length = (l.length + 7) / 8 ∧ Packed l cs := by
  obtain ⟨i0, i0a, i0b, i0c, i0d⟩ := info_parts infoU8
  obtain ⟨ao, cap, rfl⟩ := h.shape
  have hS := St.init w
  have hnl : (l.length : Int) ≤ 1099511627776 := by omega
  go_enter Try.func24, Try.ntmps24
  go_wp2_with (at_make; (refine wpList_mk (n := ((l.length + 7) / 8)) 37 i0 (.int .u8 0) _ _ rfl rfl _ _ _ _ rfl rfl Try.underlying37 i0a i0b i0c i0d rfl ?_ ?_ ?_ ?_ hS ?_); omega; omega; omega; (unfold maxLen; omega); intro g c w1 hr hS1)
  go_loopg [4] l.length (fun m s4 wr => ∃ i : Nat, i + m = l.length ∧ s4 = .int .i64 (i : Int) ∧ ∃ c cs, Hid (cs.length = (l.length + 7) / 8 ∧ Packed (l.take i) cs) ∧ RowC 5 1 (.slice (some ⟨g, 0, none⟩) ((l.length + 7) / 8) ((l.length + 7) / 8)) ((l.length + 7) / 8) (bv cs) c ∧ St w.heap.size w wr [c])
  case atStart => exact ⟨0, by omega, rfl, c, List.replicate ((l.length + 7) / 8) 0, ⟨by simp, packed_none _⟩, by simpa [bv] using hr, hS1⟩
  case round =>
    clear hS hS1 hr
    obtain ⟨i, hi, rfl, c, cs, HP, hr, hS⟩ := hrel
    cases gk with
    | zero =>
      obtain rfl : i = l.length := by omega
      rw [List.take_length] at *
      clear hi
      go_wp2_with fail
      go_ret
      refine ⟨_, c, cs, rfl, ?_, hS, HP.out.1, HP.out.2⟩
      rw [HP.out.1]
      exact hr
    | succ m =>
      have hlt : i < l.length := by omega
      obtain ⟨x, hx⟩ : ∃ x, l[i]? = some x := ⟨_, List.getElem?_eq_getElem hlt⟩
      obtain ⟨ad, rfl, hcell⟩ := (h.st hS).at (bl_get l i x hx)
      have hlen : (l.take i).length = i := by rw [List.length_take]; omega
      have htk : l.take (i + 1) = l.take i ++ [x] := by rw [List.take_add_one, hx]; rfl
      have HT := Lib.hid (And.intro hlen htk)
      obtain ⟨b, hb⟩ : ∃ b, cs[i / 8]? = some b := ⟨_, List.getElem?_eq_getElem (by have := HP.out.1; omega)⟩
      have hcb := hr.cellAt hS 0 rfl (bv_get _ _ _ hb)
      have hfr := hr.freeAt hS 0 rfl (i / 8)
      have HB := Lib.hid hb
      clear hx hlen htk hb
      cases x with
      | false =>
        go_wp2_with fail
        go_roundg m
        case measure => omega
        case rel =>
          refine ⟨i + 1, by omega, by go_num, c, cs, ⟨HP.out.1, ?_⟩, hr, hS⟩
          rw [HT.out.2]
          exact packed_false HP.out.2 (by have := HP.out.1; have := HT.out.1; omega)
      | true =>
        go_wp2_with fail
        go_roundg m
        case measure => omega
        case rel =>
          rw [set_byte b _ (by omega)]
          obtain ⟨c', hr', hS'⟩ := hr.store hS 0 rfl rfl (i / 8) (.int .u8 ((setb b true (7 - i % 8)).toNat : Int))
          rw [← bv_set] at hr'
          refine ⟨i + 1, by omega, by go_num, c', cs.set (i / 8) (setb b true (7 - i % 8)), ⟨by rw [List.length_set]; exact HP.out.1, ?_⟩, hr', hS'⟩
          rw [HT.out.2]
          have := packed_set HP.out.2 true (by have := HP.out.1; have := HT.out.1; omega) b (by rw [HT.out.1]; exact HB.out)
          rw [HT.out.1] at this
          exact this
end Go.Proofs.Ytdgpbgdpdmikaaa
