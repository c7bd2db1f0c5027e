/-
  Texts joined: Crc, CrcSeal, CtBlock, CtPack, CtPlan, CtRead.
-/
import Derived.Test.YtdhnmcdgiddhdaaEg11
import Derived.Deep.RegionHeld
/-
  Contracts of number.Four, number.GetFour, crc.Sum.
-/
set_option linter.unusedVariables false
set_option linter.unusedSimpArgs false
namespace Go.Proofs.Ytdhnmcdgiddhdaa
open Go.RowKit
set_option maxRecDepth 100000
theorem wrap_u32' (n : Int) : IntKind.u32.wrap n = n % 4294967296 := by simp [IntKind.wrap, IntKind.bits, IntKind.signed]
theorem bits32 (op : BinOp) (f : Nat → Nat → Nat) (hf : ∀ a b : BitVec 32, (match op with | .and => a &&& b | .or => a ||| b | .xor => a ^^^ b | _ => a &&& ~~~b).toNat = f a.toNat b.toNat)
    (a b : Nat) (ha : a < 4294967296) (hb : b < 4294967296) (hfl : f a b < 4294967296) : bits op .u32 (a : Int) (b : Int) = ((f a b : Nat) : Int) := by
  unfold bits
  simp only
  have h1 : (BitVec.ofInt IntKind.u32.bits (a : Int)) = BitVec.ofNat 32 a := BitVec.ofInt_natCast 32 a
  have h2 : (BitVec.ofInt IntKind.u32.bits (b : Int)) = BitVec.ofNat 32 b := BitVec.ofInt_natCast 32 b
  have h3 := hf (BitVec.ofNat 32 a) (BitVec.ofNat 32 b)
  rw [BitVec.toNat_ofNat, BitVec.toNat_ofNat, Nat.mod_eq_of_lt (by omega), Nat.mod_eq_of_lt (by omega)] at h3
  rw [wrap_u32']
  rw [h1, h2]
  have h4 : ((match op with | .and => BitVec.ofNat 32 a &&& BitVec.ofNat 32 b | .or => BitVec.ofNat 32 a ||| BitVec.ofNat 32 b | .xor => BitVec.ofNat 32 a ^^^ BitVec.ofNat 32 b | _ => BitVec.ofNat 32 a &&& ~~~BitVec.ofNat 32 b).toNat : Int) = ((f a b : Nat) : Int) := by exact_mod_cast h3
  refine (congrArg (· % (4294967296 : Int)) h4).trans ?_
  show ((f a b : Nat) : Int) % 4294967296 = _
  omega
theorem xor32 {a b : Nat} (ha : a < 4294967296) (hb : b < 4294967296) : bits .xor .u32 (a : Int) (b : Int) = ((a ^^^ b : Nat) : Int) :=
  bits32 .xor (· ^^^ ·) (fun a b => BitVec.toNat_xor ..) a b ha hb (Nat.xor_lt_two_pow (n := 32) ha hb)
theorem and32 {a b : Nat} (ha : a < 4294967296) (hb : b < 4294967296) : bits .and .u32 (a : Int) (b : Int) = ((a &&& b : Nat) : Int) :=
  bits32 .and (· &&& ·) (fun a b => BitVec.toNat_and ..) a b ha hb (Nat.and_lt_two_pow (n := 32) a hb)
theorem or32 {a b : Nat} (ha : a < 4294967296) (hb : b < 4294967296) : bits .or .u32 (a : Int) (b : Int) = ((a ||| b : Nat) : Int) :=
  bits32 .or (· ||| ·) (fun a b => BitVec.toNat_or ..) a b ha hb (Nat.or_lt_two_pow (n := 32) ha hb)
/-- One bit of a sum. -/
def crcB (x : Nat) : Nat := if x % 2 = 1 then (x / 2) ^^^ 3988292384 else x / 2
theorem crcB_lt {x : Nat} (h : x < 4294967296) : crcB x < 4294967296 := by
  unfold crcB
  split
  · exact Nat.xor_lt_two_pow (n := 32) (by omega) (by decide)
  · omega
theorem crc_bit {x : Nat} (h : x < 4294967296) : bits .xor .u32 ((x : Int) / 2) (bits .and .u32 3988292384 (-bits .and .u32 (x : Int) 1 % 4294967296)) = ((crcB x : Nat) : Int) := by
  have h1 : bits .and .u32 (x : Int) 1 = ((x % 2 : Nat) : Int) := by
    have := and32 (a := x) (b := 1) h (by decide)
    rw [Nat.and_one_is_mod] at this
    exact this
  rw [h1, show ((x : Int) / 2) = ((x / 2 : Nat) : Int) from by omega]
  unfold crcB
  rcases Nat.mod_two_eq_zero_or_one x with q | q
  · rw [q, if_neg (by omega)]
    have h2 : bits .and .u32 3988292384 (-((0 : Nat) : Int) % 4294967296) = ((0 : Nat) : Int) := by decide
    rw [h2, xor32 (by omega) (by omega), Nat.xor_zero]
  · rw [q, if_pos rfl]
    have h2 : bits .and .u32 3988292384 (-((1 : Nat) : Int) % 4294967296) = ((3988292384 : Nat) : Int) := by decide
    rw [h2, xor32 (by omega) (by omega)]
def crcC (x : Nat) : Nat → Nat
  | 0 => x
  | n + 1 => crcC (crcB x) n
theorem crcC_lt {x : Nat} (h : x < 4294967296) : ∀ n, crcC x n < 4294967296
  | 0 => h
  | n + 1 => by rw [crcC]; exact crcC_lt (crcB_lt h) n
/-- One byte of a sum. -/
def crcS (x : Nat) (c : UInt8) : Nat := crcC (x ^^^ c.toNat) 8
theorem crcS_lt {x : Nat} (h : x < 4294967296) (c : UInt8) : crcS x c < 4294967296 := crcC_lt (Nat.xor_lt_two_pow (n := 32) h (by have := c.toNat_lt; omega)) 8
def crcL (x : Nat) (b : List UInt8) : Nat := b.foldl crcS x
theorem crcL_lt {x : Nat} (h : x < 4294967296) : ∀ b, crcL x b < 4294967296
  | [] => h
  | c :: b => crcL_lt (crcS_lt h c) b
theorem crcL_snoc (x : Nat) (b : List UInt8) (c : UInt8) : crcL x (b ++ [c]) = crcS (crcL x b) c := by simp [crcL]
/-- The sum of bytes. -/
def crcP (b : List UInt8) : Nat := 4294967295 - crcL 4294967295 b
theorem not32 {x : Nat} (h : x < 4294967296) : bits .xor .u32 4294967295 (x : Int) = ((4294967295 - x : Nat) : Int) := by
  have e : bits .xor .u32 4294967295 (x : Int) = ((4294967295 ^^^ x : Nat) : Int) := xor32 (a := 4294967295) (by decide) h
  rw [e]
  have h2 : (4294967295 : Nat) ^^^ x = 4294967295 - x := by
    apply Nat.eq_of_testBit_eq
    intro i
    rw [Nat.testBit_xor, show (4294967295 : Nat) = 2 ^ 32 - 1 from rfl, Nat.testBit_two_pow_sub_one, show 2 ^ 32 - 1 - x = 2 ^ 32 - (x + 1) from by omega, Nat.testBit_two_pow_sub_succ (by simpa using h)]
    by_cases q : i < 32
    · simp [q]
    · have h3 : 2 ^ 32 ≤ 2 ^ i := Nat.pow_le_pow_right (by omega) (by omega)
      rw [Nat.testBit_lt_two_pow (show x < 2 ^ i by omega)]
      simp [q]
  rw [h2]
set_option maxHeartbeats 2000000 in
theorem crcsum_any (v : Value) (b : List UInt8) (w : World) (h : Rd w 1 v b.length (bv b)) (hn : b.length ≤ 1000000) :
    Calls Try.prog 60 #[v] w fun e w' => e = .returned (.int .u32 (crcP b : Int)) ∧ w = w' := by
  obtain ⟨ao, cap, rfl⟩ := h.shape
  have H0 := Lib.hid h
  clear h
  go_enter Try.func60, Try.ntmps60
  go_wp2_with fail
  go_loopg [3, 8] b.length (fun m s3 s8 wr => ∃ i : Nat, i + m = b.length ∧ s8 = .int .i64 (i : Int) ∧ s3 = .int .u32 (crcL 4294967295 (b.take i) : Int) ∧ w = wr)
  case atStart => exact ⟨0, by omega, rfl, rfl, rfl⟩
  case round =>
    obtain ⟨i, hi, rfl, rfl, rfl⟩ := hrel
    cases gk with
    | zero =>
      obtain rfl : i = b.length := by omega
      rw [List.take_length]
      have hx : crcL 4294967295 b < 4294967296 := crcL_lt (by decide) b
      have HX : Hid (crcP b = 4294967295 - crcL 4294967295 b) := Lib.hid rfl
      generalize crcL 4294967295 b = x at *
      have HNOT := Lib.hid (not32 hx)
      clear hi
      go_wp2_with fail
      go_ret
      exact ⟨by rw [HX.out, ← HNOT.out]; rfl, rfl⟩
    | succ m =>
      have hil : (i : Int) < (b.length : Int) := by omega
      obtain ⟨y, hy⟩ : ∃ y, b[i]? = some y := ⟨_, List.getElem?_eq_getElem (by omega)⟩
      obtain ⟨ad, rfl, hc⟩ := H0.out.at (bv_get b i y hy)
      have HT : Hid (crcL 4294967295 (b.take (i + 1)) = crcS (crcL 4294967295 (b.take i)) y) := Lib.hid (by rw [List.take_add_one, hy, ← crcL_snoc]; rfl)
      have hx : crcL 4294967295 (b.take i) < 4294967296 := crcL_lt (by decide) _
      clear hy
      generalize crcL 4294967295 (b.take i) = x at *
      have hy256 := y.toNat_lt
      have hwy : IntKind.u32.wrap (y.toNat : Int) = (y.toNat : Int) := by rw [wrap_u32']; omega
      have hxy := xor32 (a := x) (b := y.toNat) hx (by omega)
      have hz : x ^^^ y.toNat < 4294967296 := Nat.xor_lt_two_pow (n := 32) hx (by omega)
      have HZ : Hid (crcS x y = crcC (x ^^^ y.toNat) 8) := Lib.hid rfl
      generalize x ^^^ y.toNat = z at *
      go_wp2_with fail
      go_loopg [3, 16] 8 (fun m s3 s16 wr => ∃ (j q : Nat), j + m = 8 ∧ s16 = .int .i64 (j : Int) ∧ s3 = .int .u32 (q : Int) ∧ q < 4294967296 ∧ Hid (crcC q m = crcC z 8) ∧ w = wr)
      case atStart => exact ⟨0, z, by omega, rfl, rfl, hz, Lib.hid rfl, rfl⟩
      case round =>
        obtain ⟨j, q, hj, rfl, rfl, hq, HQ, rfl⟩ := hrel
        cases gk with
        | zero =>
          obtain rfl : j = 8 := by omega
          clear hj
          go_wp2_with fail
          go_roundg m
          case measure => omega
          case rel => exact ⟨i + 1, by omega, by go_num, by rw [HT.out, HZ.out, ← HQ.out]; rfl, rfl⟩
        | succ mm =>
          have hjl : (j : Int) < 8 := by omega
          have HCB := Lib.hid (crc_bit hq)
          have hql := crcB_lt hq
          go_wp2_with fail
          go_roundg mm
          case measure => omega
          case rel => exact ⟨j + 1, crcB q, by omega, by go_num, by rw [HCB.out], hql, Lib.hid (by rw [← HQ.out]; rfl), rfl⟩
theorem orP {a c : Nat} (k : Nat) {Y X : Int} (hY : Y = (a : Int)) (hX : X = ((c * 2 ^ k : Nat) : Int)) (ha : a < 2 ^ k) (hs : a + c * 2 ^ k < 4294967296) : bits .or .u32 Y X = ((a + c * 2 ^ k : Nat) : Int) := by
  subst hX hY
  rw [or32 (by omega) (by omega), Nat.or_comm, Nat.mul_comm, ← Nat.two_pow_add_eq_or_of_lt ha, Nat.add_comm]
/-- A number in four bytes. -/
def fourB (n : Nat) : List UInt8 := [UInt8.ofNat n, UInt8.ofNat (n / 256), UInt8.ofNat (n / 65536), UInt8.ofNat (n / 16777216)]
def getB (b : List UInt8) : Nat := (b.getD 0 0).toNat + 256 * (b.getD 1 0).toNat + 65536 * (b.getD 2 0).toNat + 16777216 * (b.getD 3 0).toNat
theorem getB_lt (b : List UInt8) : getB b < 4294967296 := by
  unfold getB
  have := (b.getD 0 0).toNat_lt
  have := (b.getD 1 0).toNat_lt
  have := (b.getD 2 0).toNat_lt
  have := (b.getD 3 0).toNat_lt
  omega
theorem getB_four (n : Nat) (r : List UInt8) (h : n < 4294967296) : getB (fourB n ++ r) = n := by
  unfold getB fourB
  simp
  omega
theorem fourB_length (n : Nat) : (fourB n).length = 4 := rfl
set_option maxHeartbeats 2000000 in
theorem four_any (n : Nat) (w : World) (hn : n < 4294967296) :
    Calls Try.prog 59 #[.int .u32 (n : Int)] w fun e w' => ∃ v c, e = .returned v ∧ RowC 5 1 v 4 (bv (fourB n)) c ∧ St w.heap.size w w' [c] := by
  go_enter Try.func59, Try.ntmps59
  go_wp2_with fail
  go_ret
  have e : bv (fourB n) = [.int .u8 ((n : Int) % 256), .int .u8 ((n : Int) / 256 % 256), .int .u8 ((n : Int) / 65536 % 256), .int .u8 ((n : Int) / 16777216)] := by
    simp [bv, fourB]
    omega
  refine ⟨_, _, rfl, RowC.fresh (cap := 4) (X := #[.int .u8 ((n : Int) % 256), .int .u8 ((n : Int) / 256 % 256), .int .u8 ((n : Int) / 65536 % 256), .int .u8 ((n : Int) / 16777216)]) w.heap.size _ (by simp [bv, fourB]) (by omega) (by decide) rfl (by rw [e]; rfl), (St.init w).alloc _⟩
set_option maxHeartbeats 2000000 in
theorem getfour_any (v : Value) (b : List UInt8) (w : World) (h : Rd w 1 v b.length (bv b)) (hn : 4 ≤ b.length) :
    Calls Try.prog 71 #[v] w fun e w' => e = .returned (.int .u32 (getB b : Int)) ∧ Drew w w' := by
  obtain ⟨ao, cap, rfl⟩ := h.shape
  have H0 := Lib.hid h
  have hn4 : (4 : Int) ≤ (b.length : Int) := by omega
  obtain ⟨y0, hy0⟩ : ∃ y, b[0]? = some y := ⟨_, List.getElem?_eq_getElem (by omega)⟩
  obtain ⟨y1, hy1⟩ : ∃ y, b[1]? = some y := ⟨_, List.getElem?_eq_getElem (by omega)⟩
  obtain ⟨y2, hy2⟩ : ∃ y, b[2]? = some y := ⟨_, List.getElem?_eq_getElem (by omega)⟩
  obtain ⟨y3, hy3⟩ : ∃ y, b[3]? = some y := ⟨_, List.getElem?_eq_getElem (by omega)⟩
  obtain ⟨ad, rfl, k0⟩ := h.at (bv_get b 0 y0 hy0)
  obtain ⟨_, e1, k1⟩ := h.at (bv_get b 1 y1 hy1)
  obtain ⟨_, e2, k2⟩ := h.at (bv_get b 2 y2 hy2)
  obtain ⟨_, e3, k3⟩ := h.at (bv_get b 3 y3 hy3)
  cases e1
  cases e2
  cases e3
  have HG : Hid (getB b = y0.toNat + 256 * y1.toNat + 65536 * y2.toNat + 16777216 * y3.toNat) := Lib.hid (by
    unfold getB
    simp only [List.getD_eq_getElem?_getD, hy0, hy1, hy2, hy3, Option.getD_some])
  rw [show ad.add 0 = ad from by cases ad; rfl] at k0
  replace k1 : w.cell? ⟨ad.block, ad.off + 1, none⟩ = _ := k1
  replace k2 : w.cell? ⟨ad.block, ad.off + 2, none⟩ = _ := k2
  replace k3 : w.cell? ⟨ad.block, ad.off + 3, none⟩ = _ := k3
  have l0 := y0.toNat_lt
  have l1 := y1.toNat_lt
  have l2 := y2.toNat_lt
  have l3 := y3.toNat_lt
  have w0 : (y0.toNat : Int) % 4294967296 = (y0.toNat : Int) := by omega
  have w1 : (y1.toNat : Int) % 4294967296 = (y1.toNat : Int) := by omega
  have w2 : (y2.toNat : Int) % 4294967296 = (y2.toNat : Int) := by omega
  have w3 : (y3.toNat : Int) % 4294967296 = (y3.toNat : Int) := by omega
  clear h hy0 hy1 hy2 hy3
  go_enter Try.func71, Try.ntmps71
  go_wp2_with (first | ((with_reducible refine wpStill_plain ?_ ?_ (fun _ _ => ?_)); rfl; rfl) | (with_reducible refine wpStill_nil ?_) | ((with_reducible refine wp_draw_all (id := 3) mixed ?_ (fun _ _ => ?_)); kernel_rfl))
  go_ret
  refine ⟨?_, Drew.mk w 1⟩
  have o1 := orP (a := y0.toNat) (c := y1.toNat) 8 (X := (y1.toNat : Int) * 256) rfl (by omega) (by omega) (by omega)
  have o2 := orP (c := y2.toNat) 16 (X := (y2.toNat : Int) * 65536) o1 (by omega) (by omega) (by omega)
  have o3 := orP (c := y3.toNat) 24 (X := (y3.toNat : Int) * 16777216) o2 (by omega) (by omega) (by omega)
  have o4 : bits .or .u32 (bits .or .u32 (bits .or .u32 (y0.toNat : Int) ((y1.toNat : Int) * 256)) ((y2.toNat : Int) * 65536)) ((y3.toNat : Int) * 16777216) = ((getB b : Nat) : Int) := by
    rw [o3, HG.out]
    omega
  exact congrArg (fun z => Ending.returned (Value.int .u32 z)) o4
end Go.Proofs.Ytdhnmcdgiddhdaa
/-
  Contracts of crc.Seal, crc.First.
-/
set_option linter.unusedVariables false
set_option linter.unusedSimpArgs false
namespace Go.Proofs.Ytdhnmcdgiddhdaa
open Go.RowKit
set_option maxRecDepth 100000
theorem crcP_lt (b : List UInt8) : crcP b < 4294967296 := by unfold crcP; omega
/-- Bytes, sealed. -/
def sealP (h : List UInt8) : List UInt8 := fourB h.length ++ fourB (crcP (fourB h.length)) ++ fourB (crcP h) ++ h
theorem sealP_length (h : List UInt8) : (sealP h).length = 12 + h.length := by unfold sealP; simp only [List.length_append, fourB_length]
theorem quiet_drew {P : Program} {f : FuncId} {args : Array Value} {w : World} {n : Nat} {v : Value}
    (h : Calls P f args (w.drewN n) fun e w' => e = .returned v ∧ Drew (w.drewN n) w') : Calls P f args (w.drewN n) fun e w'' => e = .returned v ∧ ∃ m, w'' = w.drewN m :=
  h.mono fun _ _ ⟨he, k, hw⟩ => ⟨he, n + k, by rw [hw, World.drewN_drewN]⟩
theorem rd_len {w : World} {v : Value} {n : Nat} {b : List UInt8} (h : Rd w 1 v n (bv b)) : n = b.length := by
  have := h.len
  rw [bv_length, Nat.mul_one] at this
  exact this.symm
theorem crcsum_n (v : Value) (b : List UInt8) (n : Nat) (w : World) (h : Rd w 1 v n (bv b)) (hn : n ≤ 1000000) :
    Calls Try.prog 60 #[v] w fun e w' => e = .returned (.int .u32 (crcP b : Int)) ∧ w = w' := by
  obtain rfl := rd_len h
  exact crcsum_any v b w h hn
theorem getfour_n (v : Value) (b : List UInt8) (n : Nat) (w : World) (h : Rd w 1 v n (bv b)) (hn : 4 ≤ n) :
    Calls Try.prog 71 #[v] w fun e w' => e = .returned (.int .u32 (getB b : Int)) ∧ Drew w w' := by
  obtain rfl := rd_len h
  exact getfour_any v b w h hn
set_option maxHeartbeats 2000000 in
theorem crcseal_any (v : Value) (b : List UInt8) (w : World) (h : Rd w 1 v b.length (bv b)) (hn : b.length ≤ 1000000) :
    Calls Try.prog 34 #[v] w (BytesOut (sealP b) w) := by
  obtain ⟨i0, i0a, i0b, i0c, i0d⟩ := info_parts infoU8
  obtain ⟨ao, cap, rfl⟩ := h.shape
  have H0 := Lib.hid h
  have hwl : IntKind.u32.wrap (b.length : Int) = (b.length : Int) := by rw [wrap_u32']; omega
  have hwl2 : (b.length : Int) % 4294967296 = (b.length : Int) := by omega
  clear h
  go_enter Try.func34, Try.ntmps34
  go_wp2_with fail
  refine (four_any b.length w (by omega)).mono ?_
  rintro e w1 ⟨v1, c1, rfl, hr1, hS1⟩
  obtain ⟨ao1, cap1, rfl⟩ := hr1.shape
  have hl4 : (fourB b.length).length = 4 := rfl
  generalize hf4 : fourB b.length = n4 at *
  have HF4 := Lib.hid hf4
  have HL4 := Lib.hid hl4
  have H1 := Lib.hid (And.intro hr1 hS1)
  clear hr1 hS1 hf4 hl4
  go_wp2_with fail
  refine (clone_any (.slice ao1 4 cap1) 4 n4 w1 (H1.out.1.rd H1.out.2 0 rfl) (by omega)).mono ?_
  rintro e w2 ⟨v2, c2, rfl, hr2, hS2⟩
  obtain ⟨ao2, cap2, rfl⟩ := hr2.shape
  have H2 := Lib.hid (And.intro hr2 (H1.out.2.join hS2))
  clear hr2 hS2
  go_wp2_with fail
  refine (crcsum_any (.slice ao1 4 cap1) n4 w2 (by rw [HL4.out]; exact H1.out.1.rd H2.out.2 1 rfl) (by rw [HL4.out]; omega)).mono ?_
  rintro e w3 ⟨rfl, rfl⟩
  go_wp2_with fail
  refine (four_any (crcP n4) w2 (crcP_lt _)).mono ?_
  rintro e w3 ⟨v3, c3, rfl, hr3, hS3⟩
  have hS3' := H2.out.2.join hS3
  have hr2' := H2.out.1
  have hrd3 := hr3.rd hS3' 0 rfl
  obtain ⟨ao3, cap3, rfl⟩ := hr3.shape
  clear hS3 hr3
  go_wp2_with ((at_builtin; (refine wpList_app 1 22 i0 (.int .u8 0) _ _ rfl rfl rfl rfl Try.underlying22 i0a i0b i0c i0d rfl (by decide) hS3' rfl hr2' hrd3 (bv_one _) ?_ ?_ ?_); (unfold maxLen; omega); omega; intro v4 c4 w4 hr4 hS4); (obtain ⟨ao4, cap4, rfl⟩ := hr4.shape); rw [← bv_append] at hr4; have H4 := Lib.hid (And.intro hr4 (hS4.pick [1] (by decide) [c4] rfl)); clear hr4 hS4 hS3' hr2' hrd3)
  refine (crcsum_any (.slice ao b.length cap) b w4 (H0.out.st H4.out.2) hn).mono ?_
  rintro e w5 ⟨rfl, rfl⟩
  go_wp2_with fail
  refine (four_any (crcP b) w4 (crcP_lt _)).mono ?_
  rintro e w5 ⟨v5, c5, rfl, hr5, hS5⟩
  have hS5' := H4.out.2.join hS5
  have hr4' := H4.out.1
  have hrd5 := hr5.rd hS5' 0 rfl
  obtain ⟨ao5, cap5, rfl⟩ := hr5.shape
  clear hS5 hr5
  go_wp2_with (first | ((at_builtin; (refine wpList_app 0 22 i0 (.int .u8 0) _ _ rfl rfl rfl rfl Try.underlying22 i0a i0b i0c i0d rfl (by decide) hS6 rfl hr6 hrd0 (bv_one _) ?_ ?_ ?_); (unfold maxLen; omega); omega; intro v7 c7 w7 hr7 hS7); (obtain ⟨ao7, cap7, rfl⟩ := hr7.shape); rw [← bv_append] at hr7; replace hS7 := hS7.pick [0] (by decide) [c7] rfl; clear hS6 hr6 hrd0) | ((at_builtin; (refine wpList_app 1 22 i0 (.int .u8 0) _ _ rfl rfl rfl rfl Try.underlying22 i0a i0b i0c i0d rfl (by decide) hS5' rfl hr4' hrd5 (bv_one _) ?_ ?_ ?_); (unfold maxLen; omega); omega; intro v6 c6 w6 hr6 hS6); (obtain ⟨ao6, cap6, rfl⟩ := hr6.shape); rw [← bv_append] at hr6; replace hS6 := hS6.pick [1] (by decide) [c6] rfl; have hrd0 := H0.out.st hS6; clear hS5' hr4' hrd5))
  go_ret
  refine ⟨_, c7, rfl, ?_, hS7⟩
  have e : n4 ++ fourB (crcP n4) ++ fourB (crcP b) ++ b = sealP b := by unfold sealP; rw [HF4.out]
  rw [← e]
  have el : (n4 ++ fourB (crcP n4) ++ fourB (crcP b) ++ b).length = 4 + 4 + 4 + b.length := by simp only [List.length_append, fourB_length, HL4.out]
  rw [el]
  exact hr7
theorem bv_drop (b : List UInt8) (k : Nat) : bv (b.drop k) = (bv b).drop (k * 1) := by rw [Nat.mul_one]; simp [bv]
theorem bv_take (b : List UInt8) (k : Nat) : bv (b.take k) = (bv b).take (k * 1) := by rw [Nat.mul_one]; simp [bv]
/-- The seal at the beginning: what is sealed. -/
def firstP (b : List UInt8) : Option (List UInt8) :=
  if b.length < 12 ∨ getB (b.drop 4) ≠ crcP (b.take 4) ∨ b.length - 12 < getB b ∨ getB (b.drop 8) ≠ crcP ((b.drop 12).take (getB b)) then none else some ((b.drop 12).take (getB b))
def FirstOut (b : List UInt8) (w : World) (e : Ending) (w' : World) : Prop :=
  (∃ h v c, firstP b = some h ∧ e = .returned (.tuple #[v, .int .i64 ((12 + h.length : Nat) : Int), .bool true]) ∧ RowC 5 1 v h.length (bv h) c ∧ St w.heap.size w w' [c]) ∨
  (firstP b = none ∧ ∃ q, e = .returned (.tuple #[.slice none 0 0, .int .i64 0, .bool q]) ∧ St w.heap.size w w' [])
set_option maxHeartbeats 2000000 in
theorem crcfirst_any (v : Value) (b : List UInt8) (w : World) (h : Rd w 1 v b.length (bv b)) (hn : b.length ≤ 1000000) :
    Calls Try.prog 61 #[v] w (FirstOut b w) := by
  obtain ⟨i0, i0a, i0b, i0c, i0d⟩ := info_parts infoU8
  obtain ⟨ao, cap, rfl⟩ := h.shape
  have H0 := Lib.hid h
  by_cases q12 : b.length < 12
  · have q12i : (b.length : Int) < 12 := by omega
    have HN : Hid (firstP b = none) := Lib.hid (by unfold firstP; rw [if_pos (.inl q12)])
    clear h q12
    go_enter Try.func61, Try.ntmps61
    go_wp2_with fail
    go_ret3
    exact .inr ⟨HN.out, true, rfl, St.init w⟩
  have q12i : (12 : Int) ≤ (b.length : Int) := by omega
  have hcap := h.cap
  have hcapi : (b.length : Int) ≤ (cap : Int) := by omega
  obtain ⟨ad, rfl⟩ : ∃ ad, ao = some ad := by
    cases ao with
    | none => have := h.none_iff; omega
    | some ad => exact ⟨ad, rfl⟩
  have r4 : Rd w 1 (.slice (some ⟨ad.block, ad.off + 4, none⟩) (b.length - 4) (cap - 4)) (b.length - 4) (bv (b.drop 4)) := by
    have := h.drop (ao' := some ⟨ad.block, ad.off + 4, none⟩) 4 (by omega) (fun _ => rfl) (fun e => by omega)
    rwa [← bv_drop] at this
  have t4 : Rd w 1 (.slice (some ad) 4 cap) 4 (bv (b.take 4)) := by
    have := h.take 4 (by omega)
    rwa [← bv_take] at this
  have r8 : Rd w 1 (.slice (some ⟨ad.block, ad.off + 8, none⟩) (b.length - 8) (cap - 8)) (b.length - 8) (bv (b.drop 8)) := by
    have := h.drop (ao' := some ⟨ad.block, ad.off + 8, none⟩) 8 (by omega) (fun _ => rfl) (fun e => by omega)
    rwa [← bv_drop] at this
  have HA4 : Hid (∀ k, Calls Try.prog 71 #[.slice (some ⟨ad.block, ad.off + 4, none⟩) (b.length - 4) (cap - 4)] (w.drewN k) fun e w' => e = .returned (.int .u32 (getB (b.drop 4) : Int)) ∧ ∃ m, w' = w.drewN m) :=
    Lib.hid fun k => quiet_drew (getfour_n _ _ _ _ (r4.drewN k) (by omega))
  have HB4 : Hid (∀ k, Calls Try.prog 60 #[.slice (some ad) 4 cap] (w.drewN k) fun e w' => e = .returned (.int .u32 (crcP (b.take 4) : Int)) ∧ ∃ m, w' = w.drewN m) :=
    Lib.hid fun k => quiet_same (crcsum_n _ _ _ _ (t4.drewN k) (by omega))
  have HR8 := Lib.hid r8
  have HR := Lib.hid h
  have HN : Hid (firstP b = if getB (b.drop 4) ≠ crcP (b.take 4) ∨ b.length - 12 < getB b ∨ getB (b.drop 8) ≠ crcP ((b.drop 12).take (getB b)) then none else some ((b.drop 12).take (getB b))) := Lib.hid (by
    unfold firstP
    by_cases q : getB (b.drop 4) ≠ crcP (b.take 4) ∨ b.length - 12 < getB b ∨ getB (b.drop 8) ≠ crcP ((b.drop 12).take (getB b))
    · rw [if_pos q, if_pos (.inr q)]
    · rw [if_neg q, if_neg (by rintro (h | h); exact q12 h; exact q h)])
  have HGF := Lib.hid (fun k => getfour_any _ b _ (h.drewN k) (by omega))
  clear h r4 t4 r8
  generalize getB (b.drop 4) = G4 at *
  generalize crcP (b.take 4) = C4 at *
  by_cases q1 : G4 = C4
  · subst q1
    have hq1 : ((G4 : Int) != (G4 : Int)) = false := by simp
    go_enter Try.func61, Try.ntmps61
    go_wp2_with fail
    go_quiet (first | (go_at_call 71; exact HA4.out _) | (go_at_call 60; exact HB4.out _))
    go_wp2_with fail
    refine (HGF.out _).mono ?_
    rintro e w2 ⟨rfl, k2, rfl⟩
    rw [World.drewN_drewN]
    have hGl := getB_lt b
    have hG64 : IntKind.u64.wrap (getB b : Int) = (getB b : Int) := by rw [wrap_u64']; omega
    have hG642 : (getB b : Int) % 18446744073709551616 = (getB b : Int) := by omega
    have hG63 : IntKind.i64.wrap (getB b : Int) = (getB b : Int) := IntWalk.i64_in _ (by omega)
    have hL64 : IntKind.u64.wrap ((b.length : Int) - 12) = (b.length : Int) - 12 := by rw [wrap_u64']; omega
    generalize hGe : getB b = n at *
    have HGE := Lib.hid hGe
    by_cases q2 : b.length - 12 < n
    · have q2i : (b.length : Int) - 12 < (n : Int) := by omega
      have HN2 : Hid (firstP b = none) := Lib.hid (by rw [HN.out, if_pos (.inr (.inl q2))])
      clear q2 hGe
      go_wp2_with fail
      go_ret3
      exact .inr ⟨HN2.out, true, rfl, (St.init w).drewN _⟩
    · have q2i : ¬ (b.length : Int) - 12 < (n : Int) := by omega
      have HQ2 := Lib.hid q2
      clear q2 hGe
      have hn12 : n + 12 ≤ b.length := by have := HQ2.out; omega
      obtain ⟨aox, hx⟩ : ∃ aox, (¬ cap = 12 → aox = some ⟨ad.block, ad.off + 12, none⟩) ∧ (cap = 12 → aox = some ad) := by
        by_cases e : cap = 12
        · exact ⟨_, fun h => absurd e h, fun _ => rfl⟩
        · exact ⟨_, fun _ => rfl, fun h => absurd h e⟩
      have rx : Rd w 1 (.slice aox n (cap - 12)) n (bv ((b.drop 12).take n)) := by
        have h1 := HR.out.drop (ao' := aox) 12 (by omega) (fun e => by rw [hx.1 e]; rfl) (fun e => hx.2 e)
        have h2 := h1.take n (by omega)
        rwa [← bv_drop, ← bv_take] at h2
      have HRX := Lib.hid rx
      have hxl := rd_len rx
      have HXL := Lib.hid hxl
      have HX := Lib.hid (And.intro hx HN.out)
      clear rx hxl hx HN HA4 HB4 HGF hG64 hG642 hL64
      by_cases qc : cap = 12
      case' pos =>
        obtain rfl := HX.out.1.2 qc
        subst qc
        go_wp2_with fail
      case' neg =>
        obtain rfl := HX.out.1.1 qc
        go_wp2_with fail
      all_goals
        refine (getfour_n _ (b.drop 8) _ _ (HR8.out.drewN _) (by omega)).mono ?_
        rintro e w3 ⟨rfl, k3, rfl⟩
        rw [World.drewN_drewN]
        go_wp2_with fail
        refine (crcsum_n _ ((b.drop 12).take n) n _ (HRX.out.drewN _) (by omega)).mono ?_
        rintro e w4 ⟨rfl, rfl⟩
        generalize hgx : (b.drop 12).take n = x at *
        generalize hg8 : getB (b.drop 8) = G8 at *
        have HG8 := Lib.hid (And.intro hg8 hgx)
        clear hg8 hgx
        by_cases q3 : G8 = crcP x
        · have HF : Hid (firstP b = some x) := Lib.hid (by
            rw [HX.out.2, if_neg (by rintro (h | h | h); exact h rfl; exact HQ2.out h; exact h q3)])
          have q3i : ((G8 : Int) != (crcP x : Int)) = false := by rw [q3]; simp
          clear q3
          go_wp2_with (at_builtin; (refine wpList_app 0 22 i0 (.int .u8 0) _ _ rfl rfl rfl rfl Try.underlying22 i0a i0b i0c i0d rfl (by decide) (((St.init w).drewN _).alloc _) rfl (RowC.fresh _ [] rfl (Nat.le_refl 0) (Nat.zero_le _) rfl rfl) ((HRX.out.drewN _).keep (Below.alloc (Below.refl _ _) (Nat.le_refl _) _)) (bv_one x) ?_ ?_ ?_); (unfold maxLen; omega); omega; intro v1 c1 w1 hr1 hs1)
          go_ret3
          simp only [Nat.zero_add, List.nil_append] at hr1
          refine .inl ⟨x, v1, c1, HF.out, ?_, ?_, hs1⟩
          · have e := HXL.out
            rw [← e]
            simp
          · have e := HXL.out
            rw [← e]
            exact hr1
        · have HF : Hid (firstP b = none) := Lib.hid (by
            rw [HX.out.2, if_pos (.inr (.inr q3))])
          have q3i : ((G8 : Int) != (crcP x : Int)) = true := by rw [bne_iff_ne]; omega
          clear q3
          go_wp2_with fail
          go_ret3
          exact .inr ⟨HF.out, false, rfl, (St.init w).drewN _⟩
  · have hq1 : ((G4 : Int) != (C4 : Int)) = true := by rw [bne_iff_ne]; omega
    have HN2 : Hid (firstP b = none) := Lib.hid (by rw [HN.out, if_pos (.inl q1)])
    clear q1
    go_enter Try.func61, Try.ntmps61
    go_wp2_with fail
    go_quiet (first | (go_at_call 71; exact HA4.out _) | (go_at_call 60; exact HB4.out _))
    go_wp2_with fail
    go_ret3
    exact .inr ⟨HN2.out, false, rfl, (St.init w).drewN _⟩
end Go.Proofs.Ytdhnmcdgiddhdaa
/-
  Contracts of container.block, container.open.
-/
set_option linter.unusedVariables false
set_option linter.unusedSimpArgs false
namespace Go.Proofs.Ytdhnmcdgiddhdaa
open Go.RowKit
set_option maxRecDepth 100000
/-- What a block is packed as, its kind ahead. -/
def blkX (b e : List UInt8) : List UInt8 := if b.length < e.length + 1 then 0 :: b else 1 :: e
def BlkR (b y : List UInt8) : Prop := ∃ e, EncR b e ∧ y = fourB (crcP (blkX b e)) ++ blkX b e
def BlkOut (b : List UInt8) (w : World) (e : Ending) (w' : World) : Prop := ∃ y v c, e = .returned v ∧ RowC 5 1 v y.length (bv y) c ∧ BlkR b y ∧ St w.heap.size w w' [c]
theorem row_one (g : Nat) (x : UInt8) (y : Int) (hy : (x.toNat : Int) = y) : RowC 5 1 (.slice (some ⟨g, 0, none⟩) 1 1) 1 (bv [x]) [(g, .cells #[.int .u8 y] 5 (0, 0))] := by
  subst hy
  exact RowC.fresh g _ rfl (Nat.le_refl 1) (by decide) rfl rfl
set_option maxHeartbeats 2000000 in
theorem block_any (v : Value) (b : List UInt8) (w : World) (h : Rd w 1 v b.length (bv b)) (hn : b.length ≤ 100000) :
    Calls Try.prog 33 #[v] w (BlkOut b w) := by
  obtain ⟨i0, i0a, i0b, i0c, i0d⟩ := info_parts infoU8
  obtain ⟨ao, cap, rfl⟩ := h.shape
  have H0 := Lib.hid h
  have hS0 := (St.init w).alloc (.cells #[.int .u8 1] 5 (0, 0))
  have hr0 := row_one w.heap.size 1 1 rfl
  have hrd0 := h.keep (Below.alloc (Below.refl w.heap.size w) (Nat.le_refl _) (.cells #[.int .u8 1] 5 (0, 0)))
  clear h
  go_enter Try.func33, Try.ntmps33
  go_wp2_with fail
  refine (entenc_any (.slice ao b.length cap) b _ hrd0 hn).mono ?_
  rintro e w2 ⟨eb, v2, c2, rfl, hr2, he, hS2⟩
  have hel := he.size hn
  have hS2' := hS0.join hS2
  have hrd2 := hr2.rd hS2' 0 rfl
  obtain ⟨ao2, cap2, rfl⟩ := hr2.shape
  have HE := Lib.hid he
  clear hS0 hrd0 he hS2 hr2
  by_cases q : b.length < eb.length + 1
  case' pos =>
    have qi : (b.length : Int) < 1 + (eb.length : Int) := by omega
    have HX : Hid (blkX b eb = 0 :: b) := Lib.hid (by unfold blkX; rw [if_pos q])
    clear q
    go_wp2_with (first | ((at_builtin; (refine wpList_app 0 22 i0 (.int .u8 0) _ _ rfl rfl rfl rfl Try.underlying22 i0a i0b i0c i0d rfl (by decide) hS4 rfl hr4 hrd4 (bv_one _) ?_ ?_ ?_); (unfold maxLen; omega); omega; intro v5 c5 w5 hr5 hS5); (obtain ⟨ao5, cap5, rfl⟩ := hr5.shape); rw [← bv_append] at hr5; replace hS5 := hS5.pick [0] (by decide) [c5] rfl; clear hS4 hr4 hrd4) | ((at_builtin; (refine wpList_app 1 22 i0 (.int .u8 0) _ _ rfl rfl rfl rfl Try.underlying22 i0a i0b i0c i0d rfl (by decide) hS2' rfl hr0 hrd2 (bv_one _) ?_ ?_ ?_); (unfold maxLen; omega); omega; intro v3 c3 w3 hr3 hS3); (obtain ⟨ao3, cap3, rfl⟩ := hr3.shape); rw [← bv_append] at hr3; replace hS3 := hS3.pick [1] (by decide) [c3] rfl; clear hS2' hr0 hrd2; have hS4 := (hS3.pick [] (by decide) [] rfl).alloc (.cells #[.int .u8 0] 5 (0, 0)); have hr4 := row_one w3.heap.size 0 0 rfl; have hrd4 := H0.out.st hS4))
    have hxl : (0 :: b).length = 1 + b.length := by simp; omega
    have hx1 : (0 :: b).length ≤ 1000000 := by rw [hxl]; omega
    obtain ⟨x, HXX⟩ : ∃ x, Hid (x = 0 :: b) := ⟨_, Lib.hid rfl⟩
    have hr5' : RowC 5 1 (.slice ao5 (1 + b.length) cap5) x.length (bv x) c5 := by rw [HXX.out, hxl]; exact hr5
    rw [← HXX.out] at HX hxl hx1
    rw [← hxl] at hr5' ⊢
    have H5 := Lib.hid (And.intro hr5' hS5)
    have HB := Lib.hid (show blkX b eb = x from HX.out)
    clear hr5 hr5' hS5 hr3 hS3 hxl
    obtain ⟨w6, HW6⟩ : ∃ w6, Hid (w6 = w5) := ⟨_, Lib.hid rfl⟩
    rw [← HW6.out] at H5 ⊢
    clear HW6
  case' neg =>
    have qi : ¬ (b.length : Int) < 1 + (eb.length : Int) := by omega
    have HX : Hid (blkX b eb = 1 :: eb) := Lib.hid (by unfold blkX; rw [if_neg q])
    clear q
    go_wp2_with ((at_builtin; (refine wpList_app 1 22 i0 (.int .u8 0) _ _ rfl rfl rfl rfl Try.underlying22 i0a i0b i0c i0d rfl (by decide) hS2' rfl hr0 hrd2 (bv_one _) ?_ ?_ ?_); (unfold maxLen; omega); omega; intro v3 c3 w3 hr3 hS3); (obtain ⟨ao3, cap3, rfl⟩ := hr3.shape); rw [← bv_append] at hr3; replace hS3 := hS3.pick [1] (by decide) [c3] rfl; clear hS2' hr0 hrd2)
    have hxl : (1 :: eb).length = 1 + eb.length := by simp; omega
    have hx1 : (1 :: eb).length ≤ 1000000 := by rw [hxl]; omega
    obtain ⟨x, HXX⟩ : ∃ x, Hid (x = 1 :: eb) := ⟨_, Lib.hid rfl⟩
    have hr5' : RowC 5 1 (.slice ao3 (1 + eb.length) cap3) x.length (bv x) c3 := by rw [HXX.out, hxl]; exact hr3
    rw [← HXX.out] at HX hxl hx1
    rw [← hxl] at hr5' ⊢
    have H5 := Lib.hid (And.intro hr5' hS3)
    have HB := Lib.hid (show blkX b eb = x from HX.out)
    clear hr5' hr3 hS3 hxl
    obtain ⟨w6, HW6⟩ : ∃ w6, Hid (w6 = w3) := ⟨_, Lib.hid rfl⟩
    rw [← HW6.out] at H5 ⊢
    clear HW6
  all_goals
    clear HX HXX
    refine (crcsum_any _ x w6 (H5.out.1.rd H5.out.2 0 rfl) hx1).mono ?_
    rintro e w7 ⟨rfl, rfl⟩
    go_wp2_with fail
    refine (four_any (crcP x) w6 (crcP_lt _)).mono ?_
    rintro e w7 ⟨v7, c7, rfl, hr7, hS7⟩
    have hS8 := H5.out.2.join hS7
    have hrd8 := H5.out.1.rd hS8 1 rfl
    obtain ⟨ao7, cap7, rfl⟩ := hr7.shape
    clear hS7
    go_wp2_with ((at_builtin; (refine wpList_app 0 22 i0 (.int .u8 0) _ _ rfl rfl rfl rfl Try.underlying22 i0a i0b i0c i0d rfl (by decide) hS8 rfl hr7 hrd8 (bv_one _) ?_ ?_ ?_); (unfold maxLen; omega); omega; intro v9 c9 w9 hr9 hS9))
    go_ret
    rw [← bv_append] at hr9
    have el : (fourB (crcP x) ++ x).length = 4 + x.length := by rw [List.length_append, fourB_length]
    exact ⟨fourB (crcP x) ++ x, _, c9, rfl, by rw [el]; exact hr9, ⟨eb, HE.out, by rw [HB.out]⟩, hS9.pick [0] (by decide) _ rfl⟩
/-- What is unpacked out of a block. -/
def OpnR (b x : List UInt8) : Prop := 5 ≤ b.length ∧ getB b = crcP (b.drop 4) ∧ (b[4]? = some 0 ∧ x = b.drop 5 ∨ b[4]? = some 1 ∧ EncR x (b.drop 5))
def OpenOut (b : List UInt8) (size : Nat) (w : World) (e : Ending) (w' : World) : Prop :=
  (∃ x v c, e = .returned (.tuple #[v, .bool true]) ∧ RowC 5 1 v x.length (bv x) c ∧ x.length = size ∧ OpnR b x ∧ St w.heap.size w w' [c]) ∨
  (∃ v, e = .returned (.tuple #[v, .bool false]) ∧ St w.heap.size w w' [] ∧ ¬ ∃ x, x.length = size ∧ OpnR b x)
theorem DecOut.simple {b : List UInt8} {M : Nat} {w w' : World} {e : Ending} (hM : M ≤ 1000000) (h : DecOut b M w e w') :
    (∃ x v c, e = .returned (.tuple #[v, .int .i64 0]) ∧ RowC 5 1 v x.length (bv x) c ∧ EncR x b ∧ x.length ≤ M ∧ St w.heap.size w w' [c]) ∨
    (∃ er : Nat, (er = 2 ∨ er = 6) ∧ e = .returned (.tuple #[.slice none 0 0, .int .i64 (er : Int)]) ∧ St w.heap.size w w' [] ∧ ¬ ∃ x, x.length ≤ M ∧ EncR x b) := by
  rcases h with h | ⟨rfl, hS, _, hn⟩ | ⟨rfl, hS, n, k, h1, h2⟩
  · exact .inl h
  · exact .inr ⟨6, .inr rfl, rfl, hS, fun ⟨x, hx, he⟩ => hn ⟨x, hx, he, he.dec (by omega), fun eo h => h.one he⟩⟩
  · refine .inr ⟨2, .inl rfl, rfl, hS, fun ⟨x, hx, he⟩ => ?_⟩
    obtain ⟨k', h3, _⟩ := he.dec (by omega)
    rw [h1] at h3
    injection h3 with h3
    injection h3 with h3 _
    omega
set_option maxHeartbeats 2000000 in
theorem open_any (v : Value) (b : List UInt8) (size : Nat) (w : World) (h : Rd w 1 v b.length (bv b)) (hn : b.length ≤ 1000000) (hsz : size ≤ 100000) :
    Calls Try.prog 62 #[v, .int .i64 (size : Int)] w (OpenOut b size w) := by
  obtain ⟨ao, cap, rfl⟩ := h.shape
  have H0 := Lib.hid h
  by_cases q5 : b.length < 5
  · have q5i : (b.length : Int) < 5 := by omega
    have HQ := Lib.hid q5
    clear h q5
    go_enter Try.func62, Try.ntmps62
    go_wp2_with fail
    go_quiet (fail)
    go_wp2_with fail
    go_ret2
    exact .inr ⟨_, rfl, (St.init w).drewN _, fun ⟨x, _, hx, _⟩ => by have := HQ.out; omega⟩
  have q5i : ¬ (b.length : Int) < 5 := by omega
  have q5d : decide ((b.length : Int) < 5) = false := by simpa using q5i
  have hcap := h.cap
  have hcapi : (b.length : Int) ≤ (cap : Int) := by omega
  obtain ⟨ad, rfl⟩ : ∃ ad, ao = some ad := by
    cases ao with
    | none => have := h.none_iff; omega
    | some ad => exact ⟨ad, rfl⟩
  have r4 : Rd w 1 (.slice (some ⟨ad.block, ad.off + 4, none⟩) (b.length - 4) (cap - 4)) (b.length - 4) (bv (b.drop 4)) := by
    have := h.drop (ao' := some ⟨ad.block, ad.off + 4, none⟩) 4 (by omega) (fun _ => rfl) (fun e => by omega)
    rwa [← bv_drop] at this
  obtain ⟨aox, hx⟩ : ∃ aox, (¬ cap = 5 → aox = some ⟨ad.block, ad.off + 5, none⟩) ∧ (cap = 5 → aox = some ad) := by
    by_cases e : cap = 5
    · exact ⟨_, fun h => absurd e h, fun _ => rfl⟩
    · exact ⟨_, fun _ => rfl, fun h => absurd h e⟩
  have rx : Rd w 1 (.slice aox (b.length - 5) (cap - 5)) (b.length - 5) (bv (b.drop 5)) := by
    have h1 := h.drop (ao' := aox) 5 (by omega) (fun e => by rw [hx.1 e]; rfl) (fun e => hx.2 e)
    rwa [← bv_drop] at h1
  obtain ⟨y, hy⟩ : ∃ y, b[4]? = some y := ⟨_, List.getElem?_eq_getElem (by omega)⟩
  obtain ⟨_, e1, k4⟩ := h.at (bv_get b 4 y hy)
  cases e1
  replace k4 : w.cell? ⟨ad.block, ad.off + 4, none⟩ = _ := k4
  have HA : Hid (∀ k, Calls Try.prog 71 #[.slice (some ad) b.length cap] (w.drewN k) fun e w' => e = .returned (.int .u32 (getB b : Int)) ∧ ∃ m, w' = w.drewN m) :=
    Lib.hid fun k => quiet_drew (getfour_n _ _ _ _ (h.drewN k) (by omega))
  have HB : Hid (∀ k, Calls Try.prog 60 #[.slice (some ⟨ad.block, ad.off + 4, none⟩) (b.length - 4) (cap - 4)] (w.drewN k) fun e w' => e = .returned (.int .u32 (crcP (b.drop 4) : Int)) ∧ ∃ m, w' = w.drewN m) :=
    Lib.hid fun k => quiet_same (crcsum_n _ _ _ _ (r4.drewN k) (by omega))
  have HRX := Lib.hid rx
  have HX := Lib.hid hx
  have HD : Hid (∀ x, OpnR b x → getB b = crcP (b.drop 4) ∧ (y = 0 ∧ x = b.drop 5 ∨ y = 1 ∧ EncR x (b.drop 5))) := Lib.hid (fun x hx => by
    obtain ⟨_, h1, h2⟩ := hx
    rw [hy] at h2
    exact ⟨h1, h2.imp (fun h => ⟨Option.some.inj h.1, h.2⟩) (fun h => ⟨Option.some.inj h.1, h.2⟩)⟩)
  have HO : Hid (∀ x, getB b = crcP (b.drop 4) → (y = 0 ∧ x = b.drop 5 ∨ y = 1 ∧ EncR x (b.drop 5)) → OpnR b x) := Lib.hid (fun x h1 h2 => ⟨by omega, h1, by
    rw [hy]
    exact h2.imp (fun h => ⟨by rw [h.1], h.2⟩) (fun h => ⟨by rw [h.1], h.2⟩)⟩)
  clear h r4 rx hx hy q5
  generalize hg : getB b = G at *
  generalize hc : crcP (b.drop 4) = C at *
  clear hg hc
  by_cases q1 : G = C
  · subst q1
    have hq1 : ((G : Int) != (G : Int)) = false := by simp
    go_enter Try.func62, Try.ntmps62
    go_wp2_with fail
    go_quiet (first | (go_at_call 71; exact HA.out _) | (go_at_call 60; exact HB.out _))
    generalize hwq : w.drewN nq = wq
    have k4q : wq.cell? ⟨ad.block, ad.off + 4, none⟩ = some (.int .u8 (y.toNat : Int)) := by rw [← hwq, World.cell?_drewN]; exact k4
    have HSQ : Hid (St w.heap.size w wq []) := Lib.hid (hwq ▸ (St.init w).drewN nq)
    have HRQ : Hid (Rd wq 1 (.slice aox (b.length - 5) (cap - 5)) (b.length - 5) (bv (b.drop 5))) := Lib.hid (hwq ▸ HRX.out.drewN nq)
    clear k4 hwq HA HB HRX
    have hyl := y.toNat_lt
    have hd5 : (b.drop 5).length = b.length - 5 := List.length_drop
    by_cases qc : cap = 5
    case' pos =>
      obtain rfl := HX.out.2 qc
      subst qc
      have e0 : b.length - 5 = 0 := by omega
      rw [e0] at HRQ hd5
      replace HRQ : Hid (Rd wq 1 (.slice (some ad) 0 0) 0 (bv (b.drop 5))) := HRQ
      have HL := Lib.hid hd5
    case' neg =>
      obtain rfl := HX.out.1 qc
      have HL := Lib.hid hd5
    all_goals
      by_cases y0 : y = 0
      · subst y0
        go_wp2_with fail
        refine (clone_any _ _ (b.drop 5) wq HRQ.out (by omega)).mono ?_
        rintro e w2 ⟨v2, c2, rfl, hr2, hS2⟩
        obtain ⟨ao2, cap2, rfl⟩ := hr2.shape
        have H2 := Lib.hid (And.intro hr2 (HSQ.out.join hS2))
        clear hr2 hS2
        clear hd5
        by_cases qs : (b.drop 5).length = size
        · have qsi : (((b.drop 5).length : Int) == (size : Int)) = true := by rw [beq_iff_eq]; omega
          rw [HL.out] at qsi
          try (replace qsi : ((0 : Int) == (size : Int)) = _ := qsi)
          have HQ := Lib.hid qs
          clear qs
          go_wp2_with fail
          go_ret2
          exact .inl ⟨b.drop 5, _, c2, rfl, by rw [HL.out]; exact H2.out.1, HQ.out, HO.out _ (by first | trivial | rfl) (.inl ⟨by first | trivial | rfl, rfl⟩), H2.out.2.pick [0] (by decide) _ rfl⟩
        · have qsi : (((b.drop 5).length : Int) == (size : Int)) = false := by rw [beq_eq_false_iff_ne]; omega
          rw [HL.out] at qsi
          try (replace qsi : ((0 : Int) == (size : Int)) = _ := qsi)
          have HQ := Lib.hid qs
          clear qs
          go_wp2_with fail
          go_ret2
          refine .inr ⟨_, rfl, H2.out.2.pick [] (by decide) [] rfl, fun ⟨x, hx, hx2⟩ => ?_⟩
          rcases (HD.out x hx2).2 with ⟨_, h⟩ | ⟨h, _⟩
          · rw [h] at hx
            exact HQ.out hx
          · cases h
      · have hy0 : ((y.toNat : Int) == 0) = false := by
          rw [beq_eq_false_iff_ne]
          intro e
          exact y0 (UInt8.toNat_inj.1 (show y.toNat = (0 : UInt8).toNat from by have : (0 : UInt8).toNat = 0 := rfl; omega))
        by_cases y1 : y = 1
        · subst y1
          go_wp2_with fail
          refine (entdec_any _ (b.drop 5) (size : Int) wq (by rw [hd5]; exact HRQ.out) (by omega) (by omega)).mono ?_
          intro e w2 hdec
          rcases hdec.simple (by rw [Int.toNat_natCast]; omega) with ⟨x, v2, c2, rfl, hr2, he, hl, hS2⟩ | ⟨er, her, rfl, hS2, hno⟩
          · obtain ⟨ao2, cap2, rfl⟩ := hr2.shape
            have H2 := Lib.hid (And.intro hr2 (And.intro he (HSQ.out.join hS2)))
            have HXB : Hid (x.length ≤ 100000) := Lib.hid (by rw [Int.toNat_natCast] at hl; omega)
            clear hr2 he hl hS2 hdec
            by_cases qs : x.length = size
            · have qsi : ((x.length : Int) == (size : Int)) = true := by rw [beq_iff_eq]; omega
              have HQ := Lib.hid qs
              clear qs
              go_wp2_with fail
              go_ret2
              exact .inl ⟨x, _, c2, rfl, H2.out.1, HQ.out, HO.out _ (by first | trivial | rfl) (.inr ⟨by first | trivial | rfl, H2.out.2.1⟩), H2.out.2.2.pick [0] (by decide) _ rfl⟩
            · have qsi : ((x.length : Int) == (size : Int)) = false := by rw [beq_eq_false_iff_ne]; omega
              have HQ := Lib.hid qs
              clear qs
              go_wp2_with fail
              go_ret2
              refine .inr ⟨_, rfl, H2.out.2.2.pick [] (by decide) [] rfl, fun ⟨z, hz, hz2⟩ => ?_⟩
              rcases (HD.out z hz2).2 with ⟨h, _⟩ | ⟨_, h⟩
              · cases h
              · exact HQ.out (by rw [EncR.text H2.out.2.1 h (by have := HXB.out; omega) (by omega)]; exact hz)
          · have H2 := Lib.hid (And.intro hno (HSQ.out.join hS2))
            rw [Int.toNat_natCast] at H2
            clear hno hS2 hdec
            rcases her with rfl | rfl
            all_goals
              go_wp2_with fail
              go_ret2
              refine .inr ⟨_, rfl, H2.out.2.pick [] (by decide) [] rfl, fun ⟨z, hz, hz2⟩ => ?_⟩
              rcases (HD.out z hz2).2 with ⟨h, _⟩ | ⟨_, h⟩
              · cases h
              · exact H2.out.1 ⟨z, by omega, h⟩
        · have hy1 : ((y.toNat : Int) == 1) = false := by
            rw [beq_eq_false_iff_ne]
            intro e
            exact y1 (UInt8.toNat_inj.1 (show y.toNat = (1 : UInt8).toNat from by have : (1 : UInt8).toNat = 1 := rfl; omega))
          have HY := Lib.hid (And.intro y0 y1)
          clear y0 y1
          go_wp2_with fail
          go_ret2
          refine .inr ⟨_, rfl, HSQ.out, fun ⟨x, _, hx⟩ => ?_⟩
          rcases (HD.out x hx).2 with ⟨h, _⟩ | ⟨h, _⟩
          · exact HY.out.1 h
          · exact HY.out.2 h
  · have hq1 : ((G : Int) != (C : Int)) = true := by rw [bne_iff_ne]; omega
    have HQ := Lib.hid q1
    clear q1
    go_enter Try.func62, Try.ntmps62
    go_wp2_with fail
    go_quiet (first | (go_at_call 71; exact HA.out _) | (go_at_call 60; exact HB.out _))
    go_wp2_with fail
    go_ret2
    exact .inr ⟨_, rfl, (St.init w).drewN _, fun ⟨x, _, hx⟩ => HQ.out (HD.out x hx).1⟩
end Go.Proofs.Ytdhnmcdgiddhdaa
/-
  Contract of container.Pack.
-/
set_option linter.unusedVariables false
set_option linter.unusedSimpArgs false
namespace Go.Proofs.Ytdhnmcdgiddhdaa
open Go.RowKit
set_option maxRecDepth 100000
/-- A text's blocks, packed. -/
def BlksR : List UInt8 → List (List UInt8) → Prop
  | b, [] => b = []
  | b, x :: X => b ≠ [] ∧ BlkR (b.take 1000) x ∧ BlksR (b.drop 1000) X
def headP (n : Nat) (X : List (List UInt8)) : List UInt8 := putN n ++ X.flatMap fun x => putN x.length
def PackR (b c : List UInt8) : Prop := ∃ X, BlksR b X ∧ c = sealP (headP b.length X) ++ X.flatten
def PackOut (b : List UInt8) (w : World) (e : Ending) (w' : World) : Prop := ∃ y v c, e = .returned v ∧ RowC 5 1 v y.length (bv y) c ∧ PackR b y ∧ St w.heap.size w w' [c]
theorem BlkR.size {b y : List UInt8} (h : BlkR b y) : 5 ≤ y.length ∧ y.length ≤ b.length + 5 := by
  obtain ⟨e, _, rfl⟩ := h
  rw [List.length_append, fourB_length]
  unfold blkX
  split
  · rw [List.length_cons]; omega
  · rw [List.length_cons]; omega
theorem headP_snoc (n : Nat) (X : List (List UInt8)) (x : List UInt8) : headP n (X ++ [x]) = headP n X ++ putN x.length := by unfold headP; simp
section
attribute [local go_sem] min2_ints min_of_two
set_option maxHeartbeats 2000000 in
theorem pack_any (v : Value) (b : List UInt8) (w : World) (h : Rd w 1 v b.length (bv b)) (hn : b.length ≤ 100000) :
    Calls Try.prog 18 #[v] w (PackOut b w) := by
  obtain ⟨i0, i0a, i0b, i0c, i0d⟩ := info_parts infoU8
  have H0 := Lib.hid h
  obtain ⟨ao, cap, rfl⟩ := h.shape
  have hw64 : IntKind.u64.wrap (b.length : Int) = (b.length : Int) := by rw [wrap_u64']; omega
  clear h
  go_enter Try.func18, Try.ntmps18
  go_wp2_with fail
  refine (numput_any b.length w (by omega)).mono ?_
  rintro e w1 ⟨v1, c1, rfl, hr1, hS1⟩
  have HR1 := Lib.hid (And.intro hr1 hS1)
  clear hr1 hS1 hw64
  go_wp2_with fail
  go_loopg [0, 3, 4] ((b.length + 999) / 1000) (fun gf s0 s3 s4 wr => ∃ (rest : List UInt8) (X : List (List UInt8)) (ch co : List (Nat × Obj)), (rest.length + 999) / 1000 = gf ∧ rest.length ≤ b.length ∧ X.length + gf = (b.length + 999) / 1000 ∧ Rd w 1 s0 rest.length (bv rest) ∧
    RowC 5 1 s3 (headP b.length X).length (bv (headP b.length X)) ch ∧ RowC 5 1 s4 X.flatten.length (bv X.flatten) co ∧ (headP b.length X).length ≤ 10 * (X.length + 1) ∧ X.flatten.length ≤ 1005 * X.length ∧ Hid (∀ Y, BlksR rest Y → BlksR b (X ++ Y)) ∧ St w.heap.size w wr [ch, co])
  case atStart =>
    refine ⟨b, [], c1, [], rfl, Nat.le_refl _, by simp, H0.out, ?_, RowC.nil _ _, ?_, by simp, Lib.hid fun Y h => h, ?_⟩
    · have e : headP b.length [] = putN b.length := by unfold headP; simp
      rw [e]; exact HR1.out.1
    · have e : headP b.length [] = putN b.length := by unfold headP; simp
      have := putN_le b.length
      rw [e]; simpa using this
    · exact HR1.out.2.one_nil.swap
  case round =>
    clear HR1 c1
    obtain ⟨rest, X, ch, co, hgf, hrl, hXl, hrd, hrh, hro, hhl, hol, HB, hS⟩ := hrel
    obtain ⟨ao0, cap0, rfl⟩ := hrd.shape
    obtain ⟨ao3, cap3, rfl⟩ := hrh.shape
    obtain ⟨ao4, cap4, rfl⟩ := hro.shape
    have hcp := hrd.cap
    cases gk with
    | zero =>
      have hr0 : rest.length = 0 := by omega
      have hre : rest = [] := List.eq_nil_of_length_eq_zero hr0
      have HBX : Hid (BlksR b X) := Lib.hid (by have := HB.out [] (by rw [hre]; rfl); rwa [List.append_nil] at this)
      have HR := Lib.hid (And.intro hrh (And.intro hro hS))
      subst hre
      clear hrd hrh hro hS HB hr0 hgf
      have hhl2 : (headP b.length X).length ≤ 1000000 := by omega
      go_wp2_with fail
      refine (crcseal_any _ (headP b.length X) wr (HR.out.1.rd HR.out.2.2 0 rfl) hhl2).mono ?_
      rintro e w2 ⟨v2, c2, rfl, hr2, hS2⟩
      have hsl := sealP_length (headP b.length X)
      have hS2' := HR.out.2.2.join hS2
      have hrd2 := HR.out.2.1.rd hS2' 2 rfl
      have hro2 := HR.out.2.1
      obtain ⟨ao2, cap2, rfl⟩ := hr2.shape
      have HSL := Lib.hid hsl
      have hbnd : (sealP (headP b.length X)).length ≤ 2000000 := by omega
      generalize hsp : sealP (headP b.length X) = sp at *
      have HSP := Lib.hid hsp
      have hol2 : X.flatten.length ≤ 2000000 := by omega
      generalize hfl : X.flatten = fl at *
      have HFL := Lib.hid hfl
      clear hS2 hsl hsp hfl
      go_wp2_with ((at_builtin; (refine wpList_app 0 22 i0 (.int .u8 0) _ _ rfl rfl rfl rfl Try.underlying22 i0a i0b i0c i0d rfl (by decide) hS2' rfl hr2 hrd2 (bv_one _) ?_ ?_ ?_); (unfold maxLen; omega); omega; intro v3 c3 w3 hr3 hS3))
      go_ret
      rw [← bv_append] at hr3
      exact ⟨sp ++ fl, _, c3, rfl, by rw [List.length_append]; exact hr3, ⟨X, HBX.out, by rw [HSP.out, HFL.out]⟩, hS3.pick [0] (by decide) _ rfl⟩
    | succ m =>
      have hr0 : 0 < rest.length := by omega
      have hr0i : (0 : Int) < (rest.length : Int) := by omega
      have hhl2 : (headP b.length X).length ≤ 1000000 := by omega
      have hfl2 : X.flatten.length ≤ 2000000 := by omega
      obtain ⟨hd, HHD⟩ : ∃ hd, Hid (hd = headP b.length X) := ⟨_, Lib.hid rfl⟩
      obtain ⟨fl, HFL⟩ : ∃ fl, Hid (fl = X.flatten) := ⟨_, Lib.hid rfl⟩
      rw [← HHD.out] at hhl hrh hhl2 ⊢
      rw [← HFL.out] at hol hfl2 hro ⊢
      obtain ⟨n, hn1, hn2, hn3⟩ : ∃ n : Nat, n = min rest.length 1000 ∧ 0 < n ∧ n ≤ rest.length := ⟨_, rfl, by omega, by omega⟩
      have hmin : (if (1000 : Int) < (rest.length : Int) then (1000 : Int) else (rest.length : Int)) = (n : Int) := by split <;> omega
      have hnr : (n : Int) ≤ (rest.length : Int) := by omega
      have hnc : (n : Int) ≤ (cap0 : Int) := by omega
      have htk : rest.take n = rest.take 1000 := by
        rcases Nat.le_total rest.length 1000 with q | q
        · rw [List.take_of_length_le (by omega), List.take_of_length_le q]
        · rw [show n = 1000 by omega]
      have hdr : rest.drop n = rest.drop 1000 := by
        rcases Nat.le_total rest.length 1000 with q | q
        · rw [List.drop_of_length_le (by omega), List.drop_of_length_le q]
        · rw [show n = 1000 by omega]
      have hrt : Rd w 1 (.slice ao0 n cap0) n (bv (rest.take n)) := by
        have := hrd.take n hn3
        rwa [← bv_take] at this
      have hlt : (rest.take n).length = n := by rw [List.length_take]; omega
      have HRT := Lib.hid (And.intro hrt hlt)
      have HRD := Lib.hid hrd
      have HTD := Lib.hid (And.intro htk (And.intro hdr hn1))
      have HR := Lib.hid (And.intro hrh (And.intro hro hS))
      clear hrt hlt hrd htk hdr hn1 hrh hro hS
      go_wp2_with fail
      refine (block_any _ (rest.take n) wr (by rw [HRT.out.2]; exact HRT.out.1.st HR.out.2.2) (by rw [HRT.out.2]; omega)).mono ?_
      rintro e w2 ⟨y, vy, cy, rfl, hry, hby, hSy⟩
      have hysz := hby.size
      rw [HRT.out.2] at hysz
      have hyl : y.length ≤ 1005 := by have := HTD.out.2.2; omega
      have hyw : IntKind.u64.wrap (y.length : Int) = (y.length : Int) := by rw [wrap_u64']; omega
      obtain ⟨aoy, capy, rfl⟩ := hry.shape
      have HY := Lib.hid (And.intro hry (And.intro hby (HR.out.2.2.join hSy)))
      clear hry hby hSy hysz
      go_wp2_with fail
      refine (numput_any y.length w2 (by omega)).mono ?_
      rintro e w3 ⟨v3, c3, rfl, hr3, hS3⟩
      have hS3' := (HY.out.2.2.join hS3).pick [2, 3, 1, 0] (by decide) [ch, co, cy, c3] rfl
      have hrd3 := hr3.rd hS3' 3 rfl
      have hrh3 := HR.out.1
      have hpl := putN_le y.length
      obtain ⟨aop, capp, rfl⟩ := hr3.shape
      obtain ⟨pn, HPN⟩ : ∃ pn, Hid (pn = putN y.length) := ⟨_, Lib.hid rfl⟩
      rw [← HPN.out] at hr3 hrd3 hpl
      rw [← HPN.out]
      have hro3 := HR.out.2.1
      obtain ⟨aor, har⟩ : ∃ aor, (¬ cap0 = n → aor = ao0.map fun a => a.add n) ∧ (cap0 = n → aor = ao0) := by
        by_cases e : cap0 = n
        · exact ⟨_, fun h => absurd e h, fun _ => rfl⟩
        · exact ⟨_, fun _ => rfl, fun h => absurd h e⟩
      have hrest : Rd w 1 (.slice aor (rest.length - n) (cap0 - n)) (rest.length - n) (bv (rest.drop n)) := by
        have := HRD.out.drop (ao' := aor) n hn3 (fun e => by rw [har.1 e, Nat.mul_one]) har.2
        rwa [← bv_drop] at this
      have hrdl : (rest.drop n).length = rest.length - n := List.length_drop
      have HRE := Lib.hid (And.intro hrest (And.intro hrdl har))
      obtain ⟨ad0, hao0⟩ : ∃ ad0, ao0 = some ad0 := by
        cases ao0 with
        | none => have := HRD.out.none_iff; omega
        | some ad => exact ⟨ad, rfl⟩
      subst hao0
      clear hS3 hr3 hrest hrdl har
      by_cases qc : cap0 = n
      case' pos =>
        obtain rfl := HRE.out.2.2.2 qc
      case' neg =>
        obtain rfl := HRE.out.2.2.1 qc
      all_goals
        go_wp2_with (first | ((at_builtin; (refine wpList_app 1 22 i0 (.int .u8 0) _ _ rfl rfl rfl rfl Try.underlying22 i0a i0b i0c i0d rfl (by decide) hS5 rfl hro3 hrdy (bv_one _) ?_ ?_ ?_); (unfold maxLen; omega); omega; intro v6 c6 w6 hr6 hS6); rw [← bv_append] at hr6; have H6 := Lib.hid (And.intro hr5 (And.intro hr6 (hS6.pick [0, 1] (by decide) [c5, c6] rfl))); clear hS5 hro3 hrdy hr5 hr6 hS6) | ((at_builtin; (refine wpList_app 0 22 i0 (.int .u8 0) _ _ rfl rfl rfl rfl Try.underlying22 i0a i0b i0c i0d rfl (by decide) hS3' rfl hrh3 hrd3 (bv_one _) ?_ ?_ ?_); (unfold maxLen; omega); omega; intro v5 c5 w5 hr5 hS5); rw [← bv_append] at hr5; have hrdy := HY.out.1.rd hS5 2 rfl; clear hS3' hrh3 hrd3))
        go_roundg m
        case measure => omega
        case rel =>
          refine ⟨rest.drop n, X ++ [y], c5, c6, ?_, ?_, ?_, ?_, ?_, ?_, ?_, ?_, Lib.hid fun Y hY => ?_, H6.out.2.2⟩
          · have h1 := HRE.out.2.1; have h2 := HTD.out.2.2; omega
          · have h1 := HRE.out.2.1; omega
          · rw [List.length_append, List.length_singleton]; omega
          · rw [HRE.out.2.1]
            first
            | exact HRE.out.1
            | (have := HRE.out.1
               rw [show cap0 - n = 0 by omega] at this
               exact this)
          · have := H6.out.1
            rw [headP_snoc, ← HHD.out, ← HPN.out, List.length_append]
            exact this
          · have := H6.out.2.1
            rw [List.flatten_append, ← HFL.out, List.flatten_singleton, List.length_append]
            exact this
          · rw [headP_snoc, ← HHD.out, ← HPN.out, List.length_append, List.length_append, List.length_singleton]; omega
          · rw [List.flatten_append, ← HFL.out, List.flatten_singleton, List.length_append, List.length_append, List.length_singleton]; omega
          · rw [List.append_assoc, List.singleton_append]
            refine HB.out _ ⟨fun e => ?_, ?_, ?_⟩
            · rw [e] at hn3; simp at hn3; omega
            · rw [← HTD.out.1]; exact HY.out.2.1
            · rw [← HTD.out.2.1]; exact hY
end
end Go.Proofs.Ytdhnmcdgiddhdaa
/-
  Contracts of container.plan's blocks, part.
-/
set_option linter.unusedVariables false
set_option linter.unusedSimpArgs false
namespace Go.Proofs.Ytdhnmcdgiddhdaa
open Go.RowKit
set_option maxRecDepth 100000
def planV (n : Int) (v : Value) (e : Int) : Value := .agg #[.int .i64 n, v, .int .i64 e]
set_option maxHeartbeats 800000 in
theorem ctnum_any (n e : Int) (ao : Option Addr) (l cap : Nat) (w : World) :
    Calls Try.prog 37 #[.agg #[.int .i64 n, .slice ao l cap, .int .i64 e]] w fun x w' => x = .returned (.int .i64 (l : Int)) ∧ ∃ o, w' = w.alloc o := by
  go_enter Try.func37, Try.ntmps37
  go_wp2_with fail
  go_ret
  exact ⟨rfl, _, rfl⟩
section
attribute [local go_sem] min2_ints min_of_two
set_option maxHeartbeats 800000 in
theorem ctsize_any (n e : Int) (ao : Option Addr) (l cap : Nat) (k : Nat) (w : World) (hn : 0 ≤ n) (hn2 : n ≤ 1099511627776) (hk : k ≤ 1099511627776) :
    Calls Try.prog 38 #[.agg #[.int .i64 n, .slice ao l cap, .int .i64 e], .int .i64 (k : Int)] w fun x w' => x = .returned (.int .i64 (min 1000 (n - (k : Int) * 1000))) ∧ ∃ o, w' = w.alloc o := by
  have h1 : IntKind.i64.wrap ((k : Int) * 1000) = (k : Int) * 1000 := IntWalk.i64_in _ (by omega)
  have h2 : IntKind.i64.wrap (n - (k : Int) * 1000) = n - (k : Int) * 1000 := IntWalk.i64_in _ (by omega)
  go_enter Try.func38, Try.ntmps38
  go_wp2_with fail
  all_goals
    go_ret
    refine ⟨congrArg (fun z : Int => Ending.returned (Value.int .i64 z)) ?_, _, rfl⟩
    omega
end
end Go.Proofs.Ytdhnmcdgiddhdaa
/-
  Contract of container.read.
-/
set_option linter.unusedVariables false
set_option linter.unusedSimpArgs false
namespace Go.Proofs.Ytdhnmcdgiddhdaa
open Go.RowKit
set_option maxRecDepth 100000
/-- Numbers, one behind the other, and nothing else. -/
def NumsR : List UInt8 → List Nat → Prop
  | b, [] => b = []
  | b, n :: l => b ≠ [] ∧ ∃ k, rdN b 1099511627776 = some (n, k) ∧ NumsR (b.drop k) l
theorem NumsR.one : ∀ {l l' : List Nat} {b : List UInt8}, NumsR b l → NumsR b l' → l = l'
  | [], [], _, _, _ => rfl
  | [], _ :: _, _, h, h' => absurd h h'.1
  | _ :: _, [], _, h, h' => absurd h' h.1
  | n :: l, n' :: l', b, ⟨_, k, h1, h2⟩, ⟨_, k', h1', h2'⟩ => by
    rw [h1] at h1'
    injection h1' with h1'
    injection h1' with e1 e2
    subst e1 e2
    rw [NumsR.one h2 h2']
/-- What a packed text's head says: size, blocks' lengths, where the first one lies. -/
def PlanR (b : List UInt8) (size : Nat) (ls : List Nat) (at0 : Nat) : Prop :=
  ∃ h k, firstP b = some h ∧ at0 = 12 + h.length ∧ rdN h 1099511627776 = some (size, k) ∧ NumsR (h.drop k) ls ∧ at0 + ls.sum = b.length ∧ ls.length = (size + 999) / 1000
theorem PlanR.one {b : List UInt8} {s s' : Nat} {l l' : List Nat} {a a' : Nat} (h : PlanR b s l a) (h' : PlanR b s' l' a') : s = s' ∧ l = l' ∧ a = a' := by
  obtain ⟨x, k, h1, h2, h3, h4, _⟩ := h
  obtain ⟨x', k', h1', h2', h3', h4', _⟩ := h'
  rw [h1] at h1'
  injection h1' with h1'
  subst h1'
  rw [h3] at h3'
  injection h3' with h3'
  injection h3' with e1 e2
  subst e1 e2
  exact ⟨rfl, h4.one h4', by rw [h2, h2']⟩
/-- Where the blocks lie. -/
def placesP (at0 : Nat) (ls : List Nat) : List Int := (List.range ls.length).map fun i => ((at0 + (ls.take i).sum : Nat) : Int)
theorem placesP_length (at0 : Nat) (ls : List Nat) : (placesP at0 ls).length = ls.length := by simp [placesP]
theorem placesP_snoc (at0 : Nat) (ls : List Nat) (n : Nat) : placesP at0 (ls ++ [n]) = placesP at0 ls ++ [((at0 + ls.sum : Nat) : Int)] := by
  unfold placesP
  rw [List.length_append, List.length_singleton, List.range_succ, List.map_append]
  congr 1
  · refine List.map_congr_left fun i hi => ?_
    rw [List.mem_range] at hi
    rw [List.take_append_of_le_length (by omega)]
  · simp
theorem h63 : (Try.prog.info? 63).map (·.size) = some 3 := by kernel_rfl
def ReadOut (b : List UInt8) (w : World) (e : Ending) (w' : World) : Prop :=
  (∃ size ls at0 v c, PlanR b size ls at0 ∧ e = .returned (.tuple #[planV (size : Int) v (b.length : Int), .bool true]) ∧ RowC 3 1 v ls.length (iv (placesP at0 ls)) c ∧ St w.heap.size w w' [c]) ∨
  (∃ n ao l cap m, e = .returned (.tuple #[planV n (.slice ao l cap) m, .bool false]) ∧ St w.heap.size w w' [] ∧ ¬ ∃ size ls at0, PlanR b size ls at0)
theorem rdN_pos {b : List UInt8} {most n k : Nat} (h : rdN b most = some (n, k)) : 0 < k ∧ k ≤ b.length := by
  have h1 := (getN_le b).1
  unfold rdN at h
  split at h
  · cases h
  · injection h with h
    have h2 := congrArg Prod.snd h
    simp only at h2
    omega
/-- What the last statement of read reads. -/
def ReadS (p7 p8 size A : Nat) (pv : Value) (bd : Bool) (w' : World) : Prop :=
  w'.cell? ⟨p8, 0, none⟩ = some (.int .i64 (size : Int)) ∧ w'.cell? ⟨p8, 1, none⟩ = some pv ∧ w'.cell? ⟨p8, 2, none⟩ = some (.int .i64 (A : Int)) ∧ w'.cell? ⟨p7, 1, none⟩ = some (.bool bd)
theorem firstP_len {b h : List UInt8} (hf : firstP b = some h) : h.length + 12 ≤ b.length := by
  unfold firstP at hf
  split at hf
  · cases hf
  · rename_i q
    cases hf
    rw [List.length_take, List.length_drop]
    omega
set_option maxHeartbeats 2000000 in
theorem ctread_any (v : Value) (b : List UInt8) (w : World) (h : Rd w 1 v b.length (bv b)) (hn : b.length ≤ 1000000) :
    Calls Try.prog 35 #[v] w (ReadOut b w) := by
  obtain ⟨i0, i0a, i0b, i0c, i0d⟩ := info_parts infoIntN
  obtain ⟨ao, cap, rfl⟩ := h.shape
  have hS0 := (St.init w).alloc (.cells #[.int .i64 0, .slice none 0 0, .int .i64 0] 63 (0, 0))
  have H0 := Lib.hid (h.st hS0)
  have HS0 := Lib.hid hS0
  clear h hS0
  go_enter Try.func35, Try.ntmps35
  go_wp2_with fail
  refine (crcfirst_any _ b _ H0.out hn).mono ?_
  rintro e w1 (⟨h, v1, c1, hf, rfl, hr1, hS1⟩ | ⟨hf, q, rfl, hS1⟩)
  · obtain ⟨ao1, cap1, rfl⟩ := hr1.shape
    have hh := firstP_len hf
    have HJ := Lib.hid ((HS0.out.join hS1).pick [1] (by decide) [[(w.heap.size, .cells #[.int .i64 0, .slice none 0 0, .int .i64 0] 63 (0, 0))]] rfl)
    have hSr : St w1.heap.size w1 (w1.alloc (.cells #[.slice ao1 h.length cap1, .bool false] 57 (0, 0))) (rdrC w1.heap.size (.slice ao1 h.length cap1) false :: []) := (St.init w1).alloc _
    have HSR := Lib.hid hSr
    have HRD := Lib.hid (hr1.rd hS1 0 rfl)
    have HF := Lib.hid hf
    clear hf hr1 hS1 hSr
    go_wp2_with fail
    refine (rnum_any w1.heap.size _ false h 1099511627776 (by decide) (fun h => by cases h) HRD.out HSR.out (by omega)).mono ?_
    rintro e w2 (⟨hnone, rfl, hS2⟩ | ⟨size, k, sv, hsome, rfl, hrd2, hS2⟩)
    case inl =>
      obtain ⟨rest, Hrest⟩ : ∃ rest : List UInt8, Hid (rest = []) := ⟨_, Lib.hid rfl⟩
      obtain ⟨sv, Hsv⟩ : ∃ sv : Value, Hid (sv = .slice none 0 0) := ⟨_, Lib.hid rfl⟩
      obtain ⟨bad, Hbad⟩ : ∃ bad : Bool, Hid (bad = true) := ⟨_, Lib.hid rfl⟩
      obtain ⟨size, Hsize⟩ : ∃ size : Nat, Hid (size = 0) := ⟨_, Lib.hid rfl⟩
      have hrd2 : Rd w1 1 sv rest.length (bv rest) := by rw [Hsv.out, Hrest.out]; exact Rd.nil _ _
      rw [← Hsv.out, ← Hbad.out] at hS2
      obtain ⟨at0, HAE⟩ : ∃ at0, Hid (at0 = 12 + h.length) := ⟨_, Lib.hid rfl⟩
      have HAT : Hid (at0 ≤ b.length ∧ (bad = false → at0 = 12 + h.length)) := Lib.hid ⟨by have := HAE.out; omega, fun _ => HAE.out⟩
      have HAV : Hid (Value.int .i64 (12 + (h.length : Int)) = .int .i64 ((at0 + ([] : List Nat).sum : Nat) : Int)) := Lib.hid (by rw [HAE.out]; simp)
      have hhl : h.length ≤ 1000000 := by omega
      have HB0 : Hid (bad = true → rest = []) := Lib.hid (fun _ => Hrest.out)
      have HSZ : Hid (size ≤ 1099511627776) := Lib.hid (by rw [Hsize.out]; omega)
      have HB1 : Hid (bad = false → firstP b = some h ∧ ∃ k, rdN h 1099511627776 = some (size, k) ∧ NumsR (h.drop k) = NumsR rest) := Lib.hid (fun e => by rw [Hbad.out] at e; cases e)
      have HB2 : Hid (∀ s l a, PlanR b s l a → bad = false ∧ s = size ∧ a = at0 ∧ NumsR rest l) := Lib.hid (by
        rintro s l a ⟨h', k', g1, g2, g3, _⟩
        rw [HF.out] at g1
        cases g1
        rw [hnone] at g3
        cases g3)
      have hrl : rest.length ≤ h.length := by rw [Hrest.out]; exact Nat.zero_le _
      clear hnone
      obtain ⟨d0, d1, _, _⟩ := rdr_cells hS2
      obtain ⟨ao2, cap2, rfl⟩ := hrd2.shape
      have HR2 := Lib.hid hrd2
      have hS3 := hS2.alloc (.cells #[.int .i64 0, .slice none 0 0, .int .i64 0] 63 (0, 0))
      go_wp2_with fail
      obtain ⟨w3, HW3⟩ : ∃ w3, Hid (w3 = w2.alloc (.cells #[.int .i64 0, .slice none 0 0, .int .i64 0] 63 (0, 0))) := ⟨_, Lib.hid rfl⟩
      rw [← HW3.out] at hS3 ⊢
      have HS3 : Hid (St w1.heap.size w1 w3 [[(w2.heap.size, .cells #[.int .i64 (size : Int), .slice none 0 0, .int .i64 0] 63 (0, 0))], rdrC w1.heap.size (.slice ao2 rest.length cap2) bad]) := Lib.hid (by
        have := hS3
        rw [Hsize.out]; exact this)
      clear hS2 hrd2 hS3 HW3 d0 d1
      go_loopg [5] rest.length (fun gf s5 wr => ∃ (rs : List UInt8) (bd : Bool) (sv : Value) (ls : List Nat) (pv : Value) (pc : List (Nat × Obj)), rs.length = gf ∧ s5 = .int .i64 ((at0 + ls.sum : Nat) : Int) ∧ Rd w1 1 sv rs.length (bv rs) ∧ (bd = true → rs = [] ∧ ls = []) ∧ ls.length + rs.length ≤ h.length ∧
        RowC 3 1 pv ls.length (iv (placesP at0 ls)) pc ∧ St w1.heap.size w1 wr [rdrC w1.heap.size sv bd, [(w2.heap.size, .cells #[.int .i64 (size : Int), pv, .int .i64 0] 63 (0, 0))], pc] ∧
        (ls = [] ∨ at0 + ls.sum ≤ b.length) ∧ Hid (bd = false → bad = false ∧ ∀ Y, NumsR rs Y → NumsR rest (ls ++ Y)) ∧ Hid (∀ Y, NumsR rest Y → bad = false → bd = false ∧ ∃ Z, Y = ls ++ Z ∧ NumsR rs Z))
      case atStart =>
        refine ⟨rest, bad, _, [], .slice none 0 0, [], rfl, HAV.out, HR2.out, fun e => ⟨HB0.out e, rfl⟩, ?_, RowC.nil _ _, ?_, .inl rfl, ?_, ?_⟩
        · simpa using hrl
        · exact (HS3.out.one_nil).pick [2, 1, 0] (by decide) _ rfl
        · exact Lib.hid fun e => ⟨e, fun Y h => h⟩
        · exact Lib.hid fun Y h e => ⟨e, Y, rfl, h⟩
      case round =>
        obtain ⟨rs, bd, sv, ls, pv, pc, hgf, rfl, hrd, hbd, hll, hpr, hS, hle, HC1, HC2⟩ := hrel
        obtain ⟨A, HA⟩ : ∃ A, Hid (A = at0 + ls.sum) := ⟨_, Lib.hid rfl⟩
        rw [← HA.out] at hle ⊢
        obtain ⟨aos, caps, rfl⟩ := hrd.shape
        obtain ⟨aop, capp, rfl⟩ := hpr.shape
        obtain ⟨d0, d1, g0, g1⟩ := rdr_cells hS
        have k80 : wr.cell? ⟨w2.heap.size, 0, none⟩ = some (.int .i64 (size : Int)) := hS.cell 1 rfl (List.mem_singleton.2 rfl) 0
        have k81 : wr.cell? ⟨w2.heap.size, 1, none⟩ = some (.slice aop ls.length capp) := hS.cell 1 rfl (List.mem_singleton.2 rfl) 1
        have k82 : wr.cell? ⟨w2.heap.size, 2, none⟩ = some (.int .i64 0) := hS.cell 1 rfl (List.mem_singleton.2 rfl) 2
        have f82 : wr.frozen? ⟨w2.heap.size, 2, none⟩ = false := hS.free 1 rfl (List.mem_singleton.2 rfl) 2
        have HS := Lib.hid (And.intro hrd (And.intro hpr hS))
        have HBD := Lib.hid (And.intro hbd hle)
        clear hrd hpr hS g0 g1 hbd hle
        cases gk with
        | zero =>
          have hr0 : rs = [] := List.eq_nil_of_length_eq_zero hgf
          subst hr0
          clear hgf
          have HN : Hid (∀ s l a, PlanR b s l a → bd = false ∧ s = size ∧ l = ls ∧ a = at0) := Lib.hid (by
            intro s l a hp
            obtain ⟨e1, e2, e3, e4⟩ := HB2.out s l a hp
            obtain ⟨e5, Z, e6, e7⟩ := HC2.out l e4 e1
            have e8 : Z = [] := by
              cases Z with
              | nil => rfl
              | cons z Z => exact absurd rfl e7.1
            rw [e8, List.append_nil] at e6
            exact ⟨e5, e2, e6, e3⟩)
          have HP : Hid (bd = false → A = b.length → ls.length = (size + 999) / 1000 → PlanR b size ls at0) := Lib.hid (by
            intro e1 e2 e3
            obtain ⟨e4, e5⟩ := HC1.out e1
            obtain ⟨eF, k, e6, e7⟩ := HB1.out e4
            have e8 := e5 [] rfl
            rw [List.append_nil] at e8
            exact ⟨h, k, eF, HAT.out.2 e4, e6, by rw [e7]; exact e8, by rw [← HA.out, e2], e3⟩)
          go_wp2_with fail
          have hS9 := HS.out.2.2.store 1 rfl 2 (.int .i64 (A : Int))
          obtain ⟨w9, HW9⟩ : ∃ w9, Hid (w9 = wr.setCell ⟨w2.heap.size, 2, none⟩ (.int .i64 (A : Int))) := ⟨_, Lib.hid rfl⟩
          rw [← HW9.out] at hS9 ⊢
          replace hS9 : St w1.heap.size w1 w9 [rdrC w1.heap.size (.slice aos 0 caps) bd, [(w2.heap.size, .cells #[.int .i64 (size : Int), .slice aop ls.length capp, .int .i64 (A : Int)] 63 (0, 0))], pc] := hS9
          have HSJ := Lib.hid (HJ.out.join hS9)
          have s0 : w9.cell? ⟨w2.heap.size, 0, none⟩ = some (.int .i64 (size : Int)) := hS9.cell 1 rfl (List.mem_singleton.2 rfl) 0
          have s1 : w9.cell? ⟨w2.heap.size, 1, none⟩ = some (.slice aop ls.length capp) := hS9.cell 1 rfl (List.mem_singleton.2 rfl) 1
          have s2 : w9.cell? ⟨w2.heap.size, 2, none⟩ = some (.int .i64 (A : Int)) := hS9.cell 1 rfl (List.mem_singleton.2 rfl) 2
          have s3 : w9.cell? ⟨w1.heap.size, 1, none⟩ = some (.bool bd) := hS9.cell 0 rfl (List.mem_singleton.2 rfl) 1
          have HCELL : Hid (∀ w' : World, ReadS w1.heap.size w2.heap.size size A (.slice aop ls.length capp) bd w' → w'.cell? ⟨w2.heap.size, 0, none⟩ = some (.int .i64 (size : Int)) ∧ w'.cell? ⟨w2.heap.size, 1, none⟩ = some (.slice aop ls.length capp) ∧ w'.cell? ⟨w2.heap.size, 2, none⟩ = some (.int .i64 (A : Int)) ∧ w'.cell? ⟨w1.heap.size, 1, none⟩ = some (.bool bd)) := Lib.hid (fun _ h => h)
          have HS0123 : Hid (ReadS w1.heap.size w2.heap.size size A (.slice aop ls.length capp) bd w9.drew) := Lib.hid ⟨s0, s1, s2, s3⟩
          clear s0 s1 s2 s3 hS9 k80 k81 k82 f82 d0 d1
          refine wp_region_held_drew (S := ReadS w1.heap.size w2.heap.size size A (.slice aop ls.length capp) bd) mixed HS0123.out (fun hSS => ?_)
          cases bd with
          | true =>
            refine take_d (i := 0) 50 (.agg #[.int .i64 (size : Int), .slice aop ls.length capp, .int .i64 (A : Int)]) rfl rfl (by kernel_rfl) (by kernel_rfl) (by kernel_rfl) (fun _ _ _ h => h) (Or.inl ⟨by rfl, ?_⟩) hSS ?_
            (focus (intro w' hw'; have hb1 := HCELL.out w' hw'; obtain ⟨hb1, hb2, hb3, hb4⟩ := hb1; first | (go_simp; done) | (go_simp; simp [qx0, qx1, qx2]; done)))
            simp only [Act.put, List.setIfInBounds_toArray, List.set_cons_zero, List.set_cons_succ]
            refine take_d (i := 1) 51 (.pointer (some ⟨w1.heap.size, 0, none⟩)) rfl rfl (by kernel_rfl) (by kernel_rfl) (by kernel_rfl) (fun _ _ _ h => h) (Or.inl ⟨by rfl, ?_⟩) hSS ?_
            (focus (intro w' hw'; have hb1 := HCELL.out w' hw'; obtain ⟨hb1, hb2, hb3, hb4⟩ := hb1; first | (go_simp; done) | (go_simp; simp [qx0, qx1, qx2]; done)))
            simp only [Act.put, List.setIfInBounds_toArray, List.set_cons_zero, List.set_cons_succ]
            refine take_d (i := 2) 52 (.pointer (some ⟨w1.heap.size, 0, none⟩)) rfl rfl (by kernel_rfl) (by kernel_rfl) (by kernel_rfl) (fun _ _ _ h => h) (Or.inl ⟨by rfl, ?_⟩) hSS ?_
            (focus (intro w' hw'; have hb1 := HCELL.out w' hw'; obtain ⟨hb1, hb2, hb3, hb4⟩ := hb1; first | (go_simp; done) | (go_simp; simp [qx0, qx1, qx2]; done)))
            simp only [Act.put, List.setIfInBounds_toArray, List.set_cons_zero, List.set_cons_succ]
            refine take_d (i := 3) 53 (.pointer (some ⟨w1.heap.size, 1, none⟩)) rfl rfl (by kernel_rfl) (by kernel_rfl) (by kernel_rfl) (fun _ _ _ h => h) (Or.inl ⟨by rfl, ?_⟩) hSS ?_
            (focus (intro w' hw'; have hb1 := HCELL.out w' hw'; obtain ⟨hb1, hb2, hb3, hb4⟩ := hb1; first | (go_simp; done) | (go_simp; simp [qx0, qx1, qx2]; done)))
            simp only [Act.put, List.setIfInBounds_toArray, List.set_cons_zero, List.set_cons_succ]
            refine take_d (i := 4) 54 (.bool true) rfl rfl (by kernel_rfl) (by kernel_rfl) (by kernel_rfl) (fun _ _ _ h => h) (Or.inl ⟨by rfl, ?_⟩) hSS ?_
            (focus (intro w' hw'; have hb1 := HCELL.out w' hw'; obtain ⟨hb1, hb2, hb3, hb4⟩ := hb1; first | (go_simp; done) | (go_simp; simp [qx0, qx1, qx2]; done)))
            simp only [Act.put, List.setIfInBounds_toArray, List.set_cons_zero, List.set_cons_succ]
            refine take_d (i := 5) 55 (.bool false) rfl rfl (by kernel_rfl) (by kernel_rfl) (by kernel_rfl) (fun _ _ _ h => h) (Or.inl ⟨by rfl, ?_⟩) hSS ?_
            (focus (intro w' hw'; have hb1 := HCELL.out w' hw'; obtain ⟨hb1, hb2, hb3, hb4⟩ := hb1; first | (go_simp; done) | (go_simp; simp [qx0, qx1, qx2]; done)))
            simp only [Act.put, List.setIfInBounds_toArray, List.set_cons_zero, List.set_cons_succ]
            refine take_d (i := 6) 56 (.bool false) rfl rfl (by kernel_rfl) (by kernel_rfl) (by kernel_rfl) (fun _ _ _ h => h) (Or.inl ⟨by rfl, ?_⟩) hSS ?_
            (focus (intro w' hw'; have hb1 := HCELL.out w' hw'; obtain ⟨hb1, hb2, hb3, hb4⟩ := hb1; first | (go_simp; done) | (go_simp; simp [qx0, qx1, qx2]; done)))
            simp only [Act.put, List.setIfInBounds_toArray, List.set_cons_zero, List.set_cons_succ]
            refine take_d (i := 7) 57 (undef) rfl rfl (by kernel_rfl) (by kernel_rfl) (by kernel_rfl) (fun _ _ _ h => h) (Or.inr ⟨by rfl, rfl⟩) hSS ?_
            simp only [Act.put, List.setIfInBounds_toArray, List.set_cons_zero, List.set_cons_succ]
            refine take_d (i := 8) 58 (undef) rfl rfl (by kernel_rfl) (by kernel_rfl) (by kernel_rfl) (fun _ _ _ h => h) (Or.inr ⟨by rfl, rfl⟩) hSS ?_
            simp only [Act.put, List.setIfInBounds_toArray, List.set_cons_zero, List.set_cons_succ]
            refine take_d (i := 9) 59 (undef) rfl rfl (by kernel_rfl) (by kernel_rfl) (by kernel_rfl) (fun _ _ _ h => h) (Or.inr ⟨by rfl, rfl⟩) hSS ?_
            simp only [Act.put, List.setIfInBounds_toArray, List.set_cons_zero, List.set_cons_succ]
            refine take_d (i := 10) 60 (undef) rfl rfl (by kernel_rfl) (by kernel_rfl) (by kernel_rfl) (fun _ _ _ h => h) (Or.inr ⟨by rfl, rfl⟩) hSS ?_
            simp only [Act.put, List.setIfInBounds_toArray, List.set_cons_zero, List.set_cons_succ]
            refine take_d (i := 11) 61 (.bool false) rfl rfl (by kernel_rfl) (by kernel_rfl) (by kernel_rfl) (fun _ _ _ h => h) (Or.inl ⟨by rfl, ?_⟩) hSS ?_
            (focus (intro w' hw'; have hb1 := HCELL.out w' hw'; obtain ⟨hb1, hb2, hb3, hb4⟩ := hb1; first | (go_simp; done) | (go_simp; simp [qx0, qx1, qx2]; done)))
            simp only [Act.put, List.setIfInBounds_toArray, List.set_cons_zero, List.set_cons_succ]
            refine take_d (i := 12) 62 (.bool false) rfl rfl (by kernel_rfl) (by kernel_rfl) (by kernel_rfl) (fun _ _ _ h => h) (Or.inl ⟨by rfl, ?_⟩) hSS ?_
            (focus (intro w' hw'; have hb1 := HCELL.out w' hw'; obtain ⟨hb1, hb2, hb3, hb4⟩ := hb1; first | (go_simp; done) | (go_simp; simp [qx0, qx1, qx2]; done)))
            simp only [Act.put, List.setIfInBounds_toArray, List.set_cons_zero, List.set_cons_succ]
            refine take_d (i := 13) 63 (undef) rfl rfl (by kernel_rfl) (by kernel_rfl) (by kernel_rfl) (fun _ _ _ h => h) (Or.inr ⟨by rfl, rfl⟩) hSS ?_
            simp only [Act.put, List.setIfInBounds_toArray, List.set_cons_zero, List.set_cons_succ]
            refine take_d (i := 14) 64 (undef) rfl rfl (by kernel_rfl) (by kernel_rfl) (by kernel_rfl) (fun _ _ _ h => h) (Or.inr ⟨by rfl, rfl⟩) hSS ?_
            simp only [Act.put, List.setIfInBounds_toArray, List.set_cons_zero, List.set_cons_succ]
            refine take_d (i := 15) 65 (undef) rfl rfl (by kernel_rfl) (by kernel_rfl) (by kernel_rfl) (fun _ _ _ h => h) (Or.inr ⟨by rfl, rfl⟩) hSS ?_
            simp only [Act.put, List.setIfInBounds_toArray, List.set_cons_zero, List.set_cons_succ]
            refine take_d (i := 16) 66 (undef) rfl rfl (by kernel_rfl) (by kernel_rfl) (by kernel_rfl) (fun _ _ _ h => h) (Or.inr ⟨by rfl, rfl⟩) hSS ?_
            simp only [Act.put, List.setIfInBounds_toArray, List.set_cons_zero, List.set_cons_succ]
            refine take_d (i := 17) 67 (undef) rfl rfl (by kernel_rfl) (by kernel_rfl) (by kernel_rfl) (fun _ _ _ h => h) (Or.inr ⟨by rfl, rfl⟩) hSS ?_
            simp only [Act.put, List.setIfInBounds_toArray, List.set_cons_zero, List.set_cons_succ]
            refine take_d (i := 18) 68 (undef) rfl rfl (by kernel_rfl) (by kernel_rfl) (by kernel_rfl) (fun _ _ _ h => h) (Or.inr ⟨by rfl, rfl⟩) hSS ?_
            simp only [Act.put, List.setIfInBounds_toArray, List.set_cons_zero, List.set_cons_succ]
            refine take_d (i := 19) 69 (undef) rfl rfl (by kernel_rfl) (by kernel_rfl) (by kernel_rfl) (fun _ _ _ h => h) (Or.inr ⟨by rfl, rfl⟩) hSS ?_
            simp only [Act.put, List.setIfInBounds_toArray, List.set_cons_zero, List.set_cons_succ]
            refine take_d (i := 20) 70 (undef) rfl rfl (by kernel_rfl) (by kernel_rfl) (by kernel_rfl) (fun _ _ _ h => h) (Or.inr ⟨by rfl, rfl⟩) hSS ?_
            simp only [Act.put, List.setIfInBounds_toArray, List.set_cons_zero, List.set_cons_succ]
            refine take_d (i := 21) 71 (.bool false) rfl rfl (by kernel_rfl) (by kernel_rfl) (by kernel_rfl) (fun _ _ _ h => h) (Or.inl ⟨by rfl, ?_⟩) hSS ?_
            (focus (intro w' hw'; have hb1 := HCELL.out w' hw'; obtain ⟨hb1, hb2, hb3, hb4⟩ := hb1; first | (go_simp; done) | (go_simp; simp [qx0, qx1, qx2]; done)))
            simp only [Act.put, List.setIfInBounds_toArray, List.set_cons_zero, List.set_cons_succ]
            obtain ⟨W, HWE⟩ : ∃ W, W = w9.drew := ⟨_, rfl⟩
            have HWS := HSJ.out.drew
            rw [← HWE] at HWS hSS ⊢
            clear HWE
            have q0 : W.cell? ⟨w.heap.size, 0, none⟩ = some (.int .i64 0) := HWS.cell 3 rfl (List.mem_singleton.2 rfl) 0
            have q1 : W.cell? ⟨w.heap.size, 1, none⟩ = some (.slice none 0 0) := HWS.cell 3 rfl (List.mem_singleton.2 rfl) 1
            have q2 : W.cell? ⟨w.heap.size, 2, none⟩ = some (.int .i64 0) := HWS.cell 3 rfl (List.mem_singleton.2 rfl) 2
            have z0 : W.frozen? ⟨w.heap.size, 0, none⟩ = false := HWS.free 3 rfl (List.mem_singleton.2 rfl) 0
            have z1 : W.frozen? ⟨w.heap.size, 1, none⟩ = false := HWS.free 3 rfl (List.mem_singleton.2 rfl) 1
            have z2 : W.frozen? ⟨w.heap.size, 2, none⟩ = false := HWS.free 3 rfl (List.mem_singleton.2 rfl) 2
            refine wpAnyH_ready (rs := [22]) (by kernel_rfl) (by simp) (AllReadyH.cons rfl (fun K2 hK2 => ?_) AllReadyH.nil)
            rw [if_pos (by rfl)]
            go_simp
            have hT := ((HWS.store 3 rfl 0 (.int .i64 (size : Int))).store 3 rfl 1 (.slice aop ls.length capp)).store 3 rfl 2 (.int .i64 (A : Int))
            have HT := Lib.hid hT
            refine hK2.out _ _ ⟨hT.cell 1 rfl (List.mem_singleton.2 rfl) 0, hT.cell 1 rfl (List.mem_singleton.2 rfl) 1, hT.cell 1 rfl (List.mem_singleton.2 rfl) 2, hT.cell 0 rfl (List.mem_singleton.2 rfl) 1⟩ (fun hSS => ?_)
            clear q0 q1 q2 z0 z1 z2 hT
            refine wpAnyH_ready (rs := [23]) (by kernel_rfl) (by simp) (AllReadyH.cons rfl (fun K3 hK3 => ?_) AllReadyH.nil)
            rw [if_pos (by rfl)]
            go_simp
            refine hK3.out _ _ hSS (fun _ => ?_)
            refine wpAnyH_done (by kernel_rfl) ?_ _
            go_wp2_with fail
            ((try simp only [Exit.inBlock, Exit.then]); refine bodyPost_ret (results_cell_two rfl _ _ _ _ _ 3 rfl HT.out rfl Try.underlying63 rfl h63) rfl ?_)
            exact .inr ⟨_, _, _, _, _, rfl, HT.out.pick [] (by decide) [] rfl, fun ⟨s, l, a, hp⟩ => by have h1 := (HN.out s l a hp).1; cases h1⟩
          | false =>
            have hsz2 : (size : Int) ≤ 1099511627776 := by have := HSZ.out; omega
            have qd : (((size : Int) + 1000 - 1).tdiv 1000) = (((size + 999) / 1000 : Nat) : Int) := by
              rw [show (size : Int) + 1000 - 1 = ((size + 999 : Nat) : Int) from by omega]
              exact (Int.ofNat_tdiv (size + 999) 1000).symm
            have qd2 : (((size : Int) + 999).tdiv 1000) = (((size + 999) / 1000 : Nat) : Int) := by
              rw [show (size : Int) + 999 = ((size + 999 : Nat) : Int) from by omega]
              exact (Int.ofNat_tdiv (size + 999) 1000).symm
            have qw3 : IntKind.i64.wrap (((size : Int) + 999) / 1000) = ((size : Int) + 999) / 1000 := IntWalk.i64_in _ (by omega)
            have qx1 := qd
            have qx0 := qd2
            have qw1 : IntKind.i64.wrap ((size : Int) + 1000) = (size : Int) + 1000 := IntWalk.i64_in _ (by omega)
            have qw2 : IntKind.i64.wrap ((size : Int) + 1000 - 1) = (size : Int) + 1000 - 1 := IntWalk.i64_in _ (by omega)
            by_cases qa : A = b.length
            · have HQ := Lib.hid qa
              have qx2 : ((A : Int) == (b.length : Int)) = true := by rw [beq_iff_eq]; omega
              clear qa
              refine take_d (i := 0) 50 (.agg #[.int .i64 (size : Int), .slice aop ls.length capp, .int .i64 (A : Int)]) rfl rfl (by kernel_rfl) (by kernel_rfl) (by kernel_rfl) (fun _ _ _ h => h) (Or.inl ⟨by rfl, ?_⟩) hSS ?_
              (focus (intro w' hw'; have hb1 := HCELL.out w' hw'; obtain ⟨hb1, hb2, hb3, hb4⟩ := hb1; first | (go_simp; done) | (go_simp; simp [qx0, qx1, qx2]; done)))
              simp only [Act.put, List.setIfInBounds_toArray, List.set_cons_zero, List.set_cons_succ]
              refine take_d (i := 1) 51 (.pointer (some ⟨w1.heap.size, 0, none⟩)) rfl rfl (by kernel_rfl) (by kernel_rfl) (by kernel_rfl) (fun _ _ _ h => h) (Or.inl ⟨by rfl, ?_⟩) hSS ?_
              (focus (intro w' hw'; have hb1 := HCELL.out w' hw'; obtain ⟨hb1, hb2, hb3, hb4⟩ := hb1; first | (go_simp; done) | (go_simp; simp [qx0, qx1, qx2]; done)))
              simp only [Act.put, List.setIfInBounds_toArray, List.set_cons_zero, List.set_cons_succ]
              refine take_d (i := 2) 52 (.pointer (some ⟨w1.heap.size, 0, none⟩)) rfl rfl (by kernel_rfl) (by kernel_rfl) (by kernel_rfl) (fun _ _ _ h => h) (Or.inl ⟨by rfl, ?_⟩) hSS ?_
              (focus (intro w' hw'; have hb1 := HCELL.out w' hw'; obtain ⟨hb1, hb2, hb3, hb4⟩ := hb1; first | (go_simp; done) | (go_simp; simp [qx0, qx1, qx2]; done)))
              simp only [Act.put, List.setIfInBounds_toArray, List.set_cons_zero, List.set_cons_succ]
              refine take_d (i := 3) 53 (.pointer (some ⟨w1.heap.size, 1, none⟩)) rfl rfl (by kernel_rfl) (by kernel_rfl) (by kernel_rfl) (fun _ _ _ h => h) (Or.inl ⟨by rfl, ?_⟩) hSS ?_
              (focus (intro w' hw'; have hb1 := HCELL.out w' hw'; obtain ⟨hb1, hb2, hb3, hb4⟩ := hb1; first | (go_simp; done) | (go_simp; simp [qx0, qx1, qx2]; done)))
              simp only [Act.put, List.setIfInBounds_toArray, List.set_cons_zero, List.set_cons_succ]
              refine take_d (i := 4) 54 (.bool false) rfl rfl (by kernel_rfl) (by kernel_rfl) (by kernel_rfl) (fun _ _ _ h => h) (Or.inl ⟨by rfl, ?_⟩) hSS ?_
              (focus (intro w' hw'; have hb1 := HCELL.out w' hw'; obtain ⟨hb1, hb2, hb3, hb4⟩ := hb1; first | (go_simp; done) | (go_simp; simp [qx0, qx1, qx2]; done)))
              simp only [Act.put, List.setIfInBounds_toArray, List.set_cons_zero, List.set_cons_succ]
              refine take_d (i := 5) 55 (.bool true) rfl rfl (by kernel_rfl) (by kernel_rfl) (by kernel_rfl) (fun _ _ _ h => h) (Or.inl ⟨by rfl, ?_⟩) hSS ?_
              (focus (intro w' hw'; have hb1 := HCELL.out w' hw'; obtain ⟨hb1, hb2, hb3, hb4⟩ := hb1; first | (go_simp; done) | (go_simp; simp [qx0, qx1, qx2]; done)))
              simp only [Act.put, List.setIfInBounds_toArray, List.set_cons_zero, List.set_cons_succ]
              refine take_d (i := 6) 56 (.bool true) rfl rfl (by kernel_rfl) (by kernel_rfl) (by kernel_rfl) (fun _ _ _ h => h) (Or.inl ⟨by rfl, ?_⟩) hSS ?_
              (focus (intro w' hw'; have hb1 := HCELL.out w' hw'; obtain ⟨hb1, hb2, hb3, hb4⟩ := hb1; first | (go_simp; done) | (go_simp; simp [qx0, qx1, qx2]; done)))
              simp only [Act.put, List.setIfInBounds_toArray, List.set_cons_zero, List.set_cons_succ]
              refine take_d (i := 7) 57 (.int .i64 (A : Int)) rfl rfl (by kernel_rfl) (by kernel_rfl) (by kernel_rfl) (fun _ _ _ h => h) (Or.inl ⟨by rfl, ?_⟩) hSS ?_
              (focus (intro w' hw'; have hb1 := HCELL.out w' hw'; obtain ⟨hb1, hb2, hb3, hb4⟩ := hb1; first | (go_simp; done) | (go_simp; simp [qx0, qx1, qx2]; done)))
              simp only [Act.put, List.setIfInBounds_toArray, List.set_cons_zero, List.set_cons_succ]
              refine take_d (i := 8) 58 (.slice ao b.length cap) rfl rfl (by kernel_rfl) (by kernel_rfl) (by kernel_rfl) (fun _ _ _ h => h) (Or.inl ⟨by rfl, ?_⟩) hSS ?_
              (focus (intro w' hw'; have hb1 := HCELL.out w' hw'; obtain ⟨hb1, hb2, hb3, hb4⟩ := hb1; first | (go_simp; done) | (go_simp; simp [qx0, qx1, qx2]; done)))
              simp only [Act.put, List.setIfInBounds_toArray, List.set_cons_zero, List.set_cons_succ]
              refine take_d (i := 9) 59 (.int .i64 (b.length : Int)) rfl rfl (by kernel_rfl) (by kernel_rfl) (by kernel_rfl) (fun _ _ _ h => h) (Or.inl ⟨by rfl, ?_⟩) hSS ?_
              (focus (intro w' hw'; have hb1 := HCELL.out w' hw'; obtain ⟨hb1, hb2, hb3, hb4⟩ := hb1; first | (go_simp; done) | (go_simp; simp [qx0, qx1, qx2]; done)))
              simp only [Act.put, List.setIfInBounds_toArray, List.set_cons_zero, List.set_cons_succ]
              refine take_d (i := 10) 60 (.bool true) rfl rfl (by kernel_rfl) (by kernel_rfl) (by kernel_rfl) (fun _ _ _ h => h) (Or.inl ⟨by rfl, ?_⟩) hSS ?_
              (focus (intro w' hw'; have hb1 := HCELL.out w' hw'; obtain ⟨hb1, hb2, hb3, hb4⟩ := hb1; first | (go_simp; done) | (go_simp; simp [qx0, qx1, qx2]; done)))
              simp only [Act.put, List.setIfInBounds_toArray, List.set_cons_zero, List.set_cons_succ]
              refine take_d (i := 11) 61 (.bool true) rfl rfl (by kernel_rfl) (by kernel_rfl) (by kernel_rfl) (fun _ _ _ h => h) (Or.inl ⟨by rfl, ?_⟩) hSS ?_
              (focus (intro w' hw'; have hb1 := HCELL.out w' hw'; obtain ⟨hb1, hb2, hb3, hb4⟩ := hb1; first | (go_simp; done) | (go_simp; simp [qx0, qx1, qx2]; done)))
              simp only [Act.put, List.setIfInBounds_toArray, List.set_cons_zero, List.set_cons_succ]
              refine take_d (i := 12) 62 (.bool true) rfl rfl (by kernel_rfl) (by kernel_rfl) (by kernel_rfl) (fun _ _ _ h => h) (Or.inl ⟨by rfl, ?_⟩) hSS ?_
              (focus (intro w' hw'; have hb1 := HCELL.out w' hw'; obtain ⟨hb1, hb2, hb3, hb4⟩ := hb1; first | (go_simp; done) | (go_simp; simp [qx0, qx1, qx2]; done)))
              simp only [Act.put, List.setIfInBounds_toArray, List.set_cons_zero, List.set_cons_succ]
              refine take_d (i := 13) 63 (.agg #[.int .i64 (size : Int), .slice aop ls.length capp, .int .i64 (A : Int)]) rfl rfl (by kernel_rfl) (by kernel_rfl) (by kernel_rfl) (fun _ _ _ h => h) (Or.inl ⟨by rfl, ?_⟩) hSS ?_
              (focus (intro w' hw'; have hb1 := HCELL.out w' hw'; obtain ⟨hb1, hb2, hb3, hb4⟩ := hb1; first | (go_simp; done) | (go_simp; simp [qx0, qx1, qx2]; done)))
              simp only [Act.put, List.setIfInBounds_toArray, List.set_cons_zero, List.set_cons_succ]
              refine take_d (i := 15) 65 (.pointer (some ⟨w2.heap.size, 0, none⟩)) rfl rfl (by kernel_rfl) (by kernel_rfl) (by kernel_rfl) (fun _ _ _ h => h) (Or.inl ⟨by rfl, ?_⟩) hSS ?_
              (focus (intro w' hw'; have hb1 := HCELL.out w' hw'; obtain ⟨hb1, hb2, hb3, hb4⟩ := hb1; first | (go_simp; done) | (go_simp; simp [qx0, qx1, qx2]; done)))
              simp only [Act.put, List.setIfInBounds_toArray, List.set_cons_zero, List.set_cons_succ]
              refine take_d (i := 16) 66 (.int .i64 (size : Int)) rfl rfl (by kernel_rfl) (by kernel_rfl) (by kernel_rfl) (fun _ _ _ h => h) (Or.inl ⟨by rfl, ?_⟩) hSS ?_
              (focus (intro w' hw'; have hb1 := HCELL.out w' hw'; obtain ⟨hb1, hb2, hb3, hb4⟩ := hb1; first | (go_simp; done) | (go_simp; simp [qx0, qx1, qx2]; done)))
              simp only [Act.put, List.setIfInBounds_toArray, List.set_cons_zero, List.set_cons_succ]
              refine take_d (i := 17) 67 (.int .i64 ((size : Int) + 1000)) rfl rfl (by kernel_rfl) (by kernel_rfl) (by kernel_rfl) (fun _ _ _ h => h) (Or.inl ⟨by rfl, ?_⟩) hSS ?_
              (focus (intro w' hw'; have hb1 := HCELL.out w' hw'; obtain ⟨hb1, hb2, hb3, hb4⟩ := hb1; first | (go_simp; done) | (go_simp; simp [qx0, qx1, qx2]; done)))
              simp only [Act.put, List.setIfInBounds_toArray, List.set_cons_zero, List.set_cons_succ]
              refine take_d (i := 18) 68 (.int .i64 ((size : Int) + 1000 - 1)) rfl rfl (by kernel_rfl) (by kernel_rfl) (by kernel_rfl) (fun _ _ _ h => h) (Or.inl ⟨by rfl, ?_⟩) hSS ?_
              (focus (intro w' hw'; have hb1 := HCELL.out w' hw'; obtain ⟨hb1, hb2, hb3, hb4⟩ := hb1; first | (go_simp; done) | (go_simp; simp [qx0, qx1, qx2]; done)))
              simp only [Act.put, List.setIfInBounds_toArray, List.set_cons_zero, List.set_cons_succ]
              refine take_d (i := 19) 69 (.int .i64 (((size : Int) + 999) / 1000)) rfl rfl (by kernel_rfl) (by kernel_rfl) (by kernel_rfl) (fun _ _ _ h => h) (Or.inl ⟨by rfl, ?_⟩) hSS ?_
              (focus (intro w' hw'; have hb1 := HCELL.out w' hw'; obtain ⟨hb1, hb2, hb3, hb4⟩ := hb1; first | (go_simp; done) | (go_simp; simp [qx0, qx1, qx2]; done)))
              simp only [Act.put, List.setIfInBounds_toArray, List.set_cons_zero, List.set_cons_succ]
              refine wpAnyH_ready (rs := [14]) (by kernel_rfl) (by simp) (AllReadyH.cons rfl (fun K1 hK1 => ?_) AllReadyH.nil)
              rw [if_pos (by rfl)]
              go_simp
              refine (ctnum_any (size : Int) (A : Int) aop ls.length capp _).mono ?_
              rintro e wn ⟨rfl, o, rfl⟩
              have HSA := Lib.hid (HSJ.out.drew.alloc' o)
              refine hK1.out _ _ ⟨HSA.out.cell 1 rfl (List.mem_singleton.2 rfl) 0, HSA.out.cell 1 rfl (List.mem_singleton.2 rfl) 1, HSA.out.cell 1 rfl (List.mem_singleton.2 rfl) 2, HSA.out.cell 0 rfl (List.mem_singleton.2 rfl) 1⟩ (fun hSS => ?_)
              try simp only [Act.put, List.setIfInBounds_toArray, List.set_cons_zero, List.set_cons_succ]
              by_cases qc : ls.length = (size + 999) / 1000
              · have qx0 : ((ls.length : Int) == ((size : Int) + 999) / 1000) = true := by rw [beq_iff_eq]; omega
                have HQC := Lib.hid qc
                clear qc
                refine take_d (i := 20) 70 (.bool true) rfl rfl (by kernel_rfl) (by kernel_rfl) (by kernel_rfl) (fun _ _ _ h => h) (Or.inl ⟨by rfl, ?_⟩) hSS ?_
                (focus (intro w' hw'; have hb1 := HCELL.out w' hw'; obtain ⟨hb1, hb2, hb3, hb4⟩ := hb1; first | (go_simp; done) | (go_simp; simp [qx0, qx1, qx2]; done)))
                simp only [Act.put, List.setIfInBounds_toArray, List.set_cons_zero, List.set_cons_succ]
                refine take_d (i := 21) 71 (.bool true) rfl rfl (by kernel_rfl) (by kernel_rfl) (by kernel_rfl) (fun _ _ _ h => h) (Or.inl ⟨by rfl, ?_⟩) hSS ?_
                (focus (intro w' hw'; have hb1 := HCELL.out w' hw'; obtain ⟨hb1, hb2, hb3, hb4⟩ := hb1; first | (go_simp; done) | (go_simp; simp [qx0, qx1, qx2]; done)))
                simp only [Act.put, List.setIfInBounds_toArray, List.set_cons_zero, List.set_cons_succ]
                obtain ⟨W, HWE⟩ : ∃ W, W = w9.drew.alloc o := ⟨_, rfl⟩
                have HWS := HSA.out
                rw [← HWE] at HWS hSS ⊢
                clear HWE
                have q0 : W.cell? ⟨w.heap.size, 0, none⟩ = some (.int .i64 0) := HWS.cell 3 rfl (List.mem_singleton.2 rfl) 0
                have q1 : W.cell? ⟨w.heap.size, 1, none⟩ = some (.slice none 0 0) := HWS.cell 3 rfl (List.mem_singleton.2 rfl) 1
                have q2 : W.cell? ⟨w.heap.size, 2, none⟩ = some (.int .i64 0) := HWS.cell 3 rfl (List.mem_singleton.2 rfl) 2
                have z0 : W.frozen? ⟨w.heap.size, 0, none⟩ = false := HWS.free 3 rfl (List.mem_singleton.2 rfl) 0
                have z1 : W.frozen? ⟨w.heap.size, 1, none⟩ = false := HWS.free 3 rfl (List.mem_singleton.2 rfl) 1
                have z2 : W.frozen? ⟨w.heap.size, 2, none⟩ = false := HWS.free 3 rfl (List.mem_singleton.2 rfl) 2
                refine wpAnyH_ready (rs := [22]) (by kernel_rfl) (by simp) (AllReadyH.cons rfl (fun K2 hK2 => ?_) AllReadyH.nil)
                rw [if_pos (by rfl)]
                go_simp
                have hT := ((HWS.store 3 rfl 0 (.int .i64 (size : Int))).store 3 rfl 1 (.slice aop ls.length capp)).store 3 rfl 2 (.int .i64 (A : Int))
                have HT := Lib.hid hT
                refine hK2.out _ _ ⟨hT.cell 1 rfl (List.mem_singleton.2 rfl) 0, hT.cell 1 rfl (List.mem_singleton.2 rfl) 1, hT.cell 1 rfl (List.mem_singleton.2 rfl) 2, hT.cell 0 rfl (List.mem_singleton.2 rfl) 1⟩ (fun hSS => ?_)
                clear q0 q1 q2 z0 z1 z2 hT
                refine wpAnyH_ready (rs := [23]) (by kernel_rfl) (by simp) (AllReadyH.cons rfl (fun K3 hK3 => ?_) AllReadyH.nil)
                rw [if_pos (by rfl)]
                go_simp
                refine hK3.out _ _ hSS (fun _ => ?_)
                refine wpAnyH_done (by kernel_rfl) ?_ _
                go_wp2_with fail
                ((try simp only [Exit.inBlock, Exit.then]); refine bodyPost_ret (results_cell_two rfl _ _ _ _ _ 3 rfl HT.out rfl Try.underlying63 rfl h63) rfl ?_)
                exact .inl ⟨size, ls, at0, _, pc, HP.out (by first | trivial | rfl) HQ.out HQC.out, by rw [HQ.out]; rfl, HS.out.2.1, (HT.out.pick [2] (by decide) _ rfl)⟩
              · have qx0 : ((ls.length : Int) == ((size : Int) + 999) / 1000) = false := by rw [beq_eq_false_iff_ne]; omega
                have HQC := Lib.hid qc
                clear qc
                refine take_d (i := 20) 70 (.bool false) rfl rfl (by kernel_rfl) (by kernel_rfl) (by kernel_rfl) (fun _ _ _ h => h) (Or.inl ⟨by rfl, ?_⟩) hSS ?_
                (focus (intro w' hw'; have hb1 := HCELL.out w' hw'; obtain ⟨hb1, hb2, hb3, hb4⟩ := hb1; first | (go_simp; done) | (go_simp; simp [qx0, qx1, qx2]; done)))
                simp only [Act.put, List.setIfInBounds_toArray, List.set_cons_zero, List.set_cons_succ]
                refine take_d (i := 21) 71 (.bool false) rfl rfl (by kernel_rfl) (by kernel_rfl) (by kernel_rfl) (fun _ _ _ h => h) (Or.inl ⟨by rfl, ?_⟩) hSS ?_
                (focus (intro w' hw'; have hb1 := HCELL.out w' hw'; obtain ⟨hb1, hb2, hb3, hb4⟩ := hb1; first | (go_simp; done) | (go_simp; simp [qx0, qx1, qx2]; done)))
                simp only [Act.put, List.setIfInBounds_toArray, List.set_cons_zero, List.set_cons_succ]
                obtain ⟨W, HWE⟩ : ∃ W, W = w9.drew.alloc o := ⟨_, rfl⟩
                have HWS := HSA.out
                rw [← HWE] at HWS hSS ⊢
                clear HWE
                have q0 : W.cell? ⟨w.heap.size, 0, none⟩ = some (.int .i64 0) := HWS.cell 3 rfl (List.mem_singleton.2 rfl) 0
                have q1 : W.cell? ⟨w.heap.size, 1, none⟩ = some (.slice none 0 0) := HWS.cell 3 rfl (List.mem_singleton.2 rfl) 1
                have q2 : W.cell? ⟨w.heap.size, 2, none⟩ = some (.int .i64 0) := HWS.cell 3 rfl (List.mem_singleton.2 rfl) 2
                have z0 : W.frozen? ⟨w.heap.size, 0, none⟩ = false := HWS.free 3 rfl (List.mem_singleton.2 rfl) 0
                have z1 : W.frozen? ⟨w.heap.size, 1, none⟩ = false := HWS.free 3 rfl (List.mem_singleton.2 rfl) 1
                have z2 : W.frozen? ⟨w.heap.size, 2, none⟩ = false := HWS.free 3 rfl (List.mem_singleton.2 rfl) 2
                refine wpAnyH_ready (rs := [22]) (by kernel_rfl) (by simp) (AllReadyH.cons rfl (fun K2 hK2 => ?_) AllReadyH.nil)
                rw [if_pos (by rfl)]
                go_simp
                have hT := ((HWS.store 3 rfl 0 (.int .i64 (size : Int))).store 3 rfl 1 (.slice aop ls.length capp)).store 3 rfl 2 (.int .i64 (A : Int))
                have HT := Lib.hid hT
                refine hK2.out _ _ ⟨hT.cell 1 rfl (List.mem_singleton.2 rfl) 0, hT.cell 1 rfl (List.mem_singleton.2 rfl) 1, hT.cell 1 rfl (List.mem_singleton.2 rfl) 2, hT.cell 0 rfl (List.mem_singleton.2 rfl) 1⟩ (fun hSS => ?_)
                clear q0 q1 q2 z0 z1 z2 hT
                refine wpAnyH_ready (rs := [23]) (by kernel_rfl) (by simp) (AllReadyH.cons rfl (fun K3 hK3 => ?_) AllReadyH.nil)
                rw [if_pos (by rfl)]
                go_simp
                refine hK3.out _ _ hSS (fun _ => ?_)
                refine wpAnyH_done (by kernel_rfl) ?_ _
                go_wp2_with fail
                ((try simp only [Exit.inBlock, Exit.then]); refine bodyPost_ret (results_cell_two rfl _ _ _ _ _ 3 rfl HT.out rfl Try.underlying63 rfl h63) rfl ?_)
                exact .inr ⟨_, _, _, _, _, rfl, HT.out.pick [] (by decide) [] rfl, fun ⟨s, l, a, hp⟩ => by have h1 := HN.out s l a hp; obtain ⟨x, k, _, g2, _, _, g5, g6⟩ := hp; rw [h1.2.2.1, h1.2.1] at g6; exact HQC.out g6⟩
            · have HQ := Lib.hid qa
              have qx2 : ((A : Int) == (b.length : Int)) = false := by rw [beq_eq_false_iff_ne]; omega
              clear qa
              refine take_d (i := 0) 50 (.agg #[.int .i64 (size : Int), .slice aop ls.length capp, .int .i64 (A : Int)]) rfl rfl (by kernel_rfl) (by kernel_rfl) (by kernel_rfl) (fun _ _ _ h => h) (Or.inl ⟨by rfl, ?_⟩) hSS ?_
              (focus (intro w' hw'; have hb1 := HCELL.out w' hw'; obtain ⟨hb1, hb2, hb3, hb4⟩ := hb1; first | (go_simp; done) | (go_simp; simp [qx0, qx1, qx2]; done)))
              simp only [Act.put, List.setIfInBounds_toArray, List.set_cons_zero, List.set_cons_succ]
              refine take_d (i := 1) 51 (.pointer (some ⟨w1.heap.size, 0, none⟩)) rfl rfl (by kernel_rfl) (by kernel_rfl) (by kernel_rfl) (fun _ _ _ h => h) (Or.inl ⟨by rfl, ?_⟩) hSS ?_
              (focus (intro w' hw'; have hb1 := HCELL.out w' hw'; obtain ⟨hb1, hb2, hb3, hb4⟩ := hb1; first | (go_simp; done) | (go_simp; simp [qx0, qx1, qx2]; done)))
              simp only [Act.put, List.setIfInBounds_toArray, List.set_cons_zero, List.set_cons_succ]
              refine take_d (i := 2) 52 (.pointer (some ⟨w1.heap.size, 0, none⟩)) rfl rfl (by kernel_rfl) (by kernel_rfl) (by kernel_rfl) (fun _ _ _ h => h) (Or.inl ⟨by rfl, ?_⟩) hSS ?_
              (focus (intro w' hw'; have hb1 := HCELL.out w' hw'; obtain ⟨hb1, hb2, hb3, hb4⟩ := hb1; first | (go_simp; done) | (go_simp; simp [qx0, qx1, qx2]; done)))
              simp only [Act.put, List.setIfInBounds_toArray, List.set_cons_zero, List.set_cons_succ]
              refine take_d (i := 3) 53 (.pointer (some ⟨w1.heap.size, 1, none⟩)) rfl rfl (by kernel_rfl) (by kernel_rfl) (by kernel_rfl) (fun _ _ _ h => h) (Or.inl ⟨by rfl, ?_⟩) hSS ?_
              (focus (intro w' hw'; have hb1 := HCELL.out w' hw'; obtain ⟨hb1, hb2, hb3, hb4⟩ := hb1; first | (go_simp; done) | (go_simp; simp [qx0, qx1, qx2]; done)))
              simp only [Act.put, List.setIfInBounds_toArray, List.set_cons_zero, List.set_cons_succ]
              refine take_d (i := 4) 54 (.bool false) rfl rfl (by kernel_rfl) (by kernel_rfl) (by kernel_rfl) (fun _ _ _ h => h) (Or.inl ⟨by rfl, ?_⟩) hSS ?_
              (focus (intro w' hw'; have hb1 := HCELL.out w' hw'; obtain ⟨hb1, hb2, hb3, hb4⟩ := hb1; first | (go_simp; done) | (go_simp; simp [qx0, qx1, qx2]; done)))
              simp only [Act.put, List.setIfInBounds_toArray, List.set_cons_zero, List.set_cons_succ]
              refine take_d (i := 5) 55 (.bool true) rfl rfl (by kernel_rfl) (by kernel_rfl) (by kernel_rfl) (fun _ _ _ h => h) (Or.inl ⟨by rfl, ?_⟩) hSS ?_
              (focus (intro w' hw'; have hb1 := HCELL.out w' hw'; obtain ⟨hb1, hb2, hb3, hb4⟩ := hb1; first | (go_simp; done) | (go_simp; simp [qx0, qx1, qx2]; done)))
              simp only [Act.put, List.setIfInBounds_toArray, List.set_cons_zero, List.set_cons_succ]
              refine take_d (i := 6) 56 (.bool true) rfl rfl (by kernel_rfl) (by kernel_rfl) (by kernel_rfl) (fun _ _ _ h => h) (Or.inl ⟨by rfl, ?_⟩) hSS ?_
              (focus (intro w' hw'; have hb1 := HCELL.out w' hw'; obtain ⟨hb1, hb2, hb3, hb4⟩ := hb1; first | (go_simp; done) | (go_simp; simp [qx0, qx1, qx2]; done)))
              simp only [Act.put, List.setIfInBounds_toArray, List.set_cons_zero, List.set_cons_succ]
              refine take_d (i := 7) 57 (.int .i64 (A : Int)) rfl rfl (by kernel_rfl) (by kernel_rfl) (by kernel_rfl) (fun _ _ _ h => h) (Or.inl ⟨by rfl, ?_⟩) hSS ?_
              (focus (intro w' hw'; have hb1 := HCELL.out w' hw'; obtain ⟨hb1, hb2, hb3, hb4⟩ := hb1; first | (go_simp; done) | (go_simp; simp [qx0, qx1, qx2]; done)))
              simp only [Act.put, List.setIfInBounds_toArray, List.set_cons_zero, List.set_cons_succ]
              refine take_d (i := 8) 58 (.slice ao b.length cap) rfl rfl (by kernel_rfl) (by kernel_rfl) (by kernel_rfl) (fun _ _ _ h => h) (Or.inl ⟨by rfl, ?_⟩) hSS ?_
              (focus (intro w' hw'; have hb1 := HCELL.out w' hw'; obtain ⟨hb1, hb2, hb3, hb4⟩ := hb1; first | (go_simp; done) | (go_simp; simp [qx0, qx1, qx2]; done)))
              simp only [Act.put, List.setIfInBounds_toArray, List.set_cons_zero, List.set_cons_succ]
              refine take_d (i := 9) 59 (.int .i64 (b.length : Int)) rfl rfl (by kernel_rfl) (by kernel_rfl) (by kernel_rfl) (fun _ _ _ h => h) (Or.inl ⟨by rfl, ?_⟩) hSS ?_
              (focus (intro w' hw'; have hb1 := HCELL.out w' hw'; obtain ⟨hb1, hb2, hb3, hb4⟩ := hb1; first | (go_simp; done) | (go_simp; simp [qx0, qx1, qx2]; done)))
              simp only [Act.put, List.setIfInBounds_toArray, List.set_cons_zero, List.set_cons_succ]
              refine take_d (i := 10) 60 (.bool false) rfl rfl (by kernel_rfl) (by kernel_rfl) (by kernel_rfl) (fun _ _ _ h => h) (Or.inl ⟨by rfl, ?_⟩) hSS ?_
              (focus (intro w' hw'; have hb1 := HCELL.out w' hw'; obtain ⟨hb1, hb2, hb3, hb4⟩ := hb1; first | (go_simp; done) | (go_simp; simp [qx0, qx1, qx2]; done)))
              simp only [Act.put, List.setIfInBounds_toArray, List.set_cons_zero, List.set_cons_succ]
              refine take_d (i := 11) 61 (.bool false) rfl rfl (by kernel_rfl) (by kernel_rfl) (by kernel_rfl) (fun _ _ _ h => h) (Or.inl ⟨by rfl, ?_⟩) hSS ?_
              (focus (intro w' hw'; have hb1 := HCELL.out w' hw'; obtain ⟨hb1, hb2, hb3, hb4⟩ := hb1; first | (go_simp; done) | (go_simp; simp [qx0, qx1, qx2]; done)))
              simp only [Act.put, List.setIfInBounds_toArray, List.set_cons_zero, List.set_cons_succ]
              refine take_d (i := 12) 62 (.bool false) rfl rfl (by kernel_rfl) (by kernel_rfl) (by kernel_rfl) (fun _ _ _ h => h) (Or.inl ⟨by rfl, ?_⟩) hSS ?_
              (focus (intro w' hw'; have hb1 := HCELL.out w' hw'; obtain ⟨hb1, hb2, hb3, hb4⟩ := hb1; first | (go_simp; done) | (go_simp; simp [qx0, qx1, qx2]; done)))
              simp only [Act.put, List.setIfInBounds_toArray, List.set_cons_zero, List.set_cons_succ]
              refine take_d (i := 13) 63 (undef) rfl rfl (by kernel_rfl) (by kernel_rfl) (by kernel_rfl) (fun _ _ _ h => h) (Or.inr ⟨by rfl, rfl⟩) hSS ?_
              simp only [Act.put, List.setIfInBounds_toArray, List.set_cons_zero, List.set_cons_succ]
              refine take_d (i := 14) 64 (undef) rfl rfl (by kernel_rfl) (by kernel_rfl) (by kernel_rfl) (fun _ _ _ h => h) (Or.inr ⟨by rfl, rfl⟩) hSS ?_
              simp only [Act.put, List.setIfInBounds_toArray, List.set_cons_zero, List.set_cons_succ]
              refine take_d (i := 15) 65 (undef) rfl rfl (by kernel_rfl) (by kernel_rfl) (by kernel_rfl) (fun _ _ _ h => h) (Or.inr ⟨by rfl, rfl⟩) hSS ?_
              simp only [Act.put, List.setIfInBounds_toArray, List.set_cons_zero, List.set_cons_succ]
              refine take_d (i := 16) 66 (undef) rfl rfl (by kernel_rfl) (by kernel_rfl) (by kernel_rfl) (fun _ _ _ h => h) (Or.inr ⟨by rfl, rfl⟩) hSS ?_
              simp only [Act.put, List.setIfInBounds_toArray, List.set_cons_zero, List.set_cons_succ]
              refine take_d (i := 17) 67 (undef) rfl rfl (by kernel_rfl) (by kernel_rfl) (by kernel_rfl) (fun _ _ _ h => h) (Or.inr ⟨by rfl, rfl⟩) hSS ?_
              simp only [Act.put, List.setIfInBounds_toArray, List.set_cons_zero, List.set_cons_succ]
              refine take_d (i := 18) 68 (undef) rfl rfl (by kernel_rfl) (by kernel_rfl) (by kernel_rfl) (fun _ _ _ h => h) (Or.inr ⟨by rfl, rfl⟩) hSS ?_
              simp only [Act.put, List.setIfInBounds_toArray, List.set_cons_zero, List.set_cons_succ]
              refine take_d (i := 19) 69 (undef) rfl rfl (by kernel_rfl) (by kernel_rfl) (by kernel_rfl) (fun _ _ _ h => h) (Or.inr ⟨by rfl, rfl⟩) hSS ?_
              simp only [Act.put, List.setIfInBounds_toArray, List.set_cons_zero, List.set_cons_succ]
              refine take_d (i := 20) 70 (undef) rfl rfl (by kernel_rfl) (by kernel_rfl) (by kernel_rfl) (fun _ _ _ h => h) (Or.inr ⟨by rfl, rfl⟩) hSS ?_
              simp only [Act.put, List.setIfInBounds_toArray, List.set_cons_zero, List.set_cons_succ]
              refine take_d (i := 21) 71 (.bool false) rfl rfl (by kernel_rfl) (by kernel_rfl) (by kernel_rfl) (fun _ _ _ h => h) (Or.inl ⟨by rfl, ?_⟩) hSS ?_
              (focus (intro w' hw'; have hb1 := HCELL.out w' hw'; obtain ⟨hb1, hb2, hb3, hb4⟩ := hb1; first | (go_simp; done) | (go_simp; simp [qx0, qx1, qx2]; done)))
              simp only [Act.put, List.setIfInBounds_toArray, List.set_cons_zero, List.set_cons_succ]
              obtain ⟨W, HWE⟩ : ∃ W, W = w9.drew := ⟨_, rfl⟩
              have HWS := HSJ.out.drew
              rw [← HWE] at HWS hSS ⊢
              clear HWE
              have q0 : W.cell? ⟨w.heap.size, 0, none⟩ = some (.int .i64 0) := HWS.cell 3 rfl (List.mem_singleton.2 rfl) 0
              have q1 : W.cell? ⟨w.heap.size, 1, none⟩ = some (.slice none 0 0) := HWS.cell 3 rfl (List.mem_singleton.2 rfl) 1
              have q2 : W.cell? ⟨w.heap.size, 2, none⟩ = some (.int .i64 0) := HWS.cell 3 rfl (List.mem_singleton.2 rfl) 2
              have z0 : W.frozen? ⟨w.heap.size, 0, none⟩ = false := HWS.free 3 rfl (List.mem_singleton.2 rfl) 0
              have z1 : W.frozen? ⟨w.heap.size, 1, none⟩ = false := HWS.free 3 rfl (List.mem_singleton.2 rfl) 1
              have z2 : W.frozen? ⟨w.heap.size, 2, none⟩ = false := HWS.free 3 rfl (List.mem_singleton.2 rfl) 2
              refine wpAnyH_ready (rs := [22]) (by kernel_rfl) (by simp) (AllReadyH.cons rfl (fun K2 hK2 => ?_) AllReadyH.nil)
              rw [if_pos (by rfl)]
              go_simp
              have hT := ((HWS.store 3 rfl 0 (.int .i64 (size : Int))).store 3 rfl 1 (.slice aop ls.length capp)).store 3 rfl 2 (.int .i64 (A : Int))
              have HT := Lib.hid hT
              refine hK2.out _ _ ⟨hT.cell 1 rfl (List.mem_singleton.2 rfl) 0, hT.cell 1 rfl (List.mem_singleton.2 rfl) 1, hT.cell 1 rfl (List.mem_singleton.2 rfl) 2, hT.cell 0 rfl (List.mem_singleton.2 rfl) 1⟩ (fun hSS => ?_)
              clear q0 q1 q2 z0 z1 z2 hT
              refine wpAnyH_ready (rs := [23]) (by kernel_rfl) (by simp) (AllReadyH.cons rfl (fun K3 hK3 => ?_) AllReadyH.nil)
              rw [if_pos (by rfl)]
              go_simp
              refine hK3.out _ _ hSS (fun _ => ?_)
              refine wpAnyH_done (by kernel_rfl) ?_ _
              go_wp2_with fail
              ((try simp only [Exit.inBlock, Exit.then]); refine bodyPost_ret (results_cell_two rfl _ _ _ _ _ 3 rfl HT.out rfl Try.underlying63 rfl h63) rfl ?_)
              exact .inr ⟨_, _, _, _, _, rfl, HT.out.pick [] (by decide) [] rfl, fun ⟨s, l, a, hp⟩ => by have h1 := HN.out s l a hp; obtain ⟨x, k, _, g2, _, _, g5, _⟩ := hp; rw [h1.2.2.1, h1.2.2.2, ← HA.out] at g5; exact HQ.out g5⟩
        | succ m =>
          have hr0 : 0 < rs.length := by omega
          have hr0i : (0 : Int) < (rs.length : Int) := by omega
          have hAb : A ≤ b.length := by
            rcases HBD.out.2 with e | e
            · rw [HA.out, e]; have := HAT.out.1; simp; omega
            · exact e
          have hrln : rs.length ≤ 1000000 := by omega
          have hS2 := HS.out.2.2
          have hpr2 := HS.out.2.1
          have hlsl : ls.length ≤ 1000000 := by omega
          clear k80 k82 f82
          go_wp2_with ((at_builtin; (refine wpList_app1 2 36 i0 (.int .i64 0) _ _ _ rfl rfl rfl rfl Try.underlying36 i0a i0b i0c i0d rfl hS2 rfl hpr2 rfl ?_ ?_ ?_); (unfold maxLen; omega); omega; intro v4 c4 w4 hr4 hS4); (obtain ⟨ao4, cap4, rfl⟩ := hr4.shape); have m81 : w4.cell? ⟨w2.heap.size, 1, none⟩ = some (.slice aop ls.length capp) := hS4.cell 1 rfl (List.mem_singleton.2 rfl) 1; have n81 : w4.frozen? ⟨w2.heap.size, 1, none⟩ = false := hS4.free 1 rfl (List.mem_singleton.2 rfl) 1; have H4 := Lib.hid (And.intro hr4 hS4); clear hS2 hpr2 hr4 hS4 k81 d0 d1)
          have hS5 := H4.out.2.store 1 rfl 1 (.slice ao4 (ls.length + 1) cap4)
          refine (rnum_any w1.heap.size _ bd rs 1099511627776 (by decide) (fun e => (HBD.out.1 e).1) HS.out.1 hS5 hrln).mono ?_
          clear m81 n81 hS5
          rintro e w6 (⟨hnone, rfl, hS6⟩ | ⟨n, k', sv6, hsome, rfl, hrd6, hS6⟩)
          · obtain ⟨d0, d1, g0, g1⟩ := rdr_cells hS6
            have HWS := Lib.hid (HJ.out.join hS6)
            have q0 : w6.cell? ⟨w.heap.size, 0, none⟩ = some (.int .i64 0) := HWS.out.cell 3 rfl (List.mem_singleton.2 rfl) 0
            have q1 : w6.cell? ⟨w.heap.size, 1, none⟩ = some (.slice none 0 0) := HWS.out.cell 3 rfl (List.mem_singleton.2 rfl) 1
            have q2 : w6.cell? ⟨w.heap.size, 2, none⟩ = some (.int .i64 0) := HWS.out.cell 3 rfl (List.mem_singleton.2 rfl) 2
            have z0 : w6.frozen? ⟨w.heap.size, 0, none⟩ = false := HWS.out.free 3 rfl (List.mem_singleton.2 rfl) 0
            have z1 : w6.frozen? ⟨w.heap.size, 1, none⟩ = false := HWS.out.free 3 rfl (List.mem_singleton.2 rfl) 1
            have z2 : w6.frozen? ⟨w.heap.size, 2, none⟩ = false := HWS.out.free 3 rfl (List.mem_singleton.2 rfl) 2
            have HNO := Lib.hid hnone
            clear hnone hS6 g0 g1
            go_wp2_with fail
            have HT := ((HWS.out.store 3 rfl 0 (.int .i64 0)).store 3 rfl 1 (.slice none 0 0)).store 3 rfl 2 (.int .i64 0)
            ((try simp only [Exit.inBlock, Exit.then]); refine bodyPost_ret (results_cell_two rfl _ _ _ _ _ 3 rfl HT rfl Try.underlying63 rfl h63) rfl ?_)
            refine .inr ⟨_, _, _, _, _, rfl, HT.pick [] (by decide) [] rfl, fun ⟨s, l, a, hp⟩ => ?_⟩
            obtain ⟨e1, e2, e3, e4⟩ := HB2.out s l a hp
            obtain ⟨e5, Z, e6, e7⟩ := HC2.out l e4 e1
            cases Z with
            | nil => have e8 : rs = [] := e7; rw [e8] at hr0; simp at hr0
            | cons z Z =>
              obtain ⟨_, k9, e9, _⟩ := e7
              rw [HNO.out] at e9
              cases e9
          · obtain ⟨d0, d1, g0, g1⟩ := rdr_cells hS6
            have hnl := rdN_le hsome
            have hkp := rdN_pos hsome
            have hwA : IntKind.i64.wrap ((A : Int) + (n : Int)) = (A : Int) + (n : Int) := IntWalk.i64_in _ (by omega)
            have HSM := Lib.hid (And.intro hsome (And.intro hrd6 hS6))
            have HWS := Lib.hid (HJ.out.join hS6)
            by_cases qb : b.length < A + n
            · have qbi : (b.length : Int) < (A : Int) + (n : Int) := by omega
              have HQB := Lib.hid qb
              have q0 : w6.cell? ⟨w.heap.size, 0, none⟩ = some (.int .i64 0) := HWS.out.cell 3 rfl (List.mem_singleton.2 rfl) 0
              have q1 : w6.cell? ⟨w.heap.size, 1, none⟩ = some (.slice none 0 0) := HWS.out.cell 3 rfl (List.mem_singleton.2 rfl) 1
              have q2 : w6.cell? ⟨w.heap.size, 2, none⟩ = some (.int .i64 0) := HWS.out.cell 3 rfl (List.mem_singleton.2 rfl) 2
              have z0 : w6.frozen? ⟨w.heap.size, 0, none⟩ = false := HWS.out.free 3 rfl (List.mem_singleton.2 rfl) 0
              have z1 : w6.frozen? ⟨w.heap.size, 1, none⟩ = false := HWS.out.free 3 rfl (List.mem_singleton.2 rfl) 1
              have z2 : w6.frozen? ⟨w.heap.size, 2, none⟩ = false := HWS.out.free 3 rfl (List.mem_singleton.2 rfl) 2
              clear hsome hrd6 hS6 g0 g1 qb
              go_wp2_with fail
              have HT := ((HWS.out.store 3 rfl 0 (.int .i64 0)).store 3 rfl 1 (.slice none 0 0)).store 3 rfl 2 (.int .i64 0)
              ((try simp only [Exit.inBlock, Exit.then]); refine bodyPost_ret (results_cell_two rfl _ _ _ _ _ 3 rfl HT rfl Try.underlying63 rfl h63) rfl ?_)
              refine .inr ⟨_, _, _, _, _, rfl, HT.pick [] (by decide) [] rfl, fun ⟨s, l, a, hp⟩ => ?_⟩
              obtain ⟨e1, e2, e3, e4⟩ := HB2.out s l a hp
              obtain ⟨e5, Z, e6, e7⟩ := HC2.out l e4 e1
              cases Z with
              | nil => have e8 : rs = [] := e7; rw [e8] at hr0; simp at hr0
              | cons z Z =>
                obtain ⟨_, k9, e9, _⟩ := e7
                rw [HSM.out.1] at e9
                injection e9 with e9
                injection e9 with e9 _
                obtain ⟨x, k, _, g2, _, _, g5, _⟩ := hp
                have h1 := HQB.out
                have h2 := HA.out
                have h3 := HAT.out.1
                rw [e6, List.sum_append, List.sum_cons, ← e9] at g5
                omega
            · have qbi : ¬ (b.length : Int) < (A : Int) + (n : Int) := by omega
              have HQB := Lib.hid qb
              clear hsome hrd6 hS6 g0 g1 qb
              go_wp2_with fail
              go_roundg ((rs.drop k').length)
              case measure => rw [List.length_drop]; omega
              case rel =>
                have hsn : at0 + (ls ++ [n]).sum = A + n := by rw [List.sum_append, HA.out]; simp; omega
                refine ⟨rs.drop k', false, sv6, ls ++ [n], _, c4, rfl, ?_, HSM.out.2.1, (fun e => by cases e), ?_, ?_, HSM.out.2.2, .inr ?_, Lib.hid fun _ => ?_, Lib.hid fun Y hY hbf => ?_⟩
                · rw [hsn]; push_cast; rfl
                · rw [List.length_append, List.length_drop, List.length_singleton]; omega
                · have h4 := H4.out.1
                  rw [placesP_snoc, iv_append, List.length_append, List.length_singleton, ← HA.out]
                  exact h4
                · rw [hsn]; have := HQB.out; omega
                · have hbd : bd = false := by
                    cases bd with
                    | false => rfl
                    | true => have := (HBD.out.1 rfl).1; rw [this] at hr0; simp at hr0
                  obtain ⟨e1, e2⟩ := HC1.out hbd
                  refine ⟨e1, fun Y hY => ?_⟩
                  rw [List.append_assoc, List.singleton_append]
                  exact e2 _ ⟨fun e => by rw [e] at hr0; simp at hr0, k', HSM.out.1, hY⟩
                · obtain ⟨e5, Z, e6, e7⟩ := HC2.out Y hY hbf
                  refine ⟨rfl, ?_⟩
                  cases Z with
                  | nil => have e8 : rs = [] := e7; rw [e8] at hr0; simp at hr0
                  | cons z Z =>
                    obtain ⟨_, k9, e9, e10⟩ := e7
                    rw [HSM.out.1] at e9
                    injection e9 with e9
                    injection e9 with e9 e11
                    subst e9 e11
                    exact ⟨Z, by rw [e6, List.append_assoc, List.singleton_append], e10⟩
    case inr =>
      obtain ⟨rest, Hrest⟩ : ∃ rest : List UInt8, Hid (rest = h.drop k) := ⟨_, Lib.hid rfl⟩
      obtain ⟨bad, Hbad⟩ : ∃ bad : Bool, Hid (bad = false) := ⟨_, Lib.hid rfl⟩
      rw [← Hrest.out] at hrd2
      rw [← Hbad.out] at hS2
      obtain ⟨at0, HAE⟩ : ∃ at0, Hid (at0 = 12 + h.length) := ⟨_, Lib.hid rfl⟩
      have HAT : Hid (at0 ≤ b.length ∧ (bad = false → at0 = 12 + h.length)) := Lib.hid ⟨by have := HAE.out; omega, fun _ => HAE.out⟩
      have HAV : Hid (Value.int .i64 (12 + (h.length : Int)) = .int .i64 ((at0 + ([] : List Nat).sum : Nat) : Int)) := Lib.hid (by rw [HAE.out]; simp)
      have hhl : h.length ≤ 1000000 := by omega
      have HB0 : Hid (bad = true → rest = []) := Lib.hid (fun e => by rw [Hbad.out] at e; cases e)
      have HSZ : Hid (size ≤ 1099511627776) := Lib.hid (rdN_le hsome)
      have HB1 : Hid (bad = false → firstP b = some h ∧ ∃ k, rdN h 1099511627776 = some (size, k) ∧ NumsR (h.drop k) = NumsR rest) := Lib.hid (fun _ => ⟨HF.out, k, hsome, by rw [Hrest.out]⟩)
      have HB2 : Hid (∀ s l a, PlanR b s l a → bad = false ∧ s = size ∧ a = at0 ∧ NumsR rest l) := Lib.hid (by
        rintro s l a ⟨h', k', g1, g2, g3, g4, _⟩
        rw [HF.out] at g1
        cases g1
        rw [hsome] at g3
        cases g3
        exact ⟨Hbad.out, rfl, by rw [HAE.out]; exact g2, by rw [Hrest.out]; exact g4⟩)
      have hrl : rest.length ≤ h.length := by rw [Hrest.out, List.length_drop]; omega
      clear hsome
      obtain ⟨d0, d1, _, _⟩ := rdr_cells hS2
      obtain ⟨ao2, cap2, rfl⟩ := hrd2.shape
      have HR2 := Lib.hid hrd2
      have hS3 := hS2.alloc (.cells #[.int .i64 (size : Int), .slice none 0 0, .int .i64 0] 63 (0, 0))
      go_wp2_with fail
      obtain ⟨w3, HW3⟩ : ∃ w3, Hid (w3 = w2.alloc (.cells #[.int .i64 (size : Int), .slice none 0 0, .int .i64 0] 63 (0, 0))) := ⟨_, Lib.hid rfl⟩
      rw [← HW3.out] at hS3 ⊢
      have HS3 : Hid (St w1.heap.size w1 w3 [[(w2.heap.size, .cells #[.int .i64 (size : Int), .slice none 0 0, .int .i64 0] 63 (0, 0))], rdrC w1.heap.size (.slice ao2 rest.length cap2) bad]) := Lib.hid (by
        have := hS3
        exact this)
      clear hS2 hrd2 hS3 HW3 d0 d1
      go_loopg [5] rest.length (fun gf s5 wr => ∃ (rs : List UInt8) (bd : Bool) (sv : Value) (ls : List Nat) (pv : Value) (pc : List (Nat × Obj)), rs.length = gf ∧ s5 = .int .i64 ((at0 + ls.sum : Nat) : Int) ∧ Rd w1 1 sv rs.length (bv rs) ∧ (bd = true → rs = [] ∧ ls = []) ∧ ls.length + rs.length ≤ h.length ∧
        RowC 3 1 pv ls.length (iv (placesP at0 ls)) pc ∧ St w1.heap.size w1 wr [rdrC w1.heap.size sv bd, [(w2.heap.size, .cells #[.int .i64 (size : Int), pv, .int .i64 0] 63 (0, 0))], pc] ∧
        (ls = [] ∨ at0 + ls.sum ≤ b.length) ∧ Hid (bd = false → bad = false ∧ ∀ Y, NumsR rs Y → NumsR rest (ls ++ Y)) ∧ Hid (∀ Y, NumsR rest Y → bad = false → bd = false ∧ ∃ Z, Y = ls ++ Z ∧ NumsR rs Z))
      case atStart =>
        refine ⟨rest, bad, _, [], .slice none 0 0, [], rfl, HAV.out, HR2.out, fun e => ⟨HB0.out e, rfl⟩, ?_, RowC.nil _ _, ?_, .inl rfl, ?_, ?_⟩
        · simpa using hrl
        · exact (HS3.out.one_nil).pick [2, 1, 0] (by decide) _ rfl
        · exact Lib.hid fun e => ⟨e, fun Y h => h⟩
        · exact Lib.hid fun Y h e => ⟨e, Y, rfl, h⟩
      case round =>
        obtain ⟨rs, bd, sv, ls, pv, pc, hgf, rfl, hrd, hbd, hll, hpr, hS, hle, HC1, HC2⟩ := hrel
        obtain ⟨A, HA⟩ : ∃ A, Hid (A = at0 + ls.sum) := ⟨_, Lib.hid rfl⟩
        rw [← HA.out] at hle ⊢
        obtain ⟨aos, caps, rfl⟩ := hrd.shape
        obtain ⟨aop, capp, rfl⟩ := hpr.shape
        obtain ⟨d0, d1, g0, g1⟩ := rdr_cells hS
        have k80 : wr.cell? ⟨w2.heap.size, 0, none⟩ = some (.int .i64 (size : Int)) := hS.cell 1 rfl (List.mem_singleton.2 rfl) 0
        have k81 : wr.cell? ⟨w2.heap.size, 1, none⟩ = some (.slice aop ls.length capp) := hS.cell 1 rfl (List.mem_singleton.2 rfl) 1
        have k82 : wr.cell? ⟨w2.heap.size, 2, none⟩ = some (.int .i64 0) := hS.cell 1 rfl (List.mem_singleton.2 rfl) 2
        have f82 : wr.frozen? ⟨w2.heap.size, 2, none⟩ = false := hS.free 1 rfl (List.mem_singleton.2 rfl) 2
        have HS := Lib.hid (And.intro hrd (And.intro hpr hS))
        have HBD := Lib.hid (And.intro hbd hle)
        clear hrd hpr hS g0 g1 hbd hle
        cases gk with
        | zero =>
          have hr0 : rs = [] := List.eq_nil_of_length_eq_zero hgf
          subst hr0
          clear hgf
          have HN : Hid (∀ s l a, PlanR b s l a → bd = false ∧ s = size ∧ l = ls ∧ a = at0) := Lib.hid (by
            intro s l a hp
            obtain ⟨e1, e2, e3, e4⟩ := HB2.out s l a hp
            obtain ⟨e5, Z, e6, e7⟩ := HC2.out l e4 e1
            have e8 : Z = [] := by
              cases Z with
              | nil => rfl
              | cons z Z => exact absurd rfl e7.1
            rw [e8, List.append_nil] at e6
            exact ⟨e5, e2, e6, e3⟩)
          have HP : Hid (bd = false → A = b.length → ls.length = (size + 999) / 1000 → PlanR b size ls at0) := Lib.hid (by
            intro e1 e2 e3
            obtain ⟨e4, e5⟩ := HC1.out e1
            obtain ⟨eF, k, e6, e7⟩ := HB1.out e4
            have e8 := e5 [] rfl
            rw [List.append_nil] at e8
            exact ⟨h, k, eF, HAT.out.2 e4, e6, by rw [e7]; exact e8, by rw [← HA.out, e2], e3⟩)
          go_wp2_with fail
          have hS9 := HS.out.2.2.store 1 rfl 2 (.int .i64 (A : Int))
          obtain ⟨w9, HW9⟩ : ∃ w9, Hid (w9 = wr.setCell ⟨w2.heap.size, 2, none⟩ (.int .i64 (A : Int))) := ⟨_, Lib.hid rfl⟩
          rw [← HW9.out] at hS9 ⊢
          replace hS9 : St w1.heap.size w1 w9 [rdrC w1.heap.size (.slice aos 0 caps) bd, [(w2.heap.size, .cells #[.int .i64 (size : Int), .slice aop ls.length capp, .int .i64 (A : Int)] 63 (0, 0))], pc] := hS9
          have HSJ := Lib.hid (HJ.out.join hS9)
          have s0 : w9.cell? ⟨w2.heap.size, 0, none⟩ = some (.int .i64 (size : Int)) := hS9.cell 1 rfl (List.mem_singleton.2 rfl) 0
          have s1 : w9.cell? ⟨w2.heap.size, 1, none⟩ = some (.slice aop ls.length capp) := hS9.cell 1 rfl (List.mem_singleton.2 rfl) 1
          have s2 : w9.cell? ⟨w2.heap.size, 2, none⟩ = some (.int .i64 (A : Int)) := hS9.cell 1 rfl (List.mem_singleton.2 rfl) 2
          have s3 : w9.cell? ⟨w1.heap.size, 1, none⟩ = some (.bool bd) := hS9.cell 0 rfl (List.mem_singleton.2 rfl) 1
          have HCELL : Hid (∀ w' : World, ReadS w1.heap.size w2.heap.size size A (.slice aop ls.length capp) bd w' → w'.cell? ⟨w2.heap.size, 0, none⟩ = some (.int .i64 (size : Int)) ∧ w'.cell? ⟨w2.heap.size, 1, none⟩ = some (.slice aop ls.length capp) ∧ w'.cell? ⟨w2.heap.size, 2, none⟩ = some (.int .i64 (A : Int)) ∧ w'.cell? ⟨w1.heap.size, 1, none⟩ = some (.bool bd)) := Lib.hid (fun _ h => h)
          have HS0123 : Hid (ReadS w1.heap.size w2.heap.size size A (.slice aop ls.length capp) bd w9.drew) := Lib.hid ⟨s0, s1, s2, s3⟩
          clear s0 s1 s2 s3 hS9 k80 k81 k82 f82 d0 d1
          refine wp_region_held_drew (S := ReadS w1.heap.size w2.heap.size size A (.slice aop ls.length capp) bd) mixed HS0123.out (fun hSS => ?_)
          cases bd with
          | true =>
            refine take_d (i := 0) 50 (.agg #[.int .i64 (size : Int), .slice aop ls.length capp, .int .i64 (A : Int)]) rfl rfl (by kernel_rfl) (by kernel_rfl) (by kernel_rfl) (fun _ _ _ h => h) (Or.inl ⟨by rfl, ?_⟩) hSS ?_
            (focus (intro w' hw'; have hb1 := HCELL.out w' hw'; obtain ⟨hb1, hb2, hb3, hb4⟩ := hb1; first | (go_simp; done) | (go_simp; simp [qx0, qx1, qx2]; done)))
            simp only [Act.put, List.setIfInBounds_toArray, List.set_cons_zero, List.set_cons_succ]
            refine take_d (i := 1) 51 (.pointer (some ⟨w1.heap.size, 0, none⟩)) rfl rfl (by kernel_rfl) (by kernel_rfl) (by kernel_rfl) (fun _ _ _ h => h) (Or.inl ⟨by rfl, ?_⟩) hSS ?_
            (focus (intro w' hw'; have hb1 := HCELL.out w' hw'; obtain ⟨hb1, hb2, hb3, hb4⟩ := hb1; first | (go_simp; done) | (go_simp; simp [qx0, qx1, qx2]; done)))
            simp only [Act.put, List.setIfInBounds_toArray, List.set_cons_zero, List.set_cons_succ]
            refine take_d (i := 2) 52 (.pointer (some ⟨w1.heap.size, 0, none⟩)) rfl rfl (by kernel_rfl) (by kernel_rfl) (by kernel_rfl) (fun _ _ _ h => h) (Or.inl ⟨by rfl, ?_⟩) hSS ?_
            (focus (intro w' hw'; have hb1 := HCELL.out w' hw'; obtain ⟨hb1, hb2, hb3, hb4⟩ := hb1; first | (go_simp; done) | (go_simp; simp [qx0, qx1, qx2]; done)))
            simp only [Act.put, List.setIfInBounds_toArray, List.set_cons_zero, List.set_cons_succ]
            refine take_d (i := 3) 53 (.pointer (some ⟨w1.heap.size, 1, none⟩)) rfl rfl (by kernel_rfl) (by kernel_rfl) (by kernel_rfl) (fun _ _ _ h => h) (Or.inl ⟨by rfl, ?_⟩) hSS ?_
            (focus (intro w' hw'; have hb1 := HCELL.out w' hw'; obtain ⟨hb1, hb2, hb3, hb4⟩ := hb1; first | (go_simp; done) | (go_simp; simp [qx0, qx1, qx2]; done)))
            simp only [Act.put, List.setIfInBounds_toArray, List.set_cons_zero, List.set_cons_succ]
            refine take_d (i := 4) 54 (.bool true) rfl rfl (by kernel_rfl) (by kernel_rfl) (by kernel_rfl) (fun _ _ _ h => h) (Or.inl ⟨by rfl, ?_⟩) hSS ?_
            (focus (intro w' hw'; have hb1 := HCELL.out w' hw'; obtain ⟨hb1, hb2, hb3, hb4⟩ := hb1; first | (go_simp; done) | (go_simp; simp [qx0, qx1, qx2]; done)))
            simp only [Act.put, List.setIfInBounds_toArray, List.set_cons_zero, List.set_cons_succ]
            refine take_d (i := 5) 55 (.bool false) rfl rfl (by kernel_rfl) (by kernel_rfl) (by kernel_rfl) (fun _ _ _ h => h) (Or.inl ⟨by rfl, ?_⟩) hSS ?_
            (focus (intro w' hw'; have hb1 := HCELL.out w' hw'; obtain ⟨hb1, hb2, hb3, hb4⟩ := hb1; first | (go_simp; done) | (go_simp; simp [qx0, qx1, qx2]; done)))
            simp only [Act.put, List.setIfInBounds_toArray, List.set_cons_zero, List.set_cons_succ]
            refine take_d (i := 6) 56 (.bool false) rfl rfl (by kernel_rfl) (by kernel_rfl) (by kernel_rfl) (fun _ _ _ h => h) (Or.inl ⟨by rfl, ?_⟩) hSS ?_
            (focus (intro w' hw'; have hb1 := HCELL.out w' hw'; obtain ⟨hb1, hb2, hb3, hb4⟩ := hb1; first | (go_simp; done) | (go_simp; simp [qx0, qx1, qx2]; done)))
            simp only [Act.put, List.setIfInBounds_toArray, List.set_cons_zero, List.set_cons_succ]
            refine take_d (i := 7) 57 (undef) rfl rfl (by kernel_rfl) (by kernel_rfl) (by kernel_rfl) (fun _ _ _ h => h) (Or.inr ⟨by rfl, rfl⟩) hSS ?_
            simp only [Act.put, List.setIfInBounds_toArray, List.set_cons_zero, List.set_cons_succ]
            refine take_d (i := 8) 58 (undef) rfl rfl (by kernel_rfl) (by kernel_rfl) (by kernel_rfl) (fun _ _ _ h => h) (Or.inr ⟨by rfl, rfl⟩) hSS ?_
            simp only [Act.put, List.setIfInBounds_toArray, List.set_cons_zero, List.set_cons_succ]
            refine take_d (i := 9) 59 (undef) rfl rfl (by kernel_rfl) (by kernel_rfl) (by kernel_rfl) (fun _ _ _ h => h) (Or.inr ⟨by rfl, rfl⟩) hSS ?_
            simp only [Act.put, List.setIfInBounds_toArray, List.set_cons_zero, List.set_cons_succ]
            refine take_d (i := 10) 60 (undef) rfl rfl (by kernel_rfl) (by kernel_rfl) (by kernel_rfl) (fun _ _ _ h => h) (Or.inr ⟨by rfl, rfl⟩) hSS ?_
            simp only [Act.put, List.setIfInBounds_toArray, List.set_cons_zero, List.set_cons_succ]
            refine take_d (i := 11) 61 (.bool false) rfl rfl (by kernel_rfl) (by kernel_rfl) (by kernel_rfl) (fun _ _ _ h => h) (Or.inl ⟨by rfl, ?_⟩) hSS ?_
            (focus (intro w' hw'; have hb1 := HCELL.out w' hw'; obtain ⟨hb1, hb2, hb3, hb4⟩ := hb1; first | (go_simp; done) | (go_simp; simp [qx0, qx1, qx2]; done)))
            simp only [Act.put, List.setIfInBounds_toArray, List.set_cons_zero, List.set_cons_succ]
            refine take_d (i := 12) 62 (.bool false) rfl rfl (by kernel_rfl) (by kernel_rfl) (by kernel_rfl) (fun _ _ _ h => h) (Or.inl ⟨by rfl, ?_⟩) hSS ?_
            (focus (intro w' hw'; have hb1 := HCELL.out w' hw'; obtain ⟨hb1, hb2, hb3, hb4⟩ := hb1; first | (go_simp; done) | (go_simp; simp [qx0, qx1, qx2]; done)))
            simp only [Act.put, List.setIfInBounds_toArray, List.set_cons_zero, List.set_cons_succ]
            refine take_d (i := 13) 63 (undef) rfl rfl (by kernel_rfl) (by kernel_rfl) (by kernel_rfl) (fun _ _ _ h => h) (Or.inr ⟨by rfl, rfl⟩) hSS ?_
            simp only [Act.put, List.setIfInBounds_toArray, List.set_cons_zero, List.set_cons_succ]
            refine take_d (i := 14) 64 (undef) rfl rfl (by kernel_rfl) (by kernel_rfl) (by kernel_rfl) (fun _ _ _ h => h) (Or.inr ⟨by rfl, rfl⟩) hSS ?_
            simp only [Act.put, List.setIfInBounds_toArray, List.set_cons_zero, List.set_cons_succ]
            refine take_d (i := 15) 65 (undef) rfl rfl (by kernel_rfl) (by kernel_rfl) (by kernel_rfl) (fun _ _ _ h => h) (Or.inr ⟨by rfl, rfl⟩) hSS ?_
            simp only [Act.put, List.setIfInBounds_toArray, List.set_cons_zero, List.set_cons_succ]
            refine take_d (i := 16) 66 (undef) rfl rfl (by kernel_rfl) (by kernel_rfl) (by kernel_rfl) (fun _ _ _ h => h) (Or.inr ⟨by rfl, rfl⟩) hSS ?_
            simp only [Act.put, List.setIfInBounds_toArray, List.set_cons_zero, List.set_cons_succ]
            refine take_d (i := 17) 67 (undef) rfl rfl (by kernel_rfl) (by kernel_rfl) (by kernel_rfl) (fun _ _ _ h => h) (Or.inr ⟨by rfl, rfl⟩) hSS ?_
            simp only [Act.put, List.setIfInBounds_toArray, List.set_cons_zero, List.set_cons_succ]
            refine take_d (i := 18) 68 (undef) rfl rfl (by kernel_rfl) (by kernel_rfl) (by kernel_rfl) (fun _ _ _ h => h) (Or.inr ⟨by rfl, rfl⟩) hSS ?_
            simp only [Act.put, List.setIfInBounds_toArray, List.set_cons_zero, List.set_cons_succ]
            refine take_d (i := 19) 69 (undef) rfl rfl (by kernel_rfl) (by kernel_rfl) (by kernel_rfl) (fun _ _ _ h => h) (Or.inr ⟨by rfl, rfl⟩) hSS ?_
            simp only [Act.put, List.setIfInBounds_toArray, List.set_cons_zero, List.set_cons_succ]
            refine take_d (i := 20) 70 (undef) rfl rfl (by kernel_rfl) (by kernel_rfl) (by kernel_rfl) (fun _ _ _ h => h) (Or.inr ⟨by rfl, rfl⟩) hSS ?_
            simp only [Act.put, List.setIfInBounds_toArray, List.set_cons_zero, List.set_cons_succ]
            refine take_d (i := 21) 71 (.bool false) rfl rfl (by kernel_rfl) (by kernel_rfl) (by kernel_rfl) (fun _ _ _ h => h) (Or.inl ⟨by rfl, ?_⟩) hSS ?_
            (focus (intro w' hw'; have hb1 := HCELL.out w' hw'; obtain ⟨hb1, hb2, hb3, hb4⟩ := hb1; first | (go_simp; done) | (go_simp; simp [qx0, qx1, qx2]; done)))
            simp only [Act.put, List.setIfInBounds_toArray, List.set_cons_zero, List.set_cons_succ]
            obtain ⟨W, HWE⟩ : ∃ W, W = w9.drew := ⟨_, rfl⟩
            have HWS := HSJ.out.drew
            rw [← HWE] at HWS hSS ⊢
            clear HWE
            have q0 : W.cell? ⟨w.heap.size, 0, none⟩ = some (.int .i64 0) := HWS.cell 3 rfl (List.mem_singleton.2 rfl) 0
            have q1 : W.cell? ⟨w.heap.size, 1, none⟩ = some (.slice none 0 0) := HWS.cell 3 rfl (List.mem_singleton.2 rfl) 1
            have q2 : W.cell? ⟨w.heap.size, 2, none⟩ = some (.int .i64 0) := HWS.cell 3 rfl (List.mem_singleton.2 rfl) 2
            have z0 : W.frozen? ⟨w.heap.size, 0, none⟩ = false := HWS.free 3 rfl (List.mem_singleton.2 rfl) 0
            have z1 : W.frozen? ⟨w.heap.size, 1, none⟩ = false := HWS.free 3 rfl (List.mem_singleton.2 rfl) 1
            have z2 : W.frozen? ⟨w.heap.size, 2, none⟩ = false := HWS.free 3 rfl (List.mem_singleton.2 rfl) 2
            refine wpAnyH_ready (rs := [22]) (by kernel_rfl) (by simp) (AllReadyH.cons rfl (fun K2 hK2 => ?_) AllReadyH.nil)
            rw [if_pos (by rfl)]
            go_simp
            have hT := ((HWS.store 3 rfl 0 (.int .i64 (size : Int))).store 3 rfl 1 (.slice aop ls.length capp)).store 3 rfl 2 (.int .i64 (A : Int))
            have HT := Lib.hid hT
            refine hK2.out _ _ ⟨hT.cell 1 rfl (List.mem_singleton.2 rfl) 0, hT.cell 1 rfl (List.mem_singleton.2 rfl) 1, hT.cell 1 rfl (List.mem_singleton.2 rfl) 2, hT.cell 0 rfl (List.mem_singleton.2 rfl) 1⟩ (fun hSS => ?_)
            clear q0 q1 q2 z0 z1 z2 hT
            refine wpAnyH_ready (rs := [23]) (by kernel_rfl) (by simp) (AllReadyH.cons rfl (fun K3 hK3 => ?_) AllReadyH.nil)
            rw [if_pos (by rfl)]
            go_simp
            refine hK3.out _ _ hSS (fun _ => ?_)
            refine wpAnyH_done (by kernel_rfl) ?_ _
            go_wp2_with fail
            ((try simp only [Exit.inBlock, Exit.then]); refine bodyPost_ret (results_cell_two rfl _ _ _ _ _ 3 rfl HT.out rfl Try.underlying63 rfl h63) rfl ?_)
            exact .inr ⟨_, _, _, _, _, rfl, HT.out.pick [] (by decide) [] rfl, fun ⟨s, l, a, hp⟩ => by have h1 := (HN.out s l a hp).1; cases h1⟩
          | false =>
            have hsz2 : (size : Int) ≤ 1099511627776 := by have := HSZ.out; omega
            have qd : (((size : Int) + 1000 - 1).tdiv 1000) = (((size + 999) / 1000 : Nat) : Int) := by
              rw [show (size : Int) + 1000 - 1 = ((size + 999 : Nat) : Int) from by omega]
              exact (Int.ofNat_tdiv (size + 999) 1000).symm
            have qd2 : (((size : Int) + 999).tdiv 1000) = (((size + 999) / 1000 : Nat) : Int) := by
              rw [show (size : Int) + 999 = ((size + 999 : Nat) : Int) from by omega]
              exact (Int.ofNat_tdiv (size + 999) 1000).symm
            have qw3 : IntKind.i64.wrap (((size : Int) + 999) / 1000) = ((size : Int) + 999) / 1000 := IntWalk.i64_in _ (by omega)
            have qx1 := qd
            have qx0 := qd2
            have qw1 : IntKind.i64.wrap ((size : Int) + 1000) = (size : Int) + 1000 := IntWalk.i64_in _ (by omega)
            have qw2 : IntKind.i64.wrap ((size : Int) + 1000 - 1) = (size : Int) + 1000 - 1 := IntWalk.i64_in _ (by omega)
            by_cases qa : A = b.length
            · have HQ := Lib.hid qa
              have qx2 : ((A : Int) == (b.length : Int)) = true := by rw [beq_iff_eq]; omega
              clear qa
              refine take_d (i := 0) 50 (.agg #[.int .i64 (size : Int), .slice aop ls.length capp, .int .i64 (A : Int)]) rfl rfl (by kernel_rfl) (by kernel_rfl) (by kernel_rfl) (fun _ _ _ h => h) (Or.inl ⟨by rfl, ?_⟩) hSS ?_
              (focus (intro w' hw'; have hb1 := HCELL.out w' hw'; obtain ⟨hb1, hb2, hb3, hb4⟩ := hb1; first | (go_simp; done) | (go_simp; simp [qx0, qx1, qx2]; done)))
              simp only [Act.put, List.setIfInBounds_toArray, List.set_cons_zero, List.set_cons_succ]
              refine take_d (i := 1) 51 (.pointer (some ⟨w1.heap.size, 0, none⟩)) rfl rfl (by kernel_rfl) (by kernel_rfl) (by kernel_rfl) (fun _ _ _ h => h) (Or.inl ⟨by rfl, ?_⟩) hSS ?_
              (focus (intro w' hw'; have hb1 := HCELL.out w' hw'; obtain ⟨hb1, hb2, hb3, hb4⟩ := hb1; first | (go_simp; done) | (go_simp; simp [qx0, qx1, qx2]; done)))
              simp only [Act.put, List.setIfInBounds_toArray, List.set_cons_zero, List.set_cons_succ]
              refine take_d (i := 2) 52 (.pointer (some ⟨w1.heap.size, 0, none⟩)) rfl rfl (by kernel_rfl) (by kernel_rfl) (by kernel_rfl) (fun _ _ _ h => h) (Or.inl ⟨by rfl, ?_⟩) hSS ?_
              (focus (intro w' hw'; have hb1 := HCELL.out w' hw'; obtain ⟨hb1, hb2, hb3, hb4⟩ := hb1; first | (go_simp; done) | (go_simp; simp [qx0, qx1, qx2]; done)))
              simp only [Act.put, List.setIfInBounds_toArray, List.set_cons_zero, List.set_cons_succ]
              refine take_d (i := 3) 53 (.pointer (some ⟨w1.heap.size, 1, none⟩)) rfl rfl (by kernel_rfl) (by kernel_rfl) (by kernel_rfl) (fun _ _ _ h => h) (Or.inl ⟨by rfl, ?_⟩) hSS ?_
              (focus (intro w' hw'; have hb1 := HCELL.out w' hw'; obtain ⟨hb1, hb2, hb3, hb4⟩ := hb1; first | (go_simp; done) | (go_simp; simp [qx0, qx1, qx2]; done)))
              simp only [Act.put, List.setIfInBounds_toArray, List.set_cons_zero, List.set_cons_succ]
              refine take_d (i := 4) 54 (.bool false) rfl rfl (by kernel_rfl) (by kernel_rfl) (by kernel_rfl) (fun _ _ _ h => h) (Or.inl ⟨by rfl, ?_⟩) hSS ?_
              (focus (intro w' hw'; have hb1 := HCELL.out w' hw'; obtain ⟨hb1, hb2, hb3, hb4⟩ := hb1; first | (go_simp; done) | (go_simp; simp [qx0, qx1, qx2]; done)))
              simp only [Act.put, List.setIfInBounds_toArray, List.set_cons_zero, List.set_cons_succ]
              refine take_d (i := 5) 55 (.bool true) rfl rfl (by kernel_rfl) (by kernel_rfl) (by kernel_rfl) (fun _ _ _ h => h) (Or.inl ⟨by rfl, ?_⟩) hSS ?_
              (focus (intro w' hw'; have hb1 := HCELL.out w' hw'; obtain ⟨hb1, hb2, hb3, hb4⟩ := hb1; first | (go_simp; done) | (go_simp; simp [qx0, qx1, qx2]; done)))
              simp only [Act.put, List.setIfInBounds_toArray, List.set_cons_zero, List.set_cons_succ]
              refine take_d (i := 6) 56 (.bool true) rfl rfl (by kernel_rfl) (by kernel_rfl) (by kernel_rfl) (fun _ _ _ h => h) (Or.inl ⟨by rfl, ?_⟩) hSS ?_
              (focus (intro w' hw'; have hb1 := HCELL.out w' hw'; obtain ⟨hb1, hb2, hb3, hb4⟩ := hb1; first | (go_simp; done) | (go_simp; simp [qx0, qx1, qx2]; done)))
              simp only [Act.put, List.setIfInBounds_toArray, List.set_cons_zero, List.set_cons_succ]
              refine take_d (i := 7) 57 (.int .i64 (A : Int)) rfl rfl (by kernel_rfl) (by kernel_rfl) (by kernel_rfl) (fun _ _ _ h => h) (Or.inl ⟨by rfl, ?_⟩) hSS ?_
              (focus (intro w' hw'; have hb1 := HCELL.out w' hw'; obtain ⟨hb1, hb2, hb3, hb4⟩ := hb1; first | (go_simp; done) | (go_simp; simp [qx0, qx1, qx2]; done)))
              simp only [Act.put, List.setIfInBounds_toArray, List.set_cons_zero, List.set_cons_succ]
              refine take_d (i := 8) 58 (.slice ao b.length cap) rfl rfl (by kernel_rfl) (by kernel_rfl) (by kernel_rfl) (fun _ _ _ h => h) (Or.inl ⟨by rfl, ?_⟩) hSS ?_
              (focus (intro w' hw'; have hb1 := HCELL.out w' hw'; obtain ⟨hb1, hb2, hb3, hb4⟩ := hb1; first | (go_simp; done) | (go_simp; simp [qx0, qx1, qx2]; done)))
              simp only [Act.put, List.setIfInBounds_toArray, List.set_cons_zero, List.set_cons_succ]
              refine take_d (i := 9) 59 (.int .i64 (b.length : Int)) rfl rfl (by kernel_rfl) (by kernel_rfl) (by kernel_rfl) (fun _ _ _ h => h) (Or.inl ⟨by rfl, ?_⟩) hSS ?_
              (focus (intro w' hw'; have hb1 := HCELL.out w' hw'; obtain ⟨hb1, hb2, hb3, hb4⟩ := hb1; first | (go_simp; done) | (go_simp; simp [qx0, qx1, qx2]; done)))
              simp only [Act.put, List.setIfInBounds_toArray, List.set_cons_zero, List.set_cons_succ]
              refine take_d (i := 10) 60 (.bool true) rfl rfl (by kernel_rfl) (by kernel_rfl) (by kernel_rfl) (fun _ _ _ h => h) (Or.inl ⟨by rfl, ?_⟩) hSS ?_
              (focus (intro w' hw'; have hb1 := HCELL.out w' hw'; obtain ⟨hb1, hb2, hb3, hb4⟩ := hb1; first | (go_simp; done) | (go_simp; simp [qx0, qx1, qx2]; done)))
              simp only [Act.put, List.setIfInBounds_toArray, List.set_cons_zero, List.set_cons_succ]
              refine take_d (i := 11) 61 (.bool true) rfl rfl (by kernel_rfl) (by kernel_rfl) (by kernel_rfl) (fun _ _ _ h => h) (Or.inl ⟨by rfl, ?_⟩) hSS ?_
              (focus (intro w' hw'; have hb1 := HCELL.out w' hw'; obtain ⟨hb1, hb2, hb3, hb4⟩ := hb1; first | (go_simp; done) | (go_simp; simp [qx0, qx1, qx2]; done)))
              simp only [Act.put, List.setIfInBounds_toArray, List.set_cons_zero, List.set_cons_succ]
              refine take_d (i := 12) 62 (.bool true) rfl rfl (by kernel_rfl) (by kernel_rfl) (by kernel_rfl) (fun _ _ _ h => h) (Or.inl ⟨by rfl, ?_⟩) hSS ?_
              (focus (intro w' hw'; have hb1 := HCELL.out w' hw'; obtain ⟨hb1, hb2, hb3, hb4⟩ := hb1; first | (go_simp; done) | (go_simp; simp [qx0, qx1, qx2]; done)))
              simp only [Act.put, List.setIfInBounds_toArray, List.set_cons_zero, List.set_cons_succ]
              refine take_d (i := 13) 63 (.agg #[.int .i64 (size : Int), .slice aop ls.length capp, .int .i64 (A : Int)]) rfl rfl (by kernel_rfl) (by kernel_rfl) (by kernel_rfl) (fun _ _ _ h => h) (Or.inl ⟨by rfl, ?_⟩) hSS ?_
              (focus (intro w' hw'; have hb1 := HCELL.out w' hw'; obtain ⟨hb1, hb2, hb3, hb4⟩ := hb1; first | (go_simp; done) | (go_simp; simp [qx0, qx1, qx2]; done)))
              simp only [Act.put, List.setIfInBounds_toArray, List.set_cons_zero, List.set_cons_succ]
              refine take_d (i := 15) 65 (.pointer (some ⟨w2.heap.size, 0, none⟩)) rfl rfl (by kernel_rfl) (by kernel_rfl) (by kernel_rfl) (fun _ _ _ h => h) (Or.inl ⟨by rfl, ?_⟩) hSS ?_
              (focus (intro w' hw'; have hb1 := HCELL.out w' hw'; obtain ⟨hb1, hb2, hb3, hb4⟩ := hb1; first | (go_simp; done) | (go_simp; simp [qx0, qx1, qx2]; done)))
              simp only [Act.put, List.setIfInBounds_toArray, List.set_cons_zero, List.set_cons_succ]
              refine take_d (i := 16) 66 (.int .i64 (size : Int)) rfl rfl (by kernel_rfl) (by kernel_rfl) (by kernel_rfl) (fun _ _ _ h => h) (Or.inl ⟨by rfl, ?_⟩) hSS ?_
              (focus (intro w' hw'; have hb1 := HCELL.out w' hw'; obtain ⟨hb1, hb2, hb3, hb4⟩ := hb1; first | (go_simp; done) | (go_simp; simp [qx0, qx1, qx2]; done)))
              simp only [Act.put, List.setIfInBounds_toArray, List.set_cons_zero, List.set_cons_succ]
              refine take_d (i := 17) 67 (.int .i64 ((size : Int) + 1000)) rfl rfl (by kernel_rfl) (by kernel_rfl) (by kernel_rfl) (fun _ _ _ h => h) (Or.inl ⟨by rfl, ?_⟩) hSS ?_
              (focus (intro w' hw'; have hb1 := HCELL.out w' hw'; obtain ⟨hb1, hb2, hb3, hb4⟩ := hb1; first | (go_simp; done) | (go_simp; simp [qx0, qx1, qx2]; done)))
              simp only [Act.put, List.setIfInBounds_toArray, List.set_cons_zero, List.set_cons_succ]
              refine take_d (i := 18) 68 (.int .i64 ((size : Int) + 1000 - 1)) rfl rfl (by kernel_rfl) (by kernel_rfl) (by kernel_rfl) (fun _ _ _ h => h) (Or.inl ⟨by rfl, ?_⟩) hSS ?_
              (focus (intro w' hw'; have hb1 := HCELL.out w' hw'; obtain ⟨hb1, hb2, hb3, hb4⟩ := hb1; first | (go_simp; done) | (go_simp; simp [qx0, qx1, qx2]; done)))
              simp only [Act.put, List.setIfInBounds_toArray, List.set_cons_zero, List.set_cons_succ]
              refine take_d (i := 19) 69 (.int .i64 (((size : Int) + 999) / 1000)) rfl rfl (by kernel_rfl) (by kernel_rfl) (by kernel_rfl) (fun _ _ _ h => h) (Or.inl ⟨by rfl, ?_⟩) hSS ?_
              (focus (intro w' hw'; have hb1 := HCELL.out w' hw'; obtain ⟨hb1, hb2, hb3, hb4⟩ := hb1; first | (go_simp; done) | (go_simp; simp [qx0, qx1, qx2]; done)))
              simp only [Act.put, List.setIfInBounds_toArray, List.set_cons_zero, List.set_cons_succ]
              refine wpAnyH_ready (rs := [14]) (by kernel_rfl) (by simp) (AllReadyH.cons rfl (fun K1 hK1 => ?_) AllReadyH.nil)
              rw [if_pos (by rfl)]
              go_simp
              refine (ctnum_any (size : Int) (A : Int) aop ls.length capp _).mono ?_
              rintro e wn ⟨rfl, o, rfl⟩
              have HSA := Lib.hid (HSJ.out.drew.alloc' o)
              refine hK1.out _ _ ⟨HSA.out.cell 1 rfl (List.mem_singleton.2 rfl) 0, HSA.out.cell 1 rfl (List.mem_singleton.2 rfl) 1, HSA.out.cell 1 rfl (List.mem_singleton.2 rfl) 2, HSA.out.cell 0 rfl (List.mem_singleton.2 rfl) 1⟩ (fun hSS => ?_)
              try simp only [Act.put, List.setIfInBounds_toArray, List.set_cons_zero, List.set_cons_succ]
              by_cases qc : ls.length = (size + 999) / 1000
              · have qx0 : ((ls.length : Int) == ((size : Int) + 999) / 1000) = true := by rw [beq_iff_eq]; omega
                have HQC := Lib.hid qc
                clear qc
                refine take_d (i := 20) 70 (.bool true) rfl rfl (by kernel_rfl) (by kernel_rfl) (by kernel_rfl) (fun _ _ _ h => h) (Or.inl ⟨by rfl, ?_⟩) hSS ?_
                (focus (intro w' hw'; have hb1 := HCELL.out w' hw'; obtain ⟨hb1, hb2, hb3, hb4⟩ := hb1; first | (go_simp; done) | (go_simp; simp [qx0, qx1, qx2]; done)))
                simp only [Act.put, List.setIfInBounds_toArray, List.set_cons_zero, List.set_cons_succ]
                refine take_d (i := 21) 71 (.bool true) rfl rfl (by kernel_rfl) (by kernel_rfl) (by kernel_rfl) (fun _ _ _ h => h) (Or.inl ⟨by rfl, ?_⟩) hSS ?_
                (focus (intro w' hw'; have hb1 := HCELL.out w' hw'; obtain ⟨hb1, hb2, hb3, hb4⟩ := hb1; first | (go_simp; done) | (go_simp; simp [qx0, qx1, qx2]; done)))
                simp only [Act.put, List.setIfInBounds_toArray, List.set_cons_zero, List.set_cons_succ]
                obtain ⟨W, HWE⟩ : ∃ W, W = w9.drew.alloc o := ⟨_, rfl⟩
                have HWS := HSA.out
                rw [← HWE] at HWS hSS ⊢
                clear HWE
                have q0 : W.cell? ⟨w.heap.size, 0, none⟩ = some (.int .i64 0) := HWS.cell 3 rfl (List.mem_singleton.2 rfl) 0
                have q1 : W.cell? ⟨w.heap.size, 1, none⟩ = some (.slice none 0 0) := HWS.cell 3 rfl (List.mem_singleton.2 rfl) 1
                have q2 : W.cell? ⟨w.heap.size, 2, none⟩ = some (.int .i64 0) := HWS.cell 3 rfl (List.mem_singleton.2 rfl) 2
                have z0 : W.frozen? ⟨w.heap.size, 0, none⟩ = false := HWS.free 3 rfl (List.mem_singleton.2 rfl) 0
                have z1 : W.frozen? ⟨w.heap.size, 1, none⟩ = false := HWS.free 3 rfl (List.mem_singleton.2 rfl) 1
                have z2 : W.frozen? ⟨w.heap.size, 2, none⟩ = false := HWS.free 3 rfl (List.mem_singleton.2 rfl) 2
                refine wpAnyH_ready (rs := [22]) (by kernel_rfl) (by simp) (AllReadyH.cons rfl (fun K2 hK2 => ?_) AllReadyH.nil)
                rw [if_pos (by rfl)]
                go_simp
                have hT := ((HWS.store 3 rfl 0 (.int .i64 (size : Int))).store 3 rfl 1 (.slice aop ls.length capp)).store 3 rfl 2 (.int .i64 (A : Int))
                have HT := Lib.hid hT
                refine hK2.out _ _ ⟨hT.cell 1 rfl (List.mem_singleton.2 rfl) 0, hT.cell 1 rfl (List.mem_singleton.2 rfl) 1, hT.cell 1 rfl (List.mem_singleton.2 rfl) 2, hT.cell 0 rfl (List.mem_singleton.2 rfl) 1⟩ (fun hSS => ?_)
                clear q0 q1 q2 z0 z1 z2 hT
                refine wpAnyH_ready (rs := [23]) (by kernel_rfl) (by simp) (AllReadyH.cons rfl (fun K3 hK3 => ?_) AllReadyH.nil)
                rw [if_pos (by rfl)]
                go_simp
                refine hK3.out _ _ hSS (fun _ => ?_)
                refine wpAnyH_done (by kernel_rfl) ?_ _
                go_wp2_with fail
                ((try simp only [Exit.inBlock, Exit.then]); refine bodyPost_ret (results_cell_two rfl _ _ _ _ _ 3 rfl HT.out rfl Try.underlying63 rfl h63) rfl ?_)
                exact .inl ⟨size, ls, at0, _, pc, HP.out (by first | trivial | rfl) HQ.out HQC.out, by rw [HQ.out]; rfl, HS.out.2.1, (HT.out.pick [2] (by decide) _ rfl)⟩
              · have qx0 : ((ls.length : Int) == ((size : Int) + 999) / 1000) = false := by rw [beq_eq_false_iff_ne]; omega
                have HQC := Lib.hid qc
                clear qc
                refine take_d (i := 20) 70 (.bool false) rfl rfl (by kernel_rfl) (by kernel_rfl) (by kernel_rfl) (fun _ _ _ h => h) (Or.inl ⟨by rfl, ?_⟩) hSS ?_
                (focus (intro w' hw'; have hb1 := HCELL.out w' hw'; obtain ⟨hb1, hb2, hb3, hb4⟩ := hb1; first | (go_simp; done) | (go_simp; simp [qx0, qx1, qx2]; done)))
                simp only [Act.put, List.setIfInBounds_toArray, List.set_cons_zero, List.set_cons_succ]
                refine take_d (i := 21) 71 (.bool false) rfl rfl (by kernel_rfl) (by kernel_rfl) (by kernel_rfl) (fun _ _ _ h => h) (Or.inl ⟨by rfl, ?_⟩) hSS ?_
                (focus (intro w' hw'; have hb1 := HCELL.out w' hw'; obtain ⟨hb1, hb2, hb3, hb4⟩ := hb1; first | (go_simp; done) | (go_simp; simp [qx0, qx1, qx2]; done)))
                simp only [Act.put, List.setIfInBounds_toArray, List.set_cons_zero, List.set_cons_succ]
                obtain ⟨W, HWE⟩ : ∃ W, W = w9.drew.alloc o := ⟨_, rfl⟩
                have HWS := HSA.out
                rw [← HWE] at HWS hSS ⊢
                clear HWE
                have q0 : W.cell? ⟨w.heap.size, 0, none⟩ = some (.int .i64 0) := HWS.cell 3 rfl (List.mem_singleton.2 rfl) 0
                have q1 : W.cell? ⟨w.heap.size, 1, none⟩ = some (.slice none 0 0) := HWS.cell 3 rfl (List.mem_singleton.2 rfl) 1
                have q2 : W.cell? ⟨w.heap.size, 2, none⟩ = some (.int .i64 0) := HWS.cell 3 rfl (List.mem_singleton.2 rfl) 2
                have z0 : W.frozen? ⟨w.heap.size, 0, none⟩ = false := HWS.free 3 rfl (List.mem_singleton.2 rfl) 0
                have z1 : W.frozen? ⟨w.heap.size, 1, none⟩ = false := HWS.free 3 rfl (List.mem_singleton.2 rfl) 1
                have z2 : W.frozen? ⟨w.heap.size, 2, none⟩ = false := HWS.free 3 rfl (List.mem_singleton.2 rfl) 2
                refine wpAnyH_ready (rs := [22]) (by kernel_rfl) (by simp) (AllReadyH.cons rfl (fun K2 hK2 => ?_) AllReadyH.nil)
                rw [if_pos (by rfl)]
                go_simp
                have hT := ((HWS.store 3 rfl 0 (.int .i64 (size : Int))).store 3 rfl 1 (.slice aop ls.length capp)).store 3 rfl 2 (.int .i64 (A : Int))
                have HT := Lib.hid hT
                refine hK2.out _ _ ⟨hT.cell 1 rfl (List.mem_singleton.2 rfl) 0, hT.cell 1 rfl (List.mem_singleton.2 rfl) 1, hT.cell 1 rfl (List.mem_singleton.2 rfl) 2, hT.cell 0 rfl (List.mem_singleton.2 rfl) 1⟩ (fun hSS => ?_)
                clear q0 q1 q2 z0 z1 z2 hT
                refine wpAnyH_ready (rs := [23]) (by kernel_rfl) (by simp) (AllReadyH.cons rfl (fun K3 hK3 => ?_) AllReadyH.nil)
                rw [if_pos (by rfl)]
                go_simp
                refine hK3.out _ _ hSS (fun _ => ?_)
                refine wpAnyH_done (by kernel_rfl) ?_ _
                go_wp2_with fail
                ((try simp only [Exit.inBlock, Exit.then]); refine bodyPost_ret (results_cell_two rfl _ _ _ _ _ 3 rfl HT.out rfl Try.underlying63 rfl h63) rfl ?_)
                exact .inr ⟨_, _, _, _, _, rfl, HT.out.pick [] (by decide) [] rfl, fun ⟨s, l, a, hp⟩ => by have h1 := HN.out s l a hp; obtain ⟨x, k, _, g2, _, _, g5, g6⟩ := hp; rw [h1.2.2.1, h1.2.1] at g6; exact HQC.out g6⟩
            · have HQ := Lib.hid qa
              have qx2 : ((A : Int) == (b.length : Int)) = false := by rw [beq_eq_false_iff_ne]; omega
              clear qa
              refine take_d (i := 0) 50 (.agg #[.int .i64 (size : Int), .slice aop ls.length capp, .int .i64 (A : Int)]) rfl rfl (by kernel_rfl) (by kernel_rfl) (by kernel_rfl) (fun _ _ _ h => h) (Or.inl ⟨by rfl, ?_⟩) hSS ?_
              (focus (intro w' hw'; have hb1 := HCELL.out w' hw'; obtain ⟨hb1, hb2, hb3, hb4⟩ := hb1; first | (go_simp; done) | (go_simp; simp [qx0, qx1, qx2]; done)))
              simp only [Act.put, List.setIfInBounds_toArray, List.set_cons_zero, List.set_cons_succ]
              refine take_d (i := 1) 51 (.pointer (some ⟨w1.heap.size, 0, none⟩)) rfl rfl (by kernel_rfl) (by kernel_rfl) (by kernel_rfl) (fun _ _ _ h => h) (Or.inl ⟨by rfl, ?_⟩) hSS ?_
              (focus (intro w' hw'; have hb1 := HCELL.out w' hw'; obtain ⟨hb1, hb2, hb3, hb4⟩ := hb1; first | (go_simp; done) | (go_simp; simp [qx0, qx1, qx2]; done)))
              simp only [Act.put, List.setIfInBounds_toArray, List.set_cons_zero, List.set_cons_succ]
              refine take_d (i := 2) 52 (.pointer (some ⟨w1.heap.size, 0, none⟩)) rfl rfl (by kernel_rfl) (by kernel_rfl) (by kernel_rfl) (fun _ _ _ h => h) (Or.inl ⟨by rfl, ?_⟩) hSS ?_
              (focus (intro w' hw'; have hb1 := HCELL.out w' hw'; obtain ⟨hb1, hb2, hb3, hb4⟩ := hb1; first | (go_simp; done) | (go_simp; simp [qx0, qx1, qx2]; done)))
              simp only [Act.put, List.setIfInBounds_toArray, List.set_cons_zero, List.set_cons_succ]
              refine take_d (i := 3) 53 (.pointer (some ⟨w1.heap.size, 1, none⟩)) rfl rfl (by kernel_rfl) (by kernel_rfl) (by kernel_rfl) (fun _ _ _ h => h) (Or.inl ⟨by rfl, ?_⟩) hSS ?_
              (focus (intro w' hw'; have hb1 := HCELL.out w' hw'; obtain ⟨hb1, hb2, hb3, hb4⟩ := hb1; first | (go_simp; done) | (go_simp; simp [qx0, qx1, qx2]; done)))
              simp only [Act.put, List.setIfInBounds_toArray, List.set_cons_zero, List.set_cons_succ]
              refine take_d (i := 4) 54 (.bool false) rfl rfl (by kernel_rfl) (by kernel_rfl) (by kernel_rfl) (fun _ _ _ h => h) (Or.inl ⟨by rfl, ?_⟩) hSS ?_
              (focus (intro w' hw'; have hb1 := HCELL.out w' hw'; obtain ⟨hb1, hb2, hb3, hb4⟩ := hb1; first | (go_simp; done) | (go_simp; simp [qx0, qx1, qx2]; done)))
              simp only [Act.put, List.setIfInBounds_toArray, List.set_cons_zero, List.set_cons_succ]
              refine take_d (i := 5) 55 (.bool true) rfl rfl (by kernel_rfl) (by kernel_rfl) (by kernel_rfl) (fun _ _ _ h => h) (Or.inl ⟨by rfl, ?_⟩) hSS ?_
              (focus (intro w' hw'; have hb1 := HCELL.out w' hw'; obtain ⟨hb1, hb2, hb3, hb4⟩ := hb1; first | (go_simp; done) | (go_simp; simp [qx0, qx1, qx2]; done)))
              simp only [Act.put, List.setIfInBounds_toArray, List.set_cons_zero, List.set_cons_succ]
              refine take_d (i := 6) 56 (.bool true) rfl rfl (by kernel_rfl) (by kernel_rfl) (by kernel_rfl) (fun _ _ _ h => h) (Or.inl ⟨by rfl, ?_⟩) hSS ?_
              (focus (intro w' hw'; have hb1 := HCELL.out w' hw'; obtain ⟨hb1, hb2, hb3, hb4⟩ := hb1; first | (go_simp; done) | (go_simp; simp [qx0, qx1, qx2]; done)))
              simp only [Act.put, List.setIfInBounds_toArray, List.set_cons_zero, List.set_cons_succ]
              refine take_d (i := 7) 57 (.int .i64 (A : Int)) rfl rfl (by kernel_rfl) (by kernel_rfl) (by kernel_rfl) (fun _ _ _ h => h) (Or.inl ⟨by rfl, ?_⟩) hSS ?_
              (focus (intro w' hw'; have hb1 := HCELL.out w' hw'; obtain ⟨hb1, hb2, hb3, hb4⟩ := hb1; first | (go_simp; done) | (go_simp; simp [qx0, qx1, qx2]; done)))
              simp only [Act.put, List.setIfInBounds_toArray, List.set_cons_zero, List.set_cons_succ]
              refine take_d (i := 8) 58 (.slice ao b.length cap) rfl rfl (by kernel_rfl) (by kernel_rfl) (by kernel_rfl) (fun _ _ _ h => h) (Or.inl ⟨by rfl, ?_⟩) hSS ?_
              (focus (intro w' hw'; have hb1 := HCELL.out w' hw'; obtain ⟨hb1, hb2, hb3, hb4⟩ := hb1; first | (go_simp; done) | (go_simp; simp [qx0, qx1, qx2]; done)))
              simp only [Act.put, List.setIfInBounds_toArray, List.set_cons_zero, List.set_cons_succ]
              refine take_d (i := 9) 59 (.int .i64 (b.length : Int)) rfl rfl (by kernel_rfl) (by kernel_rfl) (by kernel_rfl) (fun _ _ _ h => h) (Or.inl ⟨by rfl, ?_⟩) hSS ?_
              (focus (intro w' hw'; have hb1 := HCELL.out w' hw'; obtain ⟨hb1, hb2, hb3, hb4⟩ := hb1; first | (go_simp; done) | (go_simp; simp [qx0, qx1, qx2]; done)))
              simp only [Act.put, List.setIfInBounds_toArray, List.set_cons_zero, List.set_cons_succ]
              refine take_d (i := 10) 60 (.bool false) rfl rfl (by kernel_rfl) (by kernel_rfl) (by kernel_rfl) (fun _ _ _ h => h) (Or.inl ⟨by rfl, ?_⟩) hSS ?_
              (focus (intro w' hw'; have hb1 := HCELL.out w' hw'; obtain ⟨hb1, hb2, hb3, hb4⟩ := hb1; first | (go_simp; done) | (go_simp; simp [qx0, qx1, qx2]; done)))
              simp only [Act.put, List.setIfInBounds_toArray, List.set_cons_zero, List.set_cons_succ]
              refine take_d (i := 11) 61 (.bool false) rfl rfl (by kernel_rfl) (by kernel_rfl) (by kernel_rfl) (fun _ _ _ h => h) (Or.inl ⟨by rfl, ?_⟩) hSS ?_
              (focus (intro w' hw'; have hb1 := HCELL.out w' hw'; obtain ⟨hb1, hb2, hb3, hb4⟩ := hb1; first | (go_simp; done) | (go_simp; simp [qx0, qx1, qx2]; done)))
              simp only [Act.put, List.setIfInBounds_toArray, List.set_cons_zero, List.set_cons_succ]
              refine take_d (i := 12) 62 (.bool false) rfl rfl (by kernel_rfl) (by kernel_rfl) (by kernel_rfl) (fun _ _ _ h => h) (Or.inl ⟨by rfl, ?_⟩) hSS ?_
              (focus (intro w' hw'; have hb1 := HCELL.out w' hw'; obtain ⟨hb1, hb2, hb3, hb4⟩ := hb1; first | (go_simp; done) | (go_simp; simp [qx0, qx1, qx2]; done)))
              simp only [Act.put, List.setIfInBounds_toArray, List.set_cons_zero, List.set_cons_succ]
              refine take_d (i := 13) 63 (undef) rfl rfl (by kernel_rfl) (by kernel_rfl) (by kernel_rfl) (fun _ _ _ h => h) (Or.inr ⟨by rfl, rfl⟩) hSS ?_
              simp only [Act.put, List.setIfInBounds_toArray, List.set_cons_zero, List.set_cons_succ]
              refine take_d (i := 14) 64 (undef) rfl rfl (by kernel_rfl) (by kernel_rfl) (by kernel_rfl) (fun _ _ _ h => h) (Or.inr ⟨by rfl, rfl⟩) hSS ?_
              simp only [Act.put, List.setIfInBounds_toArray, List.set_cons_zero, List.set_cons_succ]
              refine take_d (i := 15) 65 (undef) rfl rfl (by kernel_rfl) (by kernel_rfl) (by kernel_rfl) (fun _ _ _ h => h) (Or.inr ⟨by rfl, rfl⟩) hSS ?_
              simp only [Act.put, List.setIfInBounds_toArray, List.set_cons_zero, List.set_cons_succ]
              refine take_d (i := 16) 66 (undef) rfl rfl (by kernel_rfl) (by kernel_rfl) (by kernel_rfl) (fun _ _ _ h => h) (Or.inr ⟨by rfl, rfl⟩) hSS ?_
              simp only [Act.put, List.setIfInBounds_toArray, List.set_cons_zero, List.set_cons_succ]
              refine take_d (i := 17) 67 (undef) rfl rfl (by kernel_rfl) (by kernel_rfl) (by kernel_rfl) (fun _ _ _ h => h) (Or.inr ⟨by rfl, rfl⟩) hSS ?_
              simp only [Act.put, List.setIfInBounds_toArray, List.set_cons_zero, List.set_cons_succ]
              refine take_d (i := 18) 68 (undef) rfl rfl (by kernel_rfl) (by kernel_rfl) (by kernel_rfl) (fun _ _ _ h => h) (Or.inr ⟨by rfl, rfl⟩) hSS ?_
              simp only [Act.put, List.setIfInBounds_toArray, List.set_cons_zero, List.set_cons_succ]
              refine take_d (i := 19) 69 (undef) rfl rfl (by kernel_rfl) (by kernel_rfl) (by kernel_rfl) (fun _ _ _ h => h) (Or.inr ⟨by rfl, rfl⟩) hSS ?_
              simp only [Act.put, List.setIfInBounds_toArray, List.set_cons_zero, List.set_cons_succ]
              refine take_d (i := 20) 70 (undef) rfl rfl (by kernel_rfl) (by kernel_rfl) (by kernel_rfl) (fun _ _ _ h => h) (Or.inr ⟨by rfl, rfl⟩) hSS ?_
              simp only [Act.put, List.setIfInBounds_toArray, List.set_cons_zero, List.set_cons_succ]
              refine take_d (i := 21) 71 (.bool false) rfl rfl (by kernel_rfl) (by kernel_rfl) (by kernel_rfl) (fun _ _ _ h => h) (Or.inl ⟨by rfl, ?_⟩) hSS ?_
              (focus (intro w' hw'; have hb1 := HCELL.out w' hw'; obtain ⟨hb1, hb2, hb3, hb4⟩ := hb1; first | (go_simp; done) | (go_simp; simp [qx0, qx1, qx2]; done)))
              simp only [Act.put, List.setIfInBounds_toArray, List.set_cons_zero, List.set_cons_succ]
              obtain ⟨W, HWE⟩ : ∃ W, W = w9.drew := ⟨_, rfl⟩
              have HWS := HSJ.out.drew
              rw [← HWE] at HWS hSS ⊢
              clear HWE
              have q0 : W.cell? ⟨w.heap.size, 0, none⟩ = some (.int .i64 0) := HWS.cell 3 rfl (List.mem_singleton.2 rfl) 0
              have q1 : W.cell? ⟨w.heap.size, 1, none⟩ = some (.slice none 0 0) := HWS.cell 3 rfl (List.mem_singleton.2 rfl) 1
              have q2 : W.cell? ⟨w.heap.size, 2, none⟩ = some (.int .i64 0) := HWS.cell 3 rfl (List.mem_singleton.2 rfl) 2
              have z0 : W.frozen? ⟨w.heap.size, 0, none⟩ = false := HWS.free 3 rfl (List.mem_singleton.2 rfl) 0
              have z1 : W.frozen? ⟨w.heap.size, 1, none⟩ = false := HWS.free 3 rfl (List.mem_singleton.2 rfl) 1
              have z2 : W.frozen? ⟨w.heap.size, 2, none⟩ = false := HWS.free 3 rfl (List.mem_singleton.2 rfl) 2
              refine wpAnyH_ready (rs := [22]) (by kernel_rfl) (by simp) (AllReadyH.cons rfl (fun K2 hK2 => ?_) AllReadyH.nil)
              rw [if_pos (by rfl)]
              go_simp
              have hT := ((HWS.store 3 rfl 0 (.int .i64 (size : Int))).store 3 rfl 1 (.slice aop ls.length capp)).store 3 rfl 2 (.int .i64 (A : Int))
              have HT := Lib.hid hT
              refine hK2.out _ _ ⟨hT.cell 1 rfl (List.mem_singleton.2 rfl) 0, hT.cell 1 rfl (List.mem_singleton.2 rfl) 1, hT.cell 1 rfl (List.mem_singleton.2 rfl) 2, hT.cell 0 rfl (List.mem_singleton.2 rfl) 1⟩ (fun hSS => ?_)
              clear q0 q1 q2 z0 z1 z2 hT
              refine wpAnyH_ready (rs := [23]) (by kernel_rfl) (by simp) (AllReadyH.cons rfl (fun K3 hK3 => ?_) AllReadyH.nil)
              rw [if_pos (by rfl)]
              go_simp
              refine hK3.out _ _ hSS (fun _ => ?_)
              refine wpAnyH_done (by kernel_rfl) ?_ _
              go_wp2_with fail
              ((try simp only [Exit.inBlock, Exit.then]); refine bodyPost_ret (results_cell_two rfl _ _ _ _ _ 3 rfl HT.out rfl Try.underlying63 rfl h63) rfl ?_)
              exact .inr ⟨_, _, _, _, _, rfl, HT.out.pick [] (by decide) [] rfl, fun ⟨s, l, a, hp⟩ => by have h1 := HN.out s l a hp; obtain ⟨x, k, _, g2, _, _, g5, _⟩ := hp; rw [h1.2.2.1, h1.2.2.2, ← HA.out] at g5; exact HQ.out g5⟩
        | succ m =>
          have hr0 : 0 < rs.length := by omega
          have hr0i : (0 : Int) < (rs.length : Int) := by omega
          have hAb : A ≤ b.length := by
            rcases HBD.out.2 with e | e
            · rw [HA.out, e]; have := HAT.out.1; simp; omega
            · exact e
          have hrln : rs.length ≤ 1000000 := by omega
          have hS2 := HS.out.2.2
          have hpr2 := HS.out.2.1
          have hlsl : ls.length ≤ 1000000 := by omega
          clear k80 k82 f82
          go_wp2_with ((at_builtin; (refine wpList_app1 2 36 i0 (.int .i64 0) _ _ _ rfl rfl rfl rfl Try.underlying36 i0a i0b i0c i0d rfl hS2 rfl hpr2 rfl ?_ ?_ ?_); (unfold maxLen; omega); omega; intro v4 c4 w4 hr4 hS4); (obtain ⟨ao4, cap4, rfl⟩ := hr4.shape); have m81 : w4.cell? ⟨w2.heap.size, 1, none⟩ = some (.slice aop ls.length capp) := hS4.cell 1 rfl (List.mem_singleton.2 rfl) 1; have n81 : w4.frozen? ⟨w2.heap.size, 1, none⟩ = false := hS4.free 1 rfl (List.mem_singleton.2 rfl) 1; have H4 := Lib.hid (And.intro hr4 hS4); clear hS2 hpr2 hr4 hS4 k81 d0 d1)
          have hS5 := H4.out.2.store 1 rfl 1 (.slice ao4 (ls.length + 1) cap4)
          refine (rnum_any w1.heap.size _ bd rs 1099511627776 (by decide) (fun e => (HBD.out.1 e).1) HS.out.1 hS5 hrln).mono ?_
          clear m81 n81 hS5
          rintro e w6 (⟨hnone, rfl, hS6⟩ | ⟨n, k', sv6, hsome, rfl, hrd6, hS6⟩)
          · obtain ⟨d0, d1, g0, g1⟩ := rdr_cells hS6
            have HWS := Lib.hid (HJ.out.join hS6)
            have q0 : w6.cell? ⟨w.heap.size, 0, none⟩ = some (.int .i64 0) := HWS.out.cell 3 rfl (List.mem_singleton.2 rfl) 0
            have q1 : w6.cell? ⟨w.heap.size, 1, none⟩ = some (.slice none 0 0) := HWS.out.cell 3 rfl (List.mem_singleton.2 rfl) 1
            have q2 : w6.cell? ⟨w.heap.size, 2, none⟩ = some (.int .i64 0) := HWS.out.cell 3 rfl (List.mem_singleton.2 rfl) 2
            have z0 : w6.frozen? ⟨w.heap.size, 0, none⟩ = false := HWS.out.free 3 rfl (List.mem_singleton.2 rfl) 0
            have z1 : w6.frozen? ⟨w.heap.size, 1, none⟩ = false := HWS.out.free 3 rfl (List.mem_singleton.2 rfl) 1
            have z2 : w6.frozen? ⟨w.heap.size, 2, none⟩ = false := HWS.out.free 3 rfl (List.mem_singleton.2 rfl) 2
            have HNO := Lib.hid hnone
            clear hnone hS6 g0 g1
            go_wp2_with fail
            have HT := ((HWS.out.store 3 rfl 0 (.int .i64 0)).store 3 rfl 1 (.slice none 0 0)).store 3 rfl 2 (.int .i64 0)
            ((try simp only [Exit.inBlock, Exit.then]); refine bodyPost_ret (results_cell_two rfl _ _ _ _ _ 3 rfl HT rfl Try.underlying63 rfl h63) rfl ?_)
            refine .inr ⟨_, _, _, _, _, rfl, HT.pick [] (by decide) [] rfl, fun ⟨s, l, a, hp⟩ => ?_⟩
            obtain ⟨e1, e2, e3, e4⟩ := HB2.out s l a hp
            obtain ⟨e5, Z, e6, e7⟩ := HC2.out l e4 e1
            cases Z with
            | nil => have e8 : rs = [] := e7; rw [e8] at hr0; simp at hr0
            | cons z Z =>
              obtain ⟨_, k9, e9, _⟩ := e7
              rw [HNO.out] at e9
              cases e9
          · obtain ⟨d0, d1, g0, g1⟩ := rdr_cells hS6
            have hnl := rdN_le hsome
            have hkp := rdN_pos hsome
            have hwA : IntKind.i64.wrap ((A : Int) + (n : Int)) = (A : Int) + (n : Int) := IntWalk.i64_in _ (by omega)
            have HSM := Lib.hid (And.intro hsome (And.intro hrd6 hS6))
            have HWS := Lib.hid (HJ.out.join hS6)
            by_cases qb : b.length < A + n
            · have qbi : (b.length : Int) < (A : Int) + (n : Int) := by omega
              have HQB := Lib.hid qb
              have q0 : w6.cell? ⟨w.heap.size, 0, none⟩ = some (.int .i64 0) := HWS.out.cell 3 rfl (List.mem_singleton.2 rfl) 0
              have q1 : w6.cell? ⟨w.heap.size, 1, none⟩ = some (.slice none 0 0) := HWS.out.cell 3 rfl (List.mem_singleton.2 rfl) 1
              have q2 : w6.cell? ⟨w.heap.size, 2, none⟩ = some (.int .i64 0) := HWS.out.cell 3 rfl (List.mem_singleton.2 rfl) 2
              have z0 : w6.frozen? ⟨w.heap.size, 0, none⟩ = false := HWS.out.free 3 rfl (List.mem_singleton.2 rfl) 0
              have z1 : w6.frozen? ⟨w.heap.size, 1, none⟩ = false := HWS.out.free 3 rfl (List.mem_singleton.2 rfl) 1
              have z2 : w6.frozen? ⟨w.heap.size, 2, none⟩ = false := HWS.out.free 3 rfl (List.mem_singleton.2 rfl) 2
              clear hsome hrd6 hS6 g0 g1 qb
              go_wp2_with fail
              have HT := ((HWS.out.store 3 rfl 0 (.int .i64 0)).store 3 rfl 1 (.slice none 0 0)).store 3 rfl 2 (.int .i64 0)
              ((try simp only [Exit.inBlock, Exit.then]); refine bodyPost_ret (results_cell_two rfl _ _ _ _ _ 3 rfl HT rfl Try.underlying63 rfl h63) rfl ?_)
              refine .inr ⟨_, _, _, _, _, rfl, HT.pick [] (by decide) [] rfl, fun ⟨s, l, a, hp⟩ => ?_⟩
              obtain ⟨e1, e2, e3, e4⟩ := HB2.out s l a hp
              obtain ⟨e5, Z, e6, e7⟩ := HC2.out l e4 e1
              cases Z with
              | nil => have e8 : rs = [] := e7; rw [e8] at hr0; simp at hr0
              | cons z Z =>
                obtain ⟨_, k9, e9, _⟩ := e7
                rw [HSM.out.1] at e9
                injection e9 with e9
                injection e9 with e9 _
                obtain ⟨x, k, _, g2, _, _, g5, _⟩ := hp
                have h1 := HQB.out
                have h2 := HA.out
                have h3 := HAT.out.1
                rw [e6, List.sum_append, List.sum_cons, ← e9] at g5
                omega
            · have qbi : ¬ (b.length : Int) < (A : Int) + (n : Int) := by omega
              have HQB := Lib.hid qb
              clear hsome hrd6 hS6 g0 g1 qb
              go_wp2_with fail
              go_roundg ((rs.drop k').length)
              case measure => rw [List.length_drop]; omega
              case rel =>
                have hsn : at0 + (ls ++ [n]).sum = A + n := by rw [List.sum_append, HA.out]; simp; omega
                refine ⟨rs.drop k', false, sv6, ls ++ [n], _, c4, rfl, ?_, HSM.out.2.1, (fun e => by cases e), ?_, ?_, HSM.out.2.2, .inr ?_, Lib.hid fun _ => ?_, Lib.hid fun Y hY hbf => ?_⟩
                · rw [hsn]; push_cast; rfl
                · rw [List.length_append, List.length_drop, List.length_singleton]; omega
                · have h4 := H4.out.1
                  rw [placesP_snoc, iv_append, List.length_append, List.length_singleton, ← HA.out]
                  exact h4
                · rw [hsn]; have := HQB.out; omega
                · have hbd : bd = false := by
                    cases bd with
                    | false => rfl
                    | true => have := (HBD.out.1 rfl).1; rw [this] at hr0; simp at hr0
                  obtain ⟨e1, e2⟩ := HC1.out hbd
                  refine ⟨e1, fun Y hY => ?_⟩
                  rw [List.append_assoc, List.singleton_append]
                  exact e2 _ ⟨fun e => by rw [e] at hr0; simp at hr0, k', HSM.out.1, hY⟩
                · obtain ⟨e5, Z, e6, e7⟩ := HC2.out Y hY hbf
                  refine ⟨rfl, ?_⟩
                  cases Z with
                  | nil => have e8 : rs = [] := e7; rw [e8] at hr0; simp at hr0
                  | cons z Z =>
                    obtain ⟨_, k9, e9, e10⟩ := e7
                    rw [HSM.out.1] at e9
                    injection e9 with e9
                    injection e9 with e9 e11
                    subst e9 e11
                    exact ⟨Z, by rw [e6, List.append_assoc, List.singleton_append], e10⟩
  · have HJ := Lib.hid ((HS0.out.join hS1).pick [0] (by decide) [[(w.heap.size, .cells #[.int .i64 0, .slice none 0 0, .int .i64 0] 63 (0, 0))]] rfl)
    obtain ⟨h, hh0⟩ : ∃ h : List UInt8, h = [] := ⟨_, rfl⟩
    have hSr : St w1.heap.size w1 (w1.alloc (.cells #[.slice none 0 0, .bool false] 57 (0, 0))) (rdrC w1.heap.size (.slice none 0 0) false :: []) := (St.init w1).alloc _
    have HSR := Lib.hid hSr
    have HF := Lib.hid hf
    have hhl : h.length ≤ 1000000 := by rw [hh0]; exact Nat.zero_le _
    have hn0 : rdN [] 1099511627776 = none := rfl
    clear hf hS1 hSr
    go_wp2_with fail
    refine (rnum_any w1.heap.size _ false [] 1099511627776 (by decide) (fun h => by cases h) (Rd.nil _ _) HSR.out (by decide)).mono ?_
    rintro e w2 (⟨hnone, rfl, hS2⟩ | ⟨size, k, sv, hsome, rfl, hrd2, hS2⟩)
    case inl =>
      obtain ⟨rest, Hrest⟩ : ∃ rest : List UInt8, Hid (rest = []) := ⟨_, Lib.hid rfl⟩
      obtain ⟨sv, Hsv⟩ : ∃ sv : Value, Hid (sv = .slice none 0 0) := ⟨_, Lib.hid rfl⟩
      obtain ⟨bad, Hbad⟩ : ∃ bad : Bool, Hid (bad = true) := ⟨_, Lib.hid rfl⟩
      obtain ⟨size, Hsize⟩ : ∃ size : Nat, Hid (size = 0) := ⟨_, Lib.hid rfl⟩
      obtain ⟨at0, HAE⟩ : ∃ at0 : Nat, Hid (at0 = 0) := ⟨_, Lib.hid rfl⟩
      have HAT : Hid (at0 ≤ b.length ∧ (bad = false → at0 = 12 + h.length)) := Lib.hid ⟨by rw [HAE.out]; exact Nat.zero_le _, fun e => by rw [Hbad.out] at e; cases e⟩
      have HAV : Hid (Value.int .i64 0 = .int .i64 ((at0 + ([] : List Nat).sum : Nat) : Int)) := Lib.hid (by rw [HAE.out]; simp)
      have hrd2 : Rd w1 1 sv rest.length (bv rest) := by rw [Hsv.out, Hrest.out]; exact Rd.nil _ _
      rw [← Hsv.out, ← Hbad.out] at hS2
      have HB0 : Hid (bad = true → rest = []) := Lib.hid (fun _ => Hrest.out)
      have HSZ : Hid (size ≤ 1099511627776) := Lib.hid (by rw [Hsize.out]; omega)
      have HB1 : Hid (bad = false → firstP b = some h ∧ ∃ k, rdN h 1099511627776 = some (size, k) ∧ NumsR (h.drop k) = NumsR rest) := Lib.hid (fun e => by rw [Hbad.out] at e; cases e)
      have HB2 : Hid (∀ s l a, PlanR b s l a → bad = false ∧ s = size ∧ a = at0 ∧ NumsR rest l) := Lib.hid (by
        rintro s l a ⟨h', k', g1, g2, g3, _⟩
        rw [HF.out] at g1
        cases g1)
      have hrl : rest.length ≤ h.length := by rw [Hrest.out]; exact Nat.zero_le _
      clear hnone hn0 hh0
      obtain ⟨d0, d1, _, _⟩ := rdr_cells hS2
      obtain ⟨ao2, cap2, rfl⟩ := hrd2.shape
      have HR2 := Lib.hid hrd2
      have hS3 := hS2.alloc (.cells #[.int .i64 0, .slice none 0 0, .int .i64 0] 63 (0, 0))
      go_wp2_with fail
      obtain ⟨w3, HW3⟩ : ∃ w3, Hid (w3 = w2.alloc (.cells #[.int .i64 0, .slice none 0 0, .int .i64 0] 63 (0, 0))) := ⟨_, Lib.hid rfl⟩
      rw [← HW3.out] at hS3 ⊢
      have HS3 : Hid (St w1.heap.size w1 w3 [[(w2.heap.size, .cells #[.int .i64 (size : Int), .slice none 0 0, .int .i64 0] 63 (0, 0))], rdrC w1.heap.size (.slice ao2 rest.length cap2) bad]) := Lib.hid (by
        have := hS3
        rw [Hsize.out]; exact this)
      clear hS2 hrd2 hS3 HW3 d0 d1
      go_loopg [5] rest.length (fun gf s5 wr => ∃ (rs : List UInt8) (bd : Bool) (sv : Value) (ls : List Nat) (pv : Value) (pc : List (Nat × Obj)), rs.length = gf ∧ s5 = .int .i64 ((at0 + ls.sum : Nat) : Int) ∧ Rd w1 1 sv rs.length (bv rs) ∧ (bd = true → rs = [] ∧ ls = []) ∧ ls.length + rs.length ≤ h.length ∧
        RowC 3 1 pv ls.length (iv (placesP at0 ls)) pc ∧ St w1.heap.size w1 wr [rdrC w1.heap.size sv bd, [(w2.heap.size, .cells #[.int .i64 (size : Int), pv, .int .i64 0] 63 (0, 0))], pc] ∧
        (ls = [] ∨ at0 + ls.sum ≤ b.length) ∧ Hid (bd = false → bad = false ∧ ∀ Y, NumsR rs Y → NumsR rest (ls ++ Y)) ∧ Hid (∀ Y, NumsR rest Y → bad = false → bd = false ∧ ∃ Z, Y = ls ++ Z ∧ NumsR rs Z))
      case atStart =>
        refine ⟨rest, bad, _, [], .slice none 0 0, [], rfl, HAV.out, HR2.out, fun e => ⟨HB0.out e, rfl⟩, ?_, RowC.nil _ _, ?_, .inl rfl, ?_, ?_⟩
        · simpa using hrl
        · exact (HS3.out.one_nil).pick [2, 1, 0] (by decide) _ rfl
        · exact Lib.hid fun e => ⟨e, fun Y h => h⟩
        · exact Lib.hid fun Y h e => ⟨e, Y, rfl, h⟩
      case round =>
        obtain ⟨rs, bd, sv, ls, pv, pc, hgf, rfl, hrd, hbd, hll, hpr, hS, hle, HC1, HC2⟩ := hrel
        obtain ⟨A, HA⟩ : ∃ A, Hid (A = at0 + ls.sum) := ⟨_, Lib.hid rfl⟩
        rw [← HA.out] at hle ⊢
        obtain ⟨aos, caps, rfl⟩ := hrd.shape
        obtain ⟨aop, capp, rfl⟩ := hpr.shape
        obtain ⟨d0, d1, g0, g1⟩ := rdr_cells hS
        have k80 : wr.cell? ⟨w2.heap.size, 0, none⟩ = some (.int .i64 (size : Int)) := hS.cell 1 rfl (List.mem_singleton.2 rfl) 0
        have k81 : wr.cell? ⟨w2.heap.size, 1, none⟩ = some (.slice aop ls.length capp) := hS.cell 1 rfl (List.mem_singleton.2 rfl) 1
        have k82 : wr.cell? ⟨w2.heap.size, 2, none⟩ = some (.int .i64 0) := hS.cell 1 rfl (List.mem_singleton.2 rfl) 2
        have f82 : wr.frozen? ⟨w2.heap.size, 2, none⟩ = false := hS.free 1 rfl (List.mem_singleton.2 rfl) 2
        have HS := Lib.hid (And.intro hrd (And.intro hpr hS))
        have HBD := Lib.hid (And.intro hbd hle)
        clear hrd hpr hS g0 g1 hbd hle
        cases gk with
        | zero =>
          have hr0 : rs = [] := List.eq_nil_of_length_eq_zero hgf
          subst hr0
          clear hgf
          have HN : Hid (∀ s l a, PlanR b s l a → bd = false ∧ s = size ∧ l = ls ∧ a = at0) := Lib.hid (by
            intro s l a hp
            obtain ⟨e1, e2, e3, e4⟩ := HB2.out s l a hp
            obtain ⟨e5, Z, e6, e7⟩ := HC2.out l e4 e1
            have e8 : Z = [] := by
              cases Z with
              | nil => rfl
              | cons z Z => exact absurd rfl e7.1
            rw [e8, List.append_nil] at e6
            exact ⟨e5, e2, e6, e3⟩)
          have HP : Hid (bd = false → A = b.length → ls.length = (size + 999) / 1000 → PlanR b size ls at0) := Lib.hid (by
            intro e1 e2 e3
            obtain ⟨e4, e5⟩ := HC1.out e1
            obtain ⟨eF, k, e6, e7⟩ := HB1.out e4
            have e8 := e5 [] rfl
            rw [List.append_nil] at e8
            exact ⟨h, k, eF, HAT.out.2 e4, e6, by rw [e7]; exact e8, by rw [← HA.out, e2], e3⟩)
          go_wp2_with fail
          have hS9 := HS.out.2.2.store 1 rfl 2 (.int .i64 (A : Int))
          obtain ⟨w9, HW9⟩ : ∃ w9, Hid (w9 = wr.setCell ⟨w2.heap.size, 2, none⟩ (.int .i64 (A : Int))) := ⟨_, Lib.hid rfl⟩
          rw [← HW9.out] at hS9 ⊢
          replace hS9 : St w1.heap.size w1 w9 [rdrC w1.heap.size (.slice aos 0 caps) bd, [(w2.heap.size, .cells #[.int .i64 (size : Int), .slice aop ls.length capp, .int .i64 (A : Int)] 63 (0, 0))], pc] := hS9
          have HSJ := Lib.hid (HJ.out.join hS9)
          have s0 : w9.cell? ⟨w2.heap.size, 0, none⟩ = some (.int .i64 (size : Int)) := hS9.cell 1 rfl (List.mem_singleton.2 rfl) 0
          have s1 : w9.cell? ⟨w2.heap.size, 1, none⟩ = some (.slice aop ls.length capp) := hS9.cell 1 rfl (List.mem_singleton.2 rfl) 1
          have s2 : w9.cell? ⟨w2.heap.size, 2, none⟩ = some (.int .i64 (A : Int)) := hS9.cell 1 rfl (List.mem_singleton.2 rfl) 2
          have s3 : w9.cell? ⟨w1.heap.size, 1, none⟩ = some (.bool bd) := hS9.cell 0 rfl (List.mem_singleton.2 rfl) 1
          have HCELL : Hid (∀ w' : World, ReadS w1.heap.size w2.heap.size size A (.slice aop ls.length capp) bd w' → w'.cell? ⟨w2.heap.size, 0, none⟩ = some (.int .i64 (size : Int)) ∧ w'.cell? ⟨w2.heap.size, 1, none⟩ = some (.slice aop ls.length capp) ∧ w'.cell? ⟨w2.heap.size, 2, none⟩ = some (.int .i64 (A : Int)) ∧ w'.cell? ⟨w1.heap.size, 1, none⟩ = some (.bool bd)) := Lib.hid (fun _ h => h)
          have HS0123 : Hid (ReadS w1.heap.size w2.heap.size size A (.slice aop ls.length capp) bd w9.drew) := Lib.hid ⟨s0, s1, s2, s3⟩
          clear s0 s1 s2 s3 hS9 k80 k81 k82 f82 d0 d1
          refine wp_region_held_drew (S := ReadS w1.heap.size w2.heap.size size A (.slice aop ls.length capp) bd) mixed HS0123.out (fun hSS => ?_)
          cases bd with
          | true =>
            refine take_d (i := 0) 50 (.agg #[.int .i64 (size : Int), .slice aop ls.length capp, .int .i64 (A : Int)]) rfl rfl (by kernel_rfl) (by kernel_rfl) (by kernel_rfl) (fun _ _ _ h => h) (Or.inl ⟨by rfl, ?_⟩) hSS ?_
            (focus (intro w' hw'; have hb1 := HCELL.out w' hw'; obtain ⟨hb1, hb2, hb3, hb4⟩ := hb1; first | (go_simp; done) | (go_simp; simp [qx0, qx1, qx2]; done)))
            simp only [Act.put, List.setIfInBounds_toArray, List.set_cons_zero, List.set_cons_succ]
            refine take_d (i := 1) 51 (.pointer (some ⟨w1.heap.size, 0, none⟩)) rfl rfl (by kernel_rfl) (by kernel_rfl) (by kernel_rfl) (fun _ _ _ h => h) (Or.inl ⟨by rfl, ?_⟩) hSS ?_
            (focus (intro w' hw'; have hb1 := HCELL.out w' hw'; obtain ⟨hb1, hb2, hb3, hb4⟩ := hb1; first | (go_simp; done) | (go_simp; simp [qx0, qx1, qx2]; done)))
            simp only [Act.put, List.setIfInBounds_toArray, List.set_cons_zero, List.set_cons_succ]
            refine take_d (i := 2) 52 (.pointer (some ⟨w1.heap.size, 0, none⟩)) rfl rfl (by kernel_rfl) (by kernel_rfl) (by kernel_rfl) (fun _ _ _ h => h) (Or.inl ⟨by rfl, ?_⟩) hSS ?_
            (focus (intro w' hw'; have hb1 := HCELL.out w' hw'; obtain ⟨hb1, hb2, hb3, hb4⟩ := hb1; first | (go_simp; done) | (go_simp; simp [qx0, qx1, qx2]; done)))
            simp only [Act.put, List.setIfInBounds_toArray, List.set_cons_zero, List.set_cons_succ]
            refine take_d (i := 3) 53 (.pointer (some ⟨w1.heap.size, 1, none⟩)) rfl rfl (by kernel_rfl) (by kernel_rfl) (by kernel_rfl) (fun _ _ _ h => h) (Or.inl ⟨by rfl, ?_⟩) hSS ?_
            (focus (intro w' hw'; have hb1 := HCELL.out w' hw'; obtain ⟨hb1, hb2, hb3, hb4⟩ := hb1; first | (go_simp; done) | (go_simp; simp [qx0, qx1, qx2]; done)))
            simp only [Act.put, List.setIfInBounds_toArray, List.set_cons_zero, List.set_cons_succ]
            refine take_d (i := 4) 54 (.bool true) rfl rfl (by kernel_rfl) (by kernel_rfl) (by kernel_rfl) (fun _ _ _ h => h) (Or.inl ⟨by rfl, ?_⟩) hSS ?_
            (focus (intro w' hw'; have hb1 := HCELL.out w' hw'; obtain ⟨hb1, hb2, hb3, hb4⟩ := hb1; first | (go_simp; done) | (go_simp; simp [qx0, qx1, qx2]; done)))
            simp only [Act.put, List.setIfInBounds_toArray, List.set_cons_zero, List.set_cons_succ]
            refine take_d (i := 5) 55 (.bool false) rfl rfl (by kernel_rfl) (by kernel_rfl) (by kernel_rfl) (fun _ _ _ h => h) (Or.inl ⟨by rfl, ?_⟩) hSS ?_
            (focus (intro w' hw'; have hb1 := HCELL.out w' hw'; obtain ⟨hb1, hb2, hb3, hb4⟩ := hb1; first | (go_simp; done) | (go_simp; simp [qx0, qx1, qx2]; done)))
            simp only [Act.put, List.setIfInBounds_toArray, List.set_cons_zero, List.set_cons_succ]
            refine take_d (i := 6) 56 (.bool false) rfl rfl (by kernel_rfl) (by kernel_rfl) (by kernel_rfl) (fun _ _ _ h => h) (Or.inl ⟨by rfl, ?_⟩) hSS ?_
            (focus (intro w' hw'; have hb1 := HCELL.out w' hw'; obtain ⟨hb1, hb2, hb3, hb4⟩ := hb1; first | (go_simp; done) | (go_simp; simp [qx0, qx1, qx2]; done)))
            simp only [Act.put, List.setIfInBounds_toArray, List.set_cons_zero, List.set_cons_succ]
            refine take_d (i := 7) 57 (undef) rfl rfl (by kernel_rfl) (by kernel_rfl) (by kernel_rfl) (fun _ _ _ h => h) (Or.inr ⟨by rfl, rfl⟩) hSS ?_
            simp only [Act.put, List.setIfInBounds_toArray, List.set_cons_zero, List.set_cons_succ]
            refine take_d (i := 8) 58 (undef) rfl rfl (by kernel_rfl) (by kernel_rfl) (by kernel_rfl) (fun _ _ _ h => h) (Or.inr ⟨by rfl, rfl⟩) hSS ?_
            simp only [Act.put, List.setIfInBounds_toArray, List.set_cons_zero, List.set_cons_succ]
            refine take_d (i := 9) 59 (undef) rfl rfl (by kernel_rfl) (by kernel_rfl) (by kernel_rfl) (fun _ _ _ h => h) (Or.inr ⟨by rfl, rfl⟩) hSS ?_
            simp only [Act.put, List.setIfInBounds_toArray, List.set_cons_zero, List.set_cons_succ]
            refine take_d (i := 10) 60 (undef) rfl rfl (by kernel_rfl) (by kernel_rfl) (by kernel_rfl) (fun _ _ _ h => h) (Or.inr ⟨by rfl, rfl⟩) hSS ?_
            simp only [Act.put, List.setIfInBounds_toArray, List.set_cons_zero, List.set_cons_succ]
            refine take_d (i := 11) 61 (.bool false) rfl rfl (by kernel_rfl) (by kernel_rfl) (by kernel_rfl) (fun _ _ _ h => h) (Or.inl ⟨by rfl, ?_⟩) hSS ?_
            (focus (intro w' hw'; have hb1 := HCELL.out w' hw'; obtain ⟨hb1, hb2, hb3, hb4⟩ := hb1; first | (go_simp; done) | (go_simp; simp [qx0, qx1, qx2]; done)))
            simp only [Act.put, List.setIfInBounds_toArray, List.set_cons_zero, List.set_cons_succ]
            refine take_d (i := 12) 62 (.bool false) rfl rfl (by kernel_rfl) (by kernel_rfl) (by kernel_rfl) (fun _ _ _ h => h) (Or.inl ⟨by rfl, ?_⟩) hSS ?_
            (focus (intro w' hw'; have hb1 := HCELL.out w' hw'; obtain ⟨hb1, hb2, hb3, hb4⟩ := hb1; first | (go_simp; done) | (go_simp; simp [qx0, qx1, qx2]; done)))
            simp only [Act.put, List.setIfInBounds_toArray, List.set_cons_zero, List.set_cons_succ]
            refine take_d (i := 13) 63 (undef) rfl rfl (by kernel_rfl) (by kernel_rfl) (by kernel_rfl) (fun _ _ _ h => h) (Or.inr ⟨by rfl, rfl⟩) hSS ?_
            simp only [Act.put, List.setIfInBounds_toArray, List.set_cons_zero, List.set_cons_succ]
            refine take_d (i := 14) 64 (undef) rfl rfl (by kernel_rfl) (by kernel_rfl) (by kernel_rfl) (fun _ _ _ h => h) (Or.inr ⟨by rfl, rfl⟩) hSS ?_
            simp only [Act.put, List.setIfInBounds_toArray, List.set_cons_zero, List.set_cons_succ]
            refine take_d (i := 15) 65 (undef) rfl rfl (by kernel_rfl) (by kernel_rfl) (by kernel_rfl) (fun _ _ _ h => h) (Or.inr ⟨by rfl, rfl⟩) hSS ?_
            simp only [Act.put, List.setIfInBounds_toArray, List.set_cons_zero, List.set_cons_succ]
            refine take_d (i := 16) 66 (undef) rfl rfl (by kernel_rfl) (by kernel_rfl) (by kernel_rfl) (fun _ _ _ h => h) (Or.inr ⟨by rfl, rfl⟩) hSS ?_
            simp only [Act.put, List.setIfInBounds_toArray, List.set_cons_zero, List.set_cons_succ]
            refine take_d (i := 17) 67 (undef) rfl rfl (by kernel_rfl) (by kernel_rfl) (by kernel_rfl) (fun _ _ _ h => h) (Or.inr ⟨by rfl, rfl⟩) hSS ?_
            simp only [Act.put, List.setIfInBounds_toArray, List.set_cons_zero, List.set_cons_succ]
            refine take_d (i := 18) 68 (undef) rfl rfl (by kernel_rfl) (by kernel_rfl) (by kernel_rfl) (fun _ _ _ h => h) (Or.inr ⟨by rfl, rfl⟩) hSS ?_
            simp only [Act.put, List.setIfInBounds_toArray, List.set_cons_zero, List.set_cons_succ]
            refine take_d (i := 19) 69 (undef) rfl rfl (by kernel_rfl) (by kernel_rfl) (by kernel_rfl) (fun _ _ _ h => h) (Or.inr ⟨by rfl, rfl⟩) hSS ?_
            simp only [Act.put, List.setIfInBounds_toArray, List.set_cons_zero, List.set_cons_succ]
            refine take_d (i := 20) 70 (undef) rfl rfl (by kernel_rfl) (by kernel_rfl) (by kernel_rfl) (fun _ _ _ h => h) (Or.inr ⟨by rfl, rfl⟩) hSS ?_
            simp only [Act.put, List.setIfInBounds_toArray, List.set_cons_zero, List.set_cons_succ]
            refine take_d (i := 21) 71 (.bool false) rfl rfl (by kernel_rfl) (by kernel_rfl) (by kernel_rfl) (fun _ _ _ h => h) (Or.inl ⟨by rfl, ?_⟩) hSS ?_
            (focus (intro w' hw'; have hb1 := HCELL.out w' hw'; obtain ⟨hb1, hb2, hb3, hb4⟩ := hb1; first | (go_simp; done) | (go_simp; simp [qx0, qx1, qx2]; done)))
            simp only [Act.put, List.setIfInBounds_toArray, List.set_cons_zero, List.set_cons_succ]
            obtain ⟨W, HWE⟩ : ∃ W, W = w9.drew := ⟨_, rfl⟩
            have HWS := HSJ.out.drew
            rw [← HWE] at HWS hSS ⊢
            clear HWE
            have q0 : W.cell? ⟨w.heap.size, 0, none⟩ = some (.int .i64 0) := HWS.cell 3 rfl (List.mem_singleton.2 rfl) 0
            have q1 : W.cell? ⟨w.heap.size, 1, none⟩ = some (.slice none 0 0) := HWS.cell 3 rfl (List.mem_singleton.2 rfl) 1
            have q2 : W.cell? ⟨w.heap.size, 2, none⟩ = some (.int .i64 0) := HWS.cell 3 rfl (List.mem_singleton.2 rfl) 2
            have z0 : W.frozen? ⟨w.heap.size, 0, none⟩ = false := HWS.free 3 rfl (List.mem_singleton.2 rfl) 0
            have z1 : W.frozen? ⟨w.heap.size, 1, none⟩ = false := HWS.free 3 rfl (List.mem_singleton.2 rfl) 1
            have z2 : W.frozen? ⟨w.heap.size, 2, none⟩ = false := HWS.free 3 rfl (List.mem_singleton.2 rfl) 2
            refine wpAnyH_ready (rs := [22]) (by kernel_rfl) (by simp) (AllReadyH.cons rfl (fun K2 hK2 => ?_) AllReadyH.nil)
            rw [if_pos (by rfl)]
            go_simp
            have hT := ((HWS.store 3 rfl 0 (.int .i64 (size : Int))).store 3 rfl 1 (.slice aop ls.length capp)).store 3 rfl 2 (.int .i64 (A : Int))
            have HT := Lib.hid hT
            refine hK2.out _ _ ⟨hT.cell 1 rfl (List.mem_singleton.2 rfl) 0, hT.cell 1 rfl (List.mem_singleton.2 rfl) 1, hT.cell 1 rfl (List.mem_singleton.2 rfl) 2, hT.cell 0 rfl (List.mem_singleton.2 rfl) 1⟩ (fun hSS => ?_)
            clear q0 q1 q2 z0 z1 z2 hT
            refine wpAnyH_ready (rs := [23]) (by kernel_rfl) (by simp) (AllReadyH.cons rfl (fun K3 hK3 => ?_) AllReadyH.nil)
            rw [if_pos (by rfl)]
            go_simp
            refine hK3.out _ _ hSS (fun _ => ?_)
            refine wpAnyH_done (by kernel_rfl) ?_ _
            go_wp2_with fail
            ((try simp only [Exit.inBlock, Exit.then]); refine bodyPost_ret (results_cell_two rfl _ _ _ _ _ 3 rfl HT.out rfl Try.underlying63 rfl h63) rfl ?_)
            exact .inr ⟨_, _, _, _, _, rfl, HT.out.pick [] (by decide) [] rfl, fun ⟨s, l, a, hp⟩ => by have h1 := (HN.out s l a hp).1; cases h1⟩
          | false =>
            have hsz2 : (size : Int) ≤ 1099511627776 := by have := HSZ.out; omega
            have qd : (((size : Int) + 1000 - 1).tdiv 1000) = (((size + 999) / 1000 : Nat) : Int) := by
              rw [show (size : Int) + 1000 - 1 = ((size + 999 : Nat) : Int) from by omega]
              exact (Int.ofNat_tdiv (size + 999) 1000).symm
            have qd2 : (((size : Int) + 999).tdiv 1000) = (((size + 999) / 1000 : Nat) : Int) := by
              rw [show (size : Int) + 999 = ((size + 999 : Nat) : Int) from by omega]
              exact (Int.ofNat_tdiv (size + 999) 1000).symm
            have qw3 : IntKind.i64.wrap (((size : Int) + 999) / 1000) = ((size : Int) + 999) / 1000 := IntWalk.i64_in _ (by omega)
            have qx1 := qd
            have qx0 := qd2
            have qw1 : IntKind.i64.wrap ((size : Int) + 1000) = (size : Int) + 1000 := IntWalk.i64_in _ (by omega)
            have qw2 : IntKind.i64.wrap ((size : Int) + 1000 - 1) = (size : Int) + 1000 - 1 := IntWalk.i64_in _ (by omega)
            by_cases qa : A = b.length
            · have HQ := Lib.hid qa
              have qx2 : ((A : Int) == (b.length : Int)) = true := by rw [beq_iff_eq]; omega
              clear qa
              refine take_d (i := 0) 50 (.agg #[.int .i64 (size : Int), .slice aop ls.length capp, .int .i64 (A : Int)]) rfl rfl (by kernel_rfl) (by kernel_rfl) (by kernel_rfl) (fun _ _ _ h => h) (Or.inl ⟨by rfl, ?_⟩) hSS ?_
              (focus (intro w' hw'; have hb1 := HCELL.out w' hw'; obtain ⟨hb1, hb2, hb3, hb4⟩ := hb1; first | (go_simp; done) | (go_simp; simp [qx0, qx1, qx2]; done)))
              simp only [Act.put, List.setIfInBounds_toArray, List.set_cons_zero, List.set_cons_succ]
              refine take_d (i := 1) 51 (.pointer (some ⟨w1.heap.size, 0, none⟩)) rfl rfl (by kernel_rfl) (by kernel_rfl) (by kernel_rfl) (fun _ _ _ h => h) (Or.inl ⟨by rfl, ?_⟩) hSS ?_
              (focus (intro w' hw'; have hb1 := HCELL.out w' hw'; obtain ⟨hb1, hb2, hb3, hb4⟩ := hb1; first | (go_simp; done) | (go_simp; simp [qx0, qx1, qx2]; done)))
              simp only [Act.put, List.setIfInBounds_toArray, List.set_cons_zero, List.set_cons_succ]
              refine take_d (i := 2) 52 (.pointer (some ⟨w1.heap.size, 0, none⟩)) rfl rfl (by kernel_rfl) (by kernel_rfl) (by kernel_rfl) (fun _ _ _ h => h) (Or.inl ⟨by rfl, ?_⟩) hSS ?_
              (focus (intro w' hw'; have hb1 := HCELL.out w' hw'; obtain ⟨hb1, hb2, hb3, hb4⟩ := hb1; first | (go_simp; done) | (go_simp; simp [qx0, qx1, qx2]; done)))
              simp only [Act.put, List.setIfInBounds_toArray, List.set_cons_zero, List.set_cons_succ]
              refine take_d (i := 3) 53 (.pointer (some ⟨w1.heap.size, 1, none⟩)) rfl rfl (by kernel_rfl) (by kernel_rfl) (by kernel_rfl) (fun _ _ _ h => h) (Or.inl ⟨by rfl, ?_⟩) hSS ?_
              (focus (intro w' hw'; have hb1 := HCELL.out w' hw'; obtain ⟨hb1, hb2, hb3, hb4⟩ := hb1; first | (go_simp; done) | (go_simp; simp [qx0, qx1, qx2]; done)))
              simp only [Act.put, List.setIfInBounds_toArray, List.set_cons_zero, List.set_cons_succ]
              refine take_d (i := 4) 54 (.bool false) rfl rfl (by kernel_rfl) (by kernel_rfl) (by kernel_rfl) (fun _ _ _ h => h) (Or.inl ⟨by rfl, ?_⟩) hSS ?_
              (focus (intro w' hw'; have hb1 := HCELL.out w' hw'; obtain ⟨hb1, hb2, hb3, hb4⟩ := hb1; first | (go_simp; done) | (go_simp; simp [qx0, qx1, qx2]; done)))
              simp only [Act.put, List.setIfInBounds_toArray, List.set_cons_zero, List.set_cons_succ]
              refine take_d (i := 5) 55 (.bool true) rfl rfl (by kernel_rfl) (by kernel_rfl) (by kernel_rfl) (fun _ _ _ h => h) (Or.inl ⟨by rfl, ?_⟩) hSS ?_
              (focus (intro w' hw'; have hb1 := HCELL.out w' hw'; obtain ⟨hb1, hb2, hb3, hb4⟩ := hb1; first | (go_simp; done) | (go_simp; simp [qx0, qx1, qx2]; done)))
              simp only [Act.put, List.setIfInBounds_toArray, List.set_cons_zero, List.set_cons_succ]
              refine take_d (i := 6) 56 (.bool true) rfl rfl (by kernel_rfl) (by kernel_rfl) (by kernel_rfl) (fun _ _ _ h => h) (Or.inl ⟨by rfl, ?_⟩) hSS ?_
              (focus (intro w' hw'; have hb1 := HCELL.out w' hw'; obtain ⟨hb1, hb2, hb3, hb4⟩ := hb1; first | (go_simp; done) | (go_simp; simp [qx0, qx1, qx2]; done)))
              simp only [Act.put, List.setIfInBounds_toArray, List.set_cons_zero, List.set_cons_succ]
              refine take_d (i := 7) 57 (.int .i64 (A : Int)) rfl rfl (by kernel_rfl) (by kernel_rfl) (by kernel_rfl) (fun _ _ _ h => h) (Or.inl ⟨by rfl, ?_⟩) hSS ?_
              (focus (intro w' hw'; have hb1 := HCELL.out w' hw'; obtain ⟨hb1, hb2, hb3, hb4⟩ := hb1; first | (go_simp; done) | (go_simp; simp [qx0, qx1, qx2]; done)))
              simp only [Act.put, List.setIfInBounds_toArray, List.set_cons_zero, List.set_cons_succ]
              refine take_d (i := 8) 58 (.slice ao b.length cap) rfl rfl (by kernel_rfl) (by kernel_rfl) (by kernel_rfl) (fun _ _ _ h => h) (Or.inl ⟨by rfl, ?_⟩) hSS ?_
              (focus (intro w' hw'; have hb1 := HCELL.out w' hw'; obtain ⟨hb1, hb2, hb3, hb4⟩ := hb1; first | (go_simp; done) | (go_simp; simp [qx0, qx1, qx2]; done)))
              simp only [Act.put, List.setIfInBounds_toArray, List.set_cons_zero, List.set_cons_succ]
              refine take_d (i := 9) 59 (.int .i64 (b.length : Int)) rfl rfl (by kernel_rfl) (by kernel_rfl) (by kernel_rfl) (fun _ _ _ h => h) (Or.inl ⟨by rfl, ?_⟩) hSS ?_
              (focus (intro w' hw'; have hb1 := HCELL.out w' hw'; obtain ⟨hb1, hb2, hb3, hb4⟩ := hb1; first | (go_simp; done) | (go_simp; simp [qx0, qx1, qx2]; done)))
              simp only [Act.put, List.setIfInBounds_toArray, List.set_cons_zero, List.set_cons_succ]
              refine take_d (i := 10) 60 (.bool true) rfl rfl (by kernel_rfl) (by kernel_rfl) (by kernel_rfl) (fun _ _ _ h => h) (Or.inl ⟨by rfl, ?_⟩) hSS ?_
              (focus (intro w' hw'; have hb1 := HCELL.out w' hw'; obtain ⟨hb1, hb2, hb3, hb4⟩ := hb1; first | (go_simp; done) | (go_simp; simp [qx0, qx1, qx2]; done)))
              simp only [Act.put, List.setIfInBounds_toArray, List.set_cons_zero, List.set_cons_succ]
              refine take_d (i := 11) 61 (.bool true) rfl rfl (by kernel_rfl) (by kernel_rfl) (by kernel_rfl) (fun _ _ _ h => h) (Or.inl ⟨by rfl, ?_⟩) hSS ?_
              (focus (intro w' hw'; have hb1 := HCELL.out w' hw'; obtain ⟨hb1, hb2, hb3, hb4⟩ := hb1; first | (go_simp; done) | (go_simp; simp [qx0, qx1, qx2]; done)))
              simp only [Act.put, List.setIfInBounds_toArray, List.set_cons_zero, List.set_cons_succ]
              refine take_d (i := 12) 62 (.bool true) rfl rfl (by kernel_rfl) (by kernel_rfl) (by kernel_rfl) (fun _ _ _ h => h) (Or.inl ⟨by rfl, ?_⟩) hSS ?_
              (focus (intro w' hw'; have hb1 := HCELL.out w' hw'; obtain ⟨hb1, hb2, hb3, hb4⟩ := hb1; first | (go_simp; done) | (go_simp; simp [qx0, qx1, qx2]; done)))
              simp only [Act.put, List.setIfInBounds_toArray, List.set_cons_zero, List.set_cons_succ]
              refine take_d (i := 13) 63 (.agg #[.int .i64 (size : Int), .slice aop ls.length capp, .int .i64 (A : Int)]) rfl rfl (by kernel_rfl) (by kernel_rfl) (by kernel_rfl) (fun _ _ _ h => h) (Or.inl ⟨by rfl, ?_⟩) hSS ?_
              (focus (intro w' hw'; have hb1 := HCELL.out w' hw'; obtain ⟨hb1, hb2, hb3, hb4⟩ := hb1; first | (go_simp; done) | (go_simp; simp [qx0, qx1, qx2]; done)))
              simp only [Act.put, List.setIfInBounds_toArray, List.set_cons_zero, List.set_cons_succ]
              refine take_d (i := 15) 65 (.pointer (some ⟨w2.heap.size, 0, none⟩)) rfl rfl (by kernel_rfl) (by kernel_rfl) (by kernel_rfl) (fun _ _ _ h => h) (Or.inl ⟨by rfl, ?_⟩) hSS ?_
              (focus (intro w' hw'; have hb1 := HCELL.out w' hw'; obtain ⟨hb1, hb2, hb3, hb4⟩ := hb1; first | (go_simp; done) | (go_simp; simp [qx0, qx1, qx2]; done)))
              simp only [Act.put, List.setIfInBounds_toArray, List.set_cons_zero, List.set_cons_succ]
              refine take_d (i := 16) 66 (.int .i64 (size : Int)) rfl rfl (by kernel_rfl) (by kernel_rfl) (by kernel_rfl) (fun _ _ _ h => h) (Or.inl ⟨by rfl, ?_⟩) hSS ?_
              (focus (intro w' hw'; have hb1 := HCELL.out w' hw'; obtain ⟨hb1, hb2, hb3, hb4⟩ := hb1; first | (go_simp; done) | (go_simp; simp [qx0, qx1, qx2]; done)))
              simp only [Act.put, List.setIfInBounds_toArray, List.set_cons_zero, List.set_cons_succ]
              refine take_d (i := 17) 67 (.int .i64 ((size : Int) + 1000)) rfl rfl (by kernel_rfl) (by kernel_rfl) (by kernel_rfl) (fun _ _ _ h => h) (Or.inl ⟨by rfl, ?_⟩) hSS ?_
              (focus (intro w' hw'; have hb1 := HCELL.out w' hw'; obtain ⟨hb1, hb2, hb3, hb4⟩ := hb1; first | (go_simp; done) | (go_simp; simp [qx0, qx1, qx2]; done)))
              simp only [Act.put, List.setIfInBounds_toArray, List.set_cons_zero, List.set_cons_succ]
              refine take_d (i := 18) 68 (.int .i64 ((size : Int) + 1000 - 1)) rfl rfl (by kernel_rfl) (by kernel_rfl) (by kernel_rfl) (fun _ _ _ h => h) (Or.inl ⟨by rfl, ?_⟩) hSS ?_
              (focus (intro w' hw'; have hb1 := HCELL.out w' hw'; obtain ⟨hb1, hb2, hb3, hb4⟩ := hb1; first | (go_simp; done) | (go_simp; simp [qx0, qx1, qx2]; done)))
              simp only [Act.put, List.setIfInBounds_toArray, List.set_cons_zero, List.set_cons_succ]
              refine take_d (i := 19) 69 (.int .i64 (((size : Int) + 999) / 1000)) rfl rfl (by kernel_rfl) (by kernel_rfl) (by kernel_rfl) (fun _ _ _ h => h) (Or.inl ⟨by rfl, ?_⟩) hSS ?_
              (focus (intro w' hw'; have hb1 := HCELL.out w' hw'; obtain ⟨hb1, hb2, hb3, hb4⟩ := hb1; first | (go_simp; done) | (go_simp; simp [qx0, qx1, qx2]; done)))
              simp only [Act.put, List.setIfInBounds_toArray, List.set_cons_zero, List.set_cons_succ]
              refine wpAnyH_ready (rs := [14]) (by kernel_rfl) (by simp) (AllReadyH.cons rfl (fun K1 hK1 => ?_) AllReadyH.nil)
              rw [if_pos (by rfl)]
              go_simp
              refine (ctnum_any (size : Int) (A : Int) aop ls.length capp _).mono ?_
              rintro e wn ⟨rfl, o, rfl⟩
              have HSA := Lib.hid (HSJ.out.drew.alloc' o)
              refine hK1.out _ _ ⟨HSA.out.cell 1 rfl (List.mem_singleton.2 rfl) 0, HSA.out.cell 1 rfl (List.mem_singleton.2 rfl) 1, HSA.out.cell 1 rfl (List.mem_singleton.2 rfl) 2, HSA.out.cell 0 rfl (List.mem_singleton.2 rfl) 1⟩ (fun hSS => ?_)
              try simp only [Act.put, List.setIfInBounds_toArray, List.set_cons_zero, List.set_cons_succ]
              by_cases qc : ls.length = (size + 999) / 1000
              · have qx0 : ((ls.length : Int) == ((size : Int) + 999) / 1000) = true := by rw [beq_iff_eq]; omega
                have HQC := Lib.hid qc
                clear qc
                refine take_d (i := 20) 70 (.bool true) rfl rfl (by kernel_rfl) (by kernel_rfl) (by kernel_rfl) (fun _ _ _ h => h) (Or.inl ⟨by rfl, ?_⟩) hSS ?_
                (focus (intro w' hw'; have hb1 := HCELL.out w' hw'; obtain ⟨hb1, hb2, hb3, hb4⟩ := hb1; first | (go_simp; done) | (go_simp; simp [qx0, qx1, qx2]; done)))
                simp only [Act.put, List.setIfInBounds_toArray, List.set_cons_zero, List.set_cons_succ]
                refine take_d (i := 21) 71 (.bool true) rfl rfl (by kernel_rfl) (by kernel_rfl) (by kernel_rfl) (fun _ _ _ h => h) (Or.inl ⟨by rfl, ?_⟩) hSS ?_
                (focus (intro w' hw'; have hb1 := HCELL.out w' hw'; obtain ⟨hb1, hb2, hb3, hb4⟩ := hb1; first | (go_simp; done) | (go_simp; simp [qx0, qx1, qx2]; done)))
                simp only [Act.put, List.setIfInBounds_toArray, List.set_cons_zero, List.set_cons_succ]
                obtain ⟨W, HWE⟩ : ∃ W, W = w9.drew.alloc o := ⟨_, rfl⟩
                have HWS := HSA.out
                rw [← HWE] at HWS hSS ⊢
                clear HWE
                have q0 : W.cell? ⟨w.heap.size, 0, none⟩ = some (.int .i64 0) := HWS.cell 3 rfl (List.mem_singleton.2 rfl) 0
                have q1 : W.cell? ⟨w.heap.size, 1, none⟩ = some (.slice none 0 0) := HWS.cell 3 rfl (List.mem_singleton.2 rfl) 1
                have q2 : W.cell? ⟨w.heap.size, 2, none⟩ = some (.int .i64 0) := HWS.cell 3 rfl (List.mem_singleton.2 rfl) 2
                have z0 : W.frozen? ⟨w.heap.size, 0, none⟩ = false := HWS.free 3 rfl (List.mem_singleton.2 rfl) 0
                have z1 : W.frozen? ⟨w.heap.size, 1, none⟩ = false := HWS.free 3 rfl (List.mem_singleton.2 rfl) 1
                have z2 : W.frozen? ⟨w.heap.size, 2, none⟩ = false := HWS.free 3 rfl (List.mem_singleton.2 rfl) 2
                refine wpAnyH_ready (rs := [22]) (by kernel_rfl) (by simp) (AllReadyH.cons rfl (fun K2 hK2 => ?_) AllReadyH.nil)
                rw [if_pos (by rfl)]
                go_simp
                have hT := ((HWS.store 3 rfl 0 (.int .i64 (size : Int))).store 3 rfl 1 (.slice aop ls.length capp)).store 3 rfl 2 (.int .i64 (A : Int))
                have HT := Lib.hid hT
                refine hK2.out _ _ ⟨hT.cell 1 rfl (List.mem_singleton.2 rfl) 0, hT.cell 1 rfl (List.mem_singleton.2 rfl) 1, hT.cell 1 rfl (List.mem_singleton.2 rfl) 2, hT.cell 0 rfl (List.mem_singleton.2 rfl) 1⟩ (fun hSS => ?_)
                clear q0 q1 q2 z0 z1 z2 hT
                refine wpAnyH_ready (rs := [23]) (by kernel_rfl) (by simp) (AllReadyH.cons rfl (fun K3 hK3 => ?_) AllReadyH.nil)
                rw [if_pos (by rfl)]
                go_simp
                refine hK3.out _ _ hSS (fun _ => ?_)
                refine wpAnyH_done (by kernel_rfl) ?_ _
                go_wp2_with fail
                ((try simp only [Exit.inBlock, Exit.then]); refine bodyPost_ret (results_cell_two rfl _ _ _ _ _ 3 rfl HT.out rfl Try.underlying63 rfl h63) rfl ?_)
                exact .inl ⟨size, ls, at0, _, pc, HP.out (by first | trivial | rfl) HQ.out HQC.out, by rw [HQ.out]; rfl, HS.out.2.1, (HT.out.pick [2] (by decide) _ rfl)⟩
              · have qx0 : ((ls.length : Int) == ((size : Int) + 999) / 1000) = false := by rw [beq_eq_false_iff_ne]; omega
                have HQC := Lib.hid qc
                clear qc
                refine take_d (i := 20) 70 (.bool false) rfl rfl (by kernel_rfl) (by kernel_rfl) (by kernel_rfl) (fun _ _ _ h => h) (Or.inl ⟨by rfl, ?_⟩) hSS ?_
                (focus (intro w' hw'; have hb1 := HCELL.out w' hw'; obtain ⟨hb1, hb2, hb3, hb4⟩ := hb1; first | (go_simp; done) | (go_simp; simp [qx0, qx1, qx2]; done)))
                simp only [Act.put, List.setIfInBounds_toArray, List.set_cons_zero, List.set_cons_succ]
                refine take_d (i := 21) 71 (.bool false) rfl rfl (by kernel_rfl) (by kernel_rfl) (by kernel_rfl) (fun _ _ _ h => h) (Or.inl ⟨by rfl, ?_⟩) hSS ?_
                (focus (intro w' hw'; have hb1 := HCELL.out w' hw'; obtain ⟨hb1, hb2, hb3, hb4⟩ := hb1; first | (go_simp; done) | (go_simp; simp [qx0, qx1, qx2]; done)))
                simp only [Act.put, List.setIfInBounds_toArray, List.set_cons_zero, List.set_cons_succ]
                obtain ⟨W, HWE⟩ : ∃ W, W = w9.drew.alloc o := ⟨_, rfl⟩
                have HWS := HSA.out
                rw [← HWE] at HWS hSS ⊢
                clear HWE
                have q0 : W.cell? ⟨w.heap.size, 0, none⟩ = some (.int .i64 0) := HWS.cell 3 rfl (List.mem_singleton.2 rfl) 0
                have q1 : W.cell? ⟨w.heap.size, 1, none⟩ = some (.slice none 0 0) := HWS.cell 3 rfl (List.mem_singleton.2 rfl) 1
                have q2 : W.cell? ⟨w.heap.size, 2, none⟩ = some (.int .i64 0) := HWS.cell 3 rfl (List.mem_singleton.2 rfl) 2
                have z0 : W.frozen? ⟨w.heap.size, 0, none⟩ = false := HWS.free 3 rfl (List.mem_singleton.2 rfl) 0
                have z1 : W.frozen? ⟨w.heap.size, 1, none⟩ = false := HWS.free 3 rfl (List.mem_singleton.2 rfl) 1
                have z2 : W.frozen? ⟨w.heap.size, 2, none⟩ = false := HWS.free 3 rfl (List.mem_singleton.2 rfl) 2
                refine wpAnyH_ready (rs := [22]) (by kernel_rfl) (by simp) (AllReadyH.cons rfl (fun K2 hK2 => ?_) AllReadyH.nil)
                rw [if_pos (by rfl)]
                go_simp
                have hT := ((HWS.store 3 rfl 0 (.int .i64 (size : Int))).store 3 rfl 1 (.slice aop ls.length capp)).store 3 rfl 2 (.int .i64 (A : Int))
                have HT := Lib.hid hT
                refine hK2.out _ _ ⟨hT.cell 1 rfl (List.mem_singleton.2 rfl) 0, hT.cell 1 rfl (List.mem_singleton.2 rfl) 1, hT.cell 1 rfl (List.mem_singleton.2 rfl) 2, hT.cell 0 rfl (List.mem_singleton.2 rfl) 1⟩ (fun hSS => ?_)
                clear q0 q1 q2 z0 z1 z2 hT
                refine wpAnyH_ready (rs := [23]) (by kernel_rfl) (by simp) (AllReadyH.cons rfl (fun K3 hK3 => ?_) AllReadyH.nil)
                rw [if_pos (by rfl)]
                go_simp
                refine hK3.out _ _ hSS (fun _ => ?_)
                refine wpAnyH_done (by kernel_rfl) ?_ _
                go_wp2_with fail
                ((try simp only [Exit.inBlock, Exit.then]); refine bodyPost_ret (results_cell_two rfl _ _ _ _ _ 3 rfl HT.out rfl Try.underlying63 rfl h63) rfl ?_)
                exact .inr ⟨_, _, _, _, _, rfl, HT.out.pick [] (by decide) [] rfl, fun ⟨s, l, a, hp⟩ => by have h1 := HN.out s l a hp; obtain ⟨x, k, _, g2, _, _, g5, g6⟩ := hp; rw [h1.2.2.1, h1.2.1] at g6; exact HQC.out g6⟩
            · have HQ := Lib.hid qa
              have qx2 : ((A : Int) == (b.length : Int)) = false := by rw [beq_eq_false_iff_ne]; omega
              clear qa
              refine take_d (i := 0) 50 (.agg #[.int .i64 (size : Int), .slice aop ls.length capp, .int .i64 (A : Int)]) rfl rfl (by kernel_rfl) (by kernel_rfl) (by kernel_rfl) (fun _ _ _ h => h) (Or.inl ⟨by rfl, ?_⟩) hSS ?_
              (focus (intro w' hw'; have hb1 := HCELL.out w' hw'; obtain ⟨hb1, hb2, hb3, hb4⟩ := hb1; first | (go_simp; done) | (go_simp; simp [qx0, qx1, qx2]; done)))
              simp only [Act.put, List.setIfInBounds_toArray, List.set_cons_zero, List.set_cons_succ]
              refine take_d (i := 1) 51 (.pointer (some ⟨w1.heap.size, 0, none⟩)) rfl rfl (by kernel_rfl) (by kernel_rfl) (by kernel_rfl) (fun _ _ _ h => h) (Or.inl ⟨by rfl, ?_⟩) hSS ?_
              (focus (intro w' hw'; have hb1 := HCELL.out w' hw'; obtain ⟨hb1, hb2, hb3, hb4⟩ := hb1; first | (go_simp; done) | (go_simp; simp [qx0, qx1, qx2]; done)))
              simp only [Act.put, List.setIfInBounds_toArray, List.set_cons_zero, List.set_cons_succ]
              refine take_d (i := 2) 52 (.pointer (some ⟨w1.heap.size, 0, none⟩)) rfl rfl (by kernel_rfl) (by kernel_rfl) (by kernel_rfl) (fun _ _ _ h => h) (Or.inl ⟨by rfl, ?_⟩) hSS ?_
              (focus (intro w' hw'; have hb1 := HCELL.out w' hw'; obtain ⟨hb1, hb2, hb3, hb4⟩ := hb1; first | (go_simp; done) | (go_simp; simp [qx0, qx1, qx2]; done)))
              simp only [Act.put, List.setIfInBounds_toArray, List.set_cons_zero, List.set_cons_succ]
              refine take_d (i := 3) 53 (.pointer (some ⟨w1.heap.size, 1, none⟩)) rfl rfl (by kernel_rfl) (by kernel_rfl) (by kernel_rfl) (fun _ _ _ h => h) (Or.inl ⟨by rfl, ?_⟩) hSS ?_
              (focus (intro w' hw'; have hb1 := HCELL.out w' hw'; obtain ⟨hb1, hb2, hb3, hb4⟩ := hb1; first | (go_simp; done) | (go_simp; simp [qx0, qx1, qx2]; done)))
              simp only [Act.put, List.setIfInBounds_toArray, List.set_cons_zero, List.set_cons_succ]
              refine take_d (i := 4) 54 (.bool false) rfl rfl (by kernel_rfl) (by kernel_rfl) (by kernel_rfl) (fun _ _ _ h => h) (Or.inl ⟨by rfl, ?_⟩) hSS ?_
              (focus (intro w' hw'; have hb1 := HCELL.out w' hw'; obtain ⟨hb1, hb2, hb3, hb4⟩ := hb1; first | (go_simp; done) | (go_simp; simp [qx0, qx1, qx2]; done)))
              simp only [Act.put, List.setIfInBounds_toArray, List.set_cons_zero, List.set_cons_succ]
              refine take_d (i := 5) 55 (.bool true) rfl rfl (by kernel_rfl) (by kernel_rfl) (by kernel_rfl) (fun _ _ _ h => h) (Or.inl ⟨by rfl, ?_⟩) hSS ?_
              (focus (intro w' hw'; have hb1 := HCELL.out w' hw'; obtain ⟨hb1, hb2, hb3, hb4⟩ := hb1; first | (go_simp; done) | (go_simp; simp [qx0, qx1, qx2]; done)))
              simp only [Act.put, List.setIfInBounds_toArray, List.set_cons_zero, List.set_cons_succ]
              refine take_d (i := 6) 56 (.bool true) rfl rfl (by kernel_rfl) (by kernel_rfl) (by kernel_rfl) (fun _ _ _ h => h) (Or.inl ⟨by rfl, ?_⟩) hSS ?_
              (focus (intro w' hw'; have hb1 := HCELL.out w' hw'; obtain ⟨hb1, hb2, hb3, hb4⟩ := hb1; first | (go_simp; done) | (go_simp; simp [qx0, qx1, qx2]; done)))
              simp only [Act.put, List.setIfInBounds_toArray, List.set_cons_zero, List.set_cons_succ]
              refine take_d (i := 7) 57 (.int .i64 (A : Int)) rfl rfl (by kernel_rfl) (by kernel_rfl) (by kernel_rfl) (fun _ _ _ h => h) (Or.inl ⟨by rfl, ?_⟩) hSS ?_
              (focus (intro w' hw'; have hb1 := HCELL.out w' hw'; obtain ⟨hb1, hb2, hb3, hb4⟩ := hb1; first | (go_simp; done) | (go_simp; simp [qx0, qx1, qx2]; done)))
              simp only [Act.put, List.setIfInBounds_toArray, List.set_cons_zero, List.set_cons_succ]
              refine take_d (i := 8) 58 (.slice ao b.length cap) rfl rfl (by kernel_rfl) (by kernel_rfl) (by kernel_rfl) (fun _ _ _ h => h) (Or.inl ⟨by rfl, ?_⟩) hSS ?_
              (focus (intro w' hw'; have hb1 := HCELL.out w' hw'; obtain ⟨hb1, hb2, hb3, hb4⟩ := hb1; first | (go_simp; done) | (go_simp; simp [qx0, qx1, qx2]; done)))
              simp only [Act.put, List.setIfInBounds_toArray, List.set_cons_zero, List.set_cons_succ]
              refine take_d (i := 9) 59 (.int .i64 (b.length : Int)) rfl rfl (by kernel_rfl) (by kernel_rfl) (by kernel_rfl) (fun _ _ _ h => h) (Or.inl ⟨by rfl, ?_⟩) hSS ?_
              (focus (intro w' hw'; have hb1 := HCELL.out w' hw'; obtain ⟨hb1, hb2, hb3, hb4⟩ := hb1; first | (go_simp; done) | (go_simp; simp [qx0, qx1, qx2]; done)))
              simp only [Act.put, List.setIfInBounds_toArray, List.set_cons_zero, List.set_cons_succ]
              refine take_d (i := 10) 60 (.bool false) rfl rfl (by kernel_rfl) (by kernel_rfl) (by kernel_rfl) (fun _ _ _ h => h) (Or.inl ⟨by rfl, ?_⟩) hSS ?_
              (focus (intro w' hw'; have hb1 := HCELL.out w' hw'; obtain ⟨hb1, hb2, hb3, hb4⟩ := hb1; first | (go_simp; done) | (go_simp; simp [qx0, qx1, qx2]; done)))
              simp only [Act.put, List.setIfInBounds_toArray, List.set_cons_zero, List.set_cons_succ]
              refine take_d (i := 11) 61 (.bool false) rfl rfl (by kernel_rfl) (by kernel_rfl) (by kernel_rfl) (fun _ _ _ h => h) (Or.inl ⟨by rfl, ?_⟩) hSS ?_
              (focus (intro w' hw'; have hb1 := HCELL.out w' hw'; obtain ⟨hb1, hb2, hb3, hb4⟩ := hb1; first | (go_simp; done) | (go_simp; simp [qx0, qx1, qx2]; done)))
              simp only [Act.put, List.setIfInBounds_toArray, List.set_cons_zero, List.set_cons_succ]
              refine take_d (i := 12) 62 (.bool false) rfl rfl (by kernel_rfl) (by kernel_rfl) (by kernel_rfl) (fun _ _ _ h => h) (Or.inl ⟨by rfl, ?_⟩) hSS ?_
              (focus (intro w' hw'; have hb1 := HCELL.out w' hw'; obtain ⟨hb1, hb2, hb3, hb4⟩ := hb1; first | (go_simp; done) | (go_simp; simp [qx0, qx1, qx2]; done)))
              simp only [Act.put, List.setIfInBounds_toArray, List.set_cons_zero, List.set_cons_succ]
              refine take_d (i := 13) 63 (undef) rfl rfl (by kernel_rfl) (by kernel_rfl) (by kernel_rfl) (fun _ _ _ h => h) (Or.inr ⟨by rfl, rfl⟩) hSS ?_
              simp only [Act.put, List.setIfInBounds_toArray, List.set_cons_zero, List.set_cons_succ]
              refine take_d (i := 14) 64 (undef) rfl rfl (by kernel_rfl) (by kernel_rfl) (by kernel_rfl) (fun _ _ _ h => h) (Or.inr ⟨by rfl, rfl⟩) hSS ?_
              simp only [Act.put, List.setIfInBounds_toArray, List.set_cons_zero, List.set_cons_succ]
              refine take_d (i := 15) 65 (undef) rfl rfl (by kernel_rfl) (by kernel_rfl) (by kernel_rfl) (fun _ _ _ h => h) (Or.inr ⟨by rfl, rfl⟩) hSS ?_
              simp only [Act.put, List.setIfInBounds_toArray, List.set_cons_zero, List.set_cons_succ]
              refine take_d (i := 16) 66 (undef) rfl rfl (by kernel_rfl) (by kernel_rfl) (by kernel_rfl) (fun _ _ _ h => h) (Or.inr ⟨by rfl, rfl⟩) hSS ?_
              simp only [Act.put, List.setIfInBounds_toArray, List.set_cons_zero, List.set_cons_succ]
              refine take_d (i := 17) 67 (undef) rfl rfl (by kernel_rfl) (by kernel_rfl) (by kernel_rfl) (fun _ _ _ h => h) (Or.inr ⟨by rfl, rfl⟩) hSS ?_
              simp only [Act.put, List.setIfInBounds_toArray, List.set_cons_zero, List.set_cons_succ]
              refine take_d (i := 18) 68 (undef) rfl rfl (by kernel_rfl) (by kernel_rfl) (by kernel_rfl) (fun _ _ _ h => h) (Or.inr ⟨by rfl, rfl⟩) hSS ?_
              simp only [Act.put, List.setIfInBounds_toArray, List.set_cons_zero, List.set_cons_succ]
              refine take_d (i := 19) 69 (undef) rfl rfl (by kernel_rfl) (by kernel_rfl) (by kernel_rfl) (fun _ _ _ h => h) (Or.inr ⟨by rfl, rfl⟩) hSS ?_
              simp only [Act.put, List.setIfInBounds_toArray, List.set_cons_zero, List.set_cons_succ]
              refine take_d (i := 20) 70 (undef) rfl rfl (by kernel_rfl) (by kernel_rfl) (by kernel_rfl) (fun _ _ _ h => h) (Or.inr ⟨by rfl, rfl⟩) hSS ?_
              simp only [Act.put, List.setIfInBounds_toArray, List.set_cons_zero, List.set_cons_succ]
              refine take_d (i := 21) 71 (.bool false) rfl rfl (by kernel_rfl) (by kernel_rfl) (by kernel_rfl) (fun _ _ _ h => h) (Or.inl ⟨by rfl, ?_⟩) hSS ?_
              (focus (intro w' hw'; have hb1 := HCELL.out w' hw'; obtain ⟨hb1, hb2, hb3, hb4⟩ := hb1; first | (go_simp; done) | (go_simp; simp [qx0, qx1, qx2]; done)))
              simp only [Act.put, List.setIfInBounds_toArray, List.set_cons_zero, List.set_cons_succ]
              obtain ⟨W, HWE⟩ : ∃ W, W = w9.drew := ⟨_, rfl⟩
              have HWS := HSJ.out.drew
              rw [← HWE] at HWS hSS ⊢
              clear HWE
              have q0 : W.cell? ⟨w.heap.size, 0, none⟩ = some (.int .i64 0) := HWS.cell 3 rfl (List.mem_singleton.2 rfl) 0
              have q1 : W.cell? ⟨w.heap.size, 1, none⟩ = some (.slice none 0 0) := HWS.cell 3 rfl (List.mem_singleton.2 rfl) 1
              have q2 : W.cell? ⟨w.heap.size, 2, none⟩ = some (.int .i64 0) := HWS.cell 3 rfl (List.mem_singleton.2 rfl) 2
              have z0 : W.frozen? ⟨w.heap.size, 0, none⟩ = false := HWS.free 3 rfl (List.mem_singleton.2 rfl) 0
              have z1 : W.frozen? ⟨w.heap.size, 1, none⟩ = false := HWS.free 3 rfl (List.mem_singleton.2 rfl) 1
              have z2 : W.frozen? ⟨w.heap.size, 2, none⟩ = false := HWS.free 3 rfl (List.mem_singleton.2 rfl) 2
              refine wpAnyH_ready (rs := [22]) (by kernel_rfl) (by simp) (AllReadyH.cons rfl (fun K2 hK2 => ?_) AllReadyH.nil)
              rw [if_pos (by rfl)]
              go_simp
              have hT := ((HWS.store 3 rfl 0 (.int .i64 (size : Int))).store 3 rfl 1 (.slice aop ls.length capp)).store 3 rfl 2 (.int .i64 (A : Int))
              have HT := Lib.hid hT
              refine hK2.out _ _ ⟨hT.cell 1 rfl (List.mem_singleton.2 rfl) 0, hT.cell 1 rfl (List.mem_singleton.2 rfl) 1, hT.cell 1 rfl (List.mem_singleton.2 rfl) 2, hT.cell 0 rfl (List.mem_singleton.2 rfl) 1⟩ (fun hSS => ?_)
              clear q0 q1 q2 z0 z1 z2 hT
              refine wpAnyH_ready (rs := [23]) (by kernel_rfl) (by simp) (AllReadyH.cons rfl (fun K3 hK3 => ?_) AllReadyH.nil)
              rw [if_pos (by rfl)]
              go_simp
              refine hK3.out _ _ hSS (fun _ => ?_)
              refine wpAnyH_done (by kernel_rfl) ?_ _
              go_wp2_with fail
              ((try simp only [Exit.inBlock, Exit.then]); refine bodyPost_ret (results_cell_two rfl _ _ _ _ _ 3 rfl HT.out rfl Try.underlying63 rfl h63) rfl ?_)
              exact .inr ⟨_, _, _, _, _, rfl, HT.out.pick [] (by decide) [] rfl, fun ⟨s, l, a, hp⟩ => by have h1 := HN.out s l a hp; obtain ⟨x, k, _, g2, _, _, g5, _⟩ := hp; rw [h1.2.2.1, h1.2.2.2, ← HA.out] at g5; exact HQ.out g5⟩
        | succ m =>
          have hr0 : 0 < rs.length := by omega
          have hr0i : (0 : Int) < (rs.length : Int) := by omega
          have hAb : A ≤ b.length := by
            rcases HBD.out.2 with e | e
            · rw [HA.out, e]; have := HAT.out.1; simp; omega
            · exact e
          have hrln : rs.length ≤ 1000000 := by omega
          have hS2 := HS.out.2.2
          have hpr2 := HS.out.2.1
          have hlsl : ls.length ≤ 1000000 := by omega
          clear k80 k82 f82
          go_wp2_with ((at_builtin; (refine wpList_app1 2 36 i0 (.int .i64 0) _ _ _ rfl rfl rfl rfl Try.underlying36 i0a i0b i0c i0d rfl hS2 rfl hpr2 rfl ?_ ?_ ?_); (unfold maxLen; omega); omega; intro v4 c4 w4 hr4 hS4); (obtain ⟨ao4, cap4, rfl⟩ := hr4.shape); have m81 : w4.cell? ⟨w2.heap.size, 1, none⟩ = some (.slice aop ls.length capp) := hS4.cell 1 rfl (List.mem_singleton.2 rfl) 1; have n81 : w4.frozen? ⟨w2.heap.size, 1, none⟩ = false := hS4.free 1 rfl (List.mem_singleton.2 rfl) 1; have H4 := Lib.hid (And.intro hr4 hS4); clear hS2 hpr2 hr4 hS4 k81 d0 d1)
          have hS5 := H4.out.2.store 1 rfl 1 (.slice ao4 (ls.length + 1) cap4)
          refine (rnum_any w1.heap.size _ bd rs 1099511627776 (by decide) (fun e => (HBD.out.1 e).1) HS.out.1 hS5 hrln).mono ?_
          clear m81 n81 hS5
          rintro e w6 (⟨hnone, rfl, hS6⟩ | ⟨n, k', sv6, hsome, rfl, hrd6, hS6⟩)
          · obtain ⟨d0, d1, g0, g1⟩ := rdr_cells hS6
            have HWS := Lib.hid (HJ.out.join hS6)
            have q0 : w6.cell? ⟨w.heap.size, 0, none⟩ = some (.int .i64 0) := HWS.out.cell 3 rfl (List.mem_singleton.2 rfl) 0
            have q1 : w6.cell? ⟨w.heap.size, 1, none⟩ = some (.slice none 0 0) := HWS.out.cell 3 rfl (List.mem_singleton.2 rfl) 1
            have q2 : w6.cell? ⟨w.heap.size, 2, none⟩ = some (.int .i64 0) := HWS.out.cell 3 rfl (List.mem_singleton.2 rfl) 2
            have z0 : w6.frozen? ⟨w.heap.size, 0, none⟩ = false := HWS.out.free 3 rfl (List.mem_singleton.2 rfl) 0
            have z1 : w6.frozen? ⟨w.heap.size, 1, none⟩ = false := HWS.out.free 3 rfl (List.mem_singleton.2 rfl) 1
            have z2 : w6.frozen? ⟨w.heap.size, 2, none⟩ = false := HWS.out.free 3 rfl (List.mem_singleton.2 rfl) 2
            have HNO := Lib.hid hnone
            clear hnone hS6 g0 g1
            go_wp2_with fail
            have HT := ((HWS.out.store 3 rfl 0 (.int .i64 0)).store 3 rfl 1 (.slice none 0 0)).store 3 rfl 2 (.int .i64 0)
            ((try simp only [Exit.inBlock, Exit.then]); refine bodyPost_ret (results_cell_two rfl _ _ _ _ _ 3 rfl HT rfl Try.underlying63 rfl h63) rfl ?_)
            refine .inr ⟨_, _, _, _, _, rfl, HT.pick [] (by decide) [] rfl, fun ⟨s, l, a, hp⟩ => ?_⟩
            obtain ⟨e1, e2, e3, e4⟩ := HB2.out s l a hp
            obtain ⟨e5, Z, e6, e7⟩ := HC2.out l e4 e1
            cases Z with
            | nil => have e8 : rs = [] := e7; rw [e8] at hr0; simp at hr0
            | cons z Z =>
              obtain ⟨_, k9, e9, _⟩ := e7
              rw [HNO.out] at e9
              cases e9
          · obtain ⟨d0, d1, g0, g1⟩ := rdr_cells hS6
            have hnl := rdN_le hsome
            have hkp := rdN_pos hsome
            have hwA : IntKind.i64.wrap ((A : Int) + (n : Int)) = (A : Int) + (n : Int) := IntWalk.i64_in _ (by omega)
            have HSM := Lib.hid (And.intro hsome (And.intro hrd6 hS6))
            have HWS := Lib.hid (HJ.out.join hS6)
            by_cases qb : b.length < A + n
            · have qbi : (b.length : Int) < (A : Int) + (n : Int) := by omega
              have HQB := Lib.hid qb
              have q0 : w6.cell? ⟨w.heap.size, 0, none⟩ = some (.int .i64 0) := HWS.out.cell 3 rfl (List.mem_singleton.2 rfl) 0
              have q1 : w6.cell? ⟨w.heap.size, 1, none⟩ = some (.slice none 0 0) := HWS.out.cell 3 rfl (List.mem_singleton.2 rfl) 1
              have q2 : w6.cell? ⟨w.heap.size, 2, none⟩ = some (.int .i64 0) := HWS.out.cell 3 rfl (List.mem_singleton.2 rfl) 2
              have z0 : w6.frozen? ⟨w.heap.size, 0, none⟩ = false := HWS.out.free 3 rfl (List.mem_singleton.2 rfl) 0
              have z1 : w6.frozen? ⟨w.heap.size, 1, none⟩ = false := HWS.out.free 3 rfl (List.mem_singleton.2 rfl) 1
              have z2 : w6.frozen? ⟨w.heap.size, 2, none⟩ = false := HWS.out.free 3 rfl (List.mem_singleton.2 rfl) 2
              clear hsome hrd6 hS6 g0 g1 qb
              go_wp2_with fail
              have HT := ((HWS.out.store 3 rfl 0 (.int .i64 0)).store 3 rfl 1 (.slice none 0 0)).store 3 rfl 2 (.int .i64 0)
              ((try simp only [Exit.inBlock, Exit.then]); refine bodyPost_ret (results_cell_two rfl _ _ _ _ _ 3 rfl HT rfl Try.underlying63 rfl h63) rfl ?_)
              refine .inr ⟨_, _, _, _, _, rfl, HT.pick [] (by decide) [] rfl, fun ⟨s, l, a, hp⟩ => ?_⟩
              obtain ⟨e1, e2, e3, e4⟩ := HB2.out s l a hp
              obtain ⟨e5, Z, e6, e7⟩ := HC2.out l e4 e1
              cases Z with
              | nil => have e8 : rs = [] := e7; rw [e8] at hr0; simp at hr0
              | cons z Z =>
                obtain ⟨_, k9, e9, _⟩ := e7
                rw [HSM.out.1] at e9
                injection e9 with e9
                injection e9 with e9 _
                obtain ⟨x, k, _, g2, _, _, g5, _⟩ := hp
                have h1 := HQB.out
                have h2 := HA.out
                have h3 := HAT.out.1
                rw [e6, List.sum_append, List.sum_cons, ← e9] at g5
                omega
            · have qbi : ¬ (b.length : Int) < (A : Int) + (n : Int) := by omega
              have HQB := Lib.hid qb
              clear hsome hrd6 hS6 g0 g1 qb
              go_wp2_with fail
              go_roundg ((rs.drop k').length)
              case measure => rw [List.length_drop]; omega
              case rel =>
                have hsn : at0 + (ls ++ [n]).sum = A + n := by rw [List.sum_append, HA.out]; simp; omega
                refine ⟨rs.drop k', false, sv6, ls ++ [n], _, c4, rfl, ?_, HSM.out.2.1, (fun e => by cases e), ?_, ?_, HSM.out.2.2, .inr ?_, Lib.hid fun _ => ?_, Lib.hid fun Y hY hbf => ?_⟩
                · rw [hsn]; push_cast; rfl
                · rw [List.length_append, List.length_drop, List.length_singleton]; omega
                · have h4 := H4.out.1
                  rw [placesP_snoc, iv_append, List.length_append, List.length_singleton, ← HA.out]
                  exact h4
                · rw [hsn]; have := HQB.out; omega
                · have hbd : bd = false := by
                    cases bd with
                    | false => rfl
                    | true => have := (HBD.out.1 rfl).1; rw [this] at hr0; simp at hr0
                  obtain ⟨e1, e2⟩ := HC1.out hbd
                  refine ⟨e1, fun Y hY => ?_⟩
                  rw [List.append_assoc, List.singleton_append]
                  exact e2 _ ⟨fun e => by rw [e] at hr0; simp at hr0, k', HSM.out.1, hY⟩
                · obtain ⟨e5, Z, e6, e7⟩ := HC2.out Y hY hbf
                  refine ⟨rfl, ?_⟩
                  cases Z with
                  | nil => have e8 : rs = [] := e7; rw [e8] at hr0; simp at hr0
                  | cons z Z =>
                    obtain ⟨_, k9, e9, e10⟩ := e7
                    rw [HSM.out.1] at e9
                    injection e9 with e9
                    injection e9 with e9 e11
                    subst e9 e11
                    exact ⟨Z, by rw [e6, List.append_assoc, List.singleton_append], e10⟩
    case inr =>
      rw [hn0] at hsome
      cases hsome
end Go.Proofs.Ytdhnmcdgiddhdaa
