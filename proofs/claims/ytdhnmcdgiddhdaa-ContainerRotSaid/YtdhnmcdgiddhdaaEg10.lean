/-
  Texts joined: Bits, BitsR, CodesR, CodesRd, EntText, BwtFor, ZerosRun.
-/
import Derived.Test.YtdhnmcdgiddhdaaEg5
import Derived.Test.YtdhnmcdgiddhdaaEg4
import Derived.WalkSpells
import Derived.Deep.DeepCutAuto
import Derived.BigQuiet
import Derived.Deep.RegionWith
import Derived.WalkLawsBesides
import Derived.Laws.BitsAllLaws
import Derived.Test.YtdhnmcdgiddhdaaEg9
import Derived.Test.YtdhnmcdgiddhdaaEg2
import Derived.Deep.RegionHeld3
/-
  Contracts of the package bits (and of bytes.Clone): what each function does to memory, in the words of Base and PureBits.
-/
set_option linter.unusedVariables false
set_option linter.unusedSimpArgs false
namespace Go.Proofs.Ytdhnmcdgiddhdaa
open Go.RowKit
set_option maxRecDepth 100000

/-- bytes.Clone: the same bytes in memory of its own. -/
theorem clone_some (ad : Addr) (n cap : Nat) (bs : List UInt8) (w : World) (h : Rd w 1 (.slice (some ad) n cap) n (bv bs)) (hn : n ≤ 140737488355328) :
    Calls Try.prog 50 #[.slice (some ad) n cap] w fun e w' => ∃ v c, e = .returned v ∧ RowC 5 1 v n (bv bs) c ∧ St w.heap.size w w' [c] := by
  obtain ⟨i0, i0a, i0b, i0c, i0d⟩ := info_parts infoU8
  go_enter Try.func50, Try.ntmps50
  go_wp2_with (at_builtin; (refine wpList_app 0 22 i0 (.int .u8 0) _ _ rfl rfl rfl rfl Try.underlying22 i0a i0b i0c i0d rfl (by decide) ((St.init w).alloc _) rfl (RowC.fresh w.heap.size [] rfl (Nat.le_refl 0) (Nat.zero_le _) rfl rfl) (h.keep (Below.alloc (Below.refl _ _) (Nat.le_refl _) _)) (bv_one bs) ?_ ?_ ?_); (unfold maxLen; omega); omega; intro v1 c1 w1 hr1 hs1)
  go_ret
  simp only [Nat.zero_add, List.nil_append] at hr1
  exact ⟨v1, c1, rfl, hr1, hs1⟩
theorem clone_any (v : Value) (n : Nat) (bs : List UInt8) (w : World) (h : Rd w 1 v n (bv bs)) (hn : n ≤ 140737488355328) :
    Calls Try.prog 50 #[v] w fun e w' => ∃ v c, e = .returned v ∧ RowC 5 1 v n (bv bs) c ∧ St w.heap.size w w' [c] := by
  obtain ⟨ao, cap, rfl⟩ := h.shape
  cases ao with
  | some ad => exact clone_some ad n cap bs w h hn
  | none =>
    obtain ⟨rfl, rfl, hx⟩ := h.none_iff
    have hbs : bs = [] := by simpa [bv] using hx
    subst hbs
    clear h hx hn
    go_enter Try.func50, Try.ntmps50
    go_wp2
    go_ret
    exact ⟨_, [], rfl, RowC.nil _ _, (St.init w).one_nil⟩

/-- A Writer at block p that holds these bits. -/
def WrC (p : Nat) (bits : List Bool) (c : HL) : Prop :=
  ∃ sv rc cs, c = [(p, Obj.cells #[sv, .int .i64 (bits.length : Int)] 51 (0, 0))] ++ rc ∧ RowC 5 1 sv cs.length (bv cs) rc ∧ cs.length = (bits.length + 7) / 8 ∧ Packed bits cs
/-- A Reader at block p over these bytes, so many bits read. -/
def RdC (p : Nat) (bs : List UInt8) (at_ : Nat) (c : HL) : Prop :=
  ∃ sv rc, c = [(p, Obj.cells #[sv, .int .i64 (at_ : Int)] 106 (0, 0))] ++ rc ∧ RowC 5 1 sv bs.length (bv bs) rc ∧ at_ ≤ 8 * bs.length

section
variable {B : Nat} {w0 w : World} {F : List HL} {c : HL}
theorem wbytes_any (p : Nat) (bits : List Bool) (hS : St B w0 w (c :: F)) (hc : WrC p bits c) (hsm : bits.length ≤ 1099511627776) :
    Calls Try.prog 29 #[.pointer (some ⟨p, 0, none⟩)] w fun e w' => ∃ v c' cs, e = .returned v ∧ RowC 5 1 v cs.length (bv cs) c' ∧ St w.heap.size w w' [c'] ∧ cs.length = (bits.length + 7) / 8 ∧ Packed bits cs := by
  obtain ⟨sv, rc, cs, rfl, hr, hl, hb⟩ := hc
  have h0 := hS.cell 0 rfl (List.mem_append.2 (.inl (List.mem_singleton.2 rfl))) 0
  have hrd := hr.rd hS.split 1 rfl
  have H := Lib.hid (And.intro hl hb)
  have hcl : cs.length ≤ 140737488355328 := by omega
  clear hr hb hl
  go_enter Try.func29, Try.ntmps29
  go_wp2_with (go_at_call 50; refine (clone_any sv cs.length cs w hrd hcl).mono ?_; rintro e w1 ⟨v1, c1, rfl, hr1, hs1⟩)
  go_ret
  exact ⟨v1, c1, cs, rfl, hr1, hs1, H.out.1, H.out.2⟩
theorem put_bad (v k : Int) (pv : Value) (w : World) (h : pv = .pointer none ∨ ((∃ p, pv = .pointer (some ⟨p, 0, none⟩)) ∧ (k < 0 ∨ 64 < k))) :
    Calls Try.prog 27 #[pv, .int .u64 v, .int .i64 k] w fun e w' => e = .returned (.bool false) ∧ w = w' := by
  rcases h with rfl | ⟨⟨p, rfl⟩, h | h⟩
  · go_enter Try.func27, Try.ntmps27
    go_wp2
    go_ret
    exact ⟨rfl, rfl⟩
  · go_enter Try.func27, Try.ntmps27
    go_wp2
    go_ret
    exact ⟨rfl, rfl⟩
  · have h1 : decide (k < 0) = false := by simp; omega
    have h2 : decide (64 < k) = true := by simp; omega
    go_enter Try.func27, Try.ntmps27
    go_wp2
    go_ret
    exact ⟨rfl, rfl⟩
theorem put_byte (b : UInt8) (V : Int) (hV0 : 0 ≤ V) (hV : V ≤ 18446744073709551615) (m s : Nat) (hs : s ≤ 7) :
    bits .or .u8 (b.toNat : Int) (bits .and .u64 (V / 2 ^ m) 1 % 256 * 2 ^ s % 256) = ((setb b (V.toNat.testBit m) s).toNat : Int) := by
  obtain ⟨v, rfl⟩ := Int.eq_ofNat_of_zero_le hV0
  have e1 : ((v : Int) / 2 ^ m) = ((v / 2 ^ m : Nat) : Int) := by simp
  have hle : v / 2 ^ m ≤ v := Nat.div_le_self _ _
  have hbit : v.testBit m = decide (v / 2 ^ m % 2 = 1) := Nat.testBit_eq_decide_div_mod_eq
  rw [e1, Int.toNat_natCast, hbit]
  generalize v / 2 ^ m = q at *
  rw [and_one_u64 _ (by omega) (by omega)]
  have h3 : 2 ^ s ≤ 2 ^ 7 := Nat.pow_le_pow_right (by omega) hs
  have e2 : (q : Int) % 2 % 256 * 2 ^ s % 256 = (((decide (q % 2 = 1)).toNat * 2 ^ s : Nat) : Int) := by
    have h7 : (0 : Int) < 2 ^ s := Int.pow_pos (by omega)
    have h8 : (2 : Int) ^ s ≤ 128 := by have := Int.ofNat_le.2 h3; simpa using this
    by_cases h : q % 2 = 1
    · have h5 : (q : Int) % 2 = 1 := by omega
      rw [h5]
      simp [h]
      omega
    · have h5 : (q : Int) % 2 = 0 := by omega
      rw [h5]
      simp [h]
  rw [e2, u8_or_nat _ _ b.toNat_lt, setb_toNat _ _ _ hs]
  cases decide (q % 2 = 1) <;> simp <;> omega
set_option maxHeartbeats 1000000 in
theorem put_any (p : Nat) (bits : List Bool) (v k : Int) (hS : St B w0 w (c :: F)) (hc : WrC p bits c) (hv0 : 0 ≤ v) (hv : v ≤ 18446744073709551615) (hk0 : 0 ≤ k) (hk : k ≤ 64) (hsm : bits.length ≤ 549755813888) :
    Calls Try.prog 27 #[.pointer (some ⟨p, 0, none⟩), .int .u64 v, .int .i64 k] w fun e w' => e = .returned (.bool true) ∧ ∃ c', WrC p (bits ++ bitsOf v.toNat k.toNat) c' ∧ St B w0 w' (c' :: F) := by
  obtain ⟨i0, i0a, i0b, i0c, i0d⟩ := info_parts infoU8
  have hd1 : decide (k < 0) = false := by simp; omega
  have hd2 : decide (64 < k) = false := by simp; omega
  have HS := Lib.hid hS
  have HC := Lib.hid hc
  clear hS hc
  go_enter Try.func27, Try.ntmps27
  go_wp2
  go_loopg [7] (k.toNat) (fun m s7 wr => s7 = .int .i64 ((m : Int) - 1) ∧ (m : Int) ≤ 64 ∧ ∃ bs c, Hid (bs ++ bitsOf v.toNat m = bits ++ bitsOf v.toNat k.toNat) ∧ WrC p bs c ∧ St B w0 wr (c :: F))
  case atStart => exact ⟨by rw [Int.toNat_of_nonneg hk0], by omega, bits, c, rfl, HC.out, HS.out⟩
  case round =>
    clear HS HC
    obtain ⟨rfl, hm, bs, c, hbs, ⟨sv, rc, cs, rfl, hr, hl, hb⟩, hS⟩ := hrel
    have hlen : bs.length ≤ 1099511627776 := by
      have := congrArg List.length hbs.out
      simp only [List.length_append, bitsOf_length] at this
      omega
    cases gk with
    | zero =>
      have e := hbs.out
      simp only [bitsOf, List.range_zero, List.map_nil, List.append_nil] at e
      have HQ : Hid (WrC p bs ([(p, Obj.cells #[sv, .int .i64 (bs.length : Int)] 51 (0, 0))] ++ rc)) := ⟨sv, rc, cs, rfl, hr, hl, hb⟩
      have E := Lib.hid e
      clear hr hl hb hbs e
      go_wp2
      go_ret
      refine ⟨rfl, _, ?_, hS⟩
      have e := E.out
      simp only [bitsOf, ← e]
      exact HQ
    | succ m =>
      have e : (((m + 1 : Nat) : Int) - 1) = (m : Int) := by omega
      rw [e]
      have hS2 := hS.split
      have h0 : wr.cell? ⟨p, 0, none⟩ = some sv := hS2.cell 0 rfl (List.mem_singleton.2 rfl) 0
      have h1 : wr.cell? ⟨p, 1, none⟩ = some (.int .i64 (bs.length : Int)) := hS2.cell 0 rfl (List.mem_singleton.2 rfl) 1
      have f0 : wr.frozen? ⟨p, 0, none⟩ = false := hS2.free 0 rfl (List.mem_singleton.2 rfl) 0
      have hcl : cs.length ≤ 137438953473 := by omega
      have HL := Lib.hid (And.intro hl hb)
      clear hl hb e hS
      go_upto_if 29 with (fail)
      go_cut [7] (fun s7 wc => s7 = .int .i64 (m : Int) ∧ ∃ sv rc cs, RowC 5 1 sv cs.length (bv cs) rc ∧ Hid (cs.length = bs.length / 8 + 1 ∧ Packed bs cs) ∧ St B w0 wc ([(p, Obj.cells #[sv, .int .i64 (bs.length : Int)] 51 (0, 0))] :: rc :: F))
      case first =>
        by_cases h8 : bs.length % 8 = 0
        · have h8' : ((bs.length : Int) % 8 == 0) = true := by simp; omega
          go_wp2_with ((at_builtin; (refine wpList_app1 1 22 i0 (.int .u8 0) _ _ _ rfl rfl rfl rfl Try.underlying22 i0a i0b i0c i0d rfl hS2 rfl hr rfl ?_ ?_ ?_); (unfold maxLen; omega); omega; intro v1 c1 w1 hr1 hs1); have k0 : w1.cell? ⟨p, 0, none⟩ = some sv := hs1.cell 0 rfl (List.mem_singleton.2 rfl) 0; have g0 : w1.frozen? ⟨p, 0, none⟩ = false := hs1.free 0 rfl (List.mem_singleton.2 rfl) 0; obtain ⟨ao, cap, rfl⟩ := hr1.shape)
          go_meet
          case rel =>
            refine ⟨rfl, _, c1, cs ++ [0], ?_, ?_, hs1.store 0 rfl 0 _⟩
            · simpa [bv] using hr1
            · have := HL.out
              exact ⟨by simp; omega, packed_zero this.2 (by omega)⟩
        · have h8' : ((bs.length : Int) % 8 == 0) = false := by simp; omega
          go_wp2
          go_meet
          case rel =>
            have := HL.out
            exact ⟨rfl, sv, rc, cs, hr, ⟨by omega, this.2⟩, hS2⟩
      case rest =>
        clear hS2 h0 h1 f0 hr HL
        obtain ⟨rfl, sv, rc, cs, hr, HL, hS⟩ := hcut
        obtain ⟨hl, hb⟩ := HL.out
        obtain ⟨g, cap, cur, rfl, _⟩ := hr.form (by omega)
        obtain ⟨b, hbyte⟩ : ∃ b, cs[bs.length / 8]? = some b := ⟨_, List.getElem?_eq_getElem (by omega)⟩
        have hap := hr.apart hS 1 0 rfl rfl (by omega)
        have hgp := hap.1
        have hpg := hap.2
        have h0 : wc.cell? ⟨p, 0, none⟩ = some (.slice (some ⟨g, 0, none⟩) cs.length cap) := hS.cell 0 rfl (List.mem_singleton.2 rfl) 0
        have h1 : wc.cell? ⟨p, 1, none⟩ = some (.int .i64 (bs.length : Int)) := hS.cell 0 rfl (List.mem_singleton.2 rfl) 1
        have f1 : wc.frozen? ⟨p, 1, none⟩ = false := hS.free 0 rfl (List.mem_singleton.2 rfl) 1
        have h2 := hr.cellAt hS 1 rfl (bv_get _ _ _ hbyte)
        have f2 := hr.freeAt hS 1 rfl (bs.length / 8)
        have hix : (bs.length : Int) / 8 < cs.length := by omega
        have HB := Lib.hid hbyte
        clear hl hb hap hbyte
        go_wp2_with (first | ((with_reducible refine wpStill_plain ?_ ?_ (fun _ _ => ?_)); rfl; rfl) | (with_reducible refine wpStill_nil ?_) | ((with_reducible refine wp_draw_tail (id := 8) 25 mixed ?_ (fun _ hK => ?_)); kernel_rfl; simp only [List.take_succ_cons, List.take_zero, List.drop_succ_cons, List.drop_zero] at hK ⊢))
        go_roundg m
        case measure => omega
        case rel =>
          have hl := HL.out
          rw [put_byte b v hv0 hv m _ (by omega)]
          obtain ⟨rc', hr', hS'⟩ := hr.store hS 1 rfl rfl (bs.length / 8) (.int .u8 ((setb b (v.toNat.testBit m) (7 - bs.length % 8)).toNat : Int))
          rw [← bv_set] at hr'
          have hS3 := ((hS'.store 0 rfl 1 (.int .i64 ((bs.length : Int) + 1))).drew).merge
          refine ⟨rfl, by omega, bs ++ [v.toNat.testBit m], _, ?_, ⟨.slice (some ⟨g, 0, none⟩) cs.length cap, rc', cs.set (bs.length / 8) (setb b (v.toNat.testBit m) (7 - bs.length % 8)), ?_, ?_, ?_, packed_set hl.2 _ (by omega) b HB.out⟩, hS3⟩
          · have := hbs.out
            rw [bitsOf_succ] at this
            show bs ++ [v.toNat.testBit m] ++ bitsOf v.toNat m = _
            rw [List.append_assoc]
            exact this
          · simp
          · rw [List.length_set]
            exact hr'
          · simp
            omega
end
theorem wr_new (p : Nat) : WrC p [] [(p, Obj.cells #[.slice none 0 0, .int .i64 0] 51 (0, 0))] :=
  ⟨_, [], [], rfl, RowC.nil _ _, rfl, rfl⟩
end Go.Proofs.Ytdhnmcdgiddhdaa
/-
  Contracts of bits.Reader.
-/
set_option linter.unusedVariables false
set_option linter.unusedSimpArgs false
namespace Go.Proofs.Ytdhnmcdgiddhdaa
open Go.RowKit
set_option maxRecDepth 100000
section
variable {B : Nat} {w0 w : World} {F : List HL} {c : HL}
theorem bread_any (sv : Value) (bs : List UInt8) (h : Rd w 1 sv bs.length (bv bs)) (hn : bs.length ≤ 140737488355328) :
    Calls Try.prog 53 #[sv] w fun e w' => ∃ p c, e = .returned (.pointer (some ⟨p, 0, none⟩)) ∧ RdC p bs 0 c ∧ St w.heap.size w w' [c] := by
  go_enter Try.func53, Try.ntmps53
  go_wp2_with ((go_at_call 50; refine (clone_any sv bs.length bs w h hn).mono ?_; rintro e w1 ⟨v1, c1, rfl, hr1, hs1⟩); obtain ⟨ao, cap, rfl⟩ := hr1.shape)
  go_ret
  exact ⟨w1.heap.size, _, rfl, ⟨_, c1, rfl, hr1, by omega⟩, (hs1.alloc _).merge⟩
theorem left_any (p : Nat) (bs : List UInt8) (at_ : Nat) (hS : St B w0 w (c :: F)) (hc : RdC p bs at_ c) (hn : bs.length ≤ 140737488355328) :
    Calls Try.prog 68 #[.pointer (some ⟨p, 0, none⟩)] w fun e w' => e = .returned (.int .i64 (8 * (bs.length : Int) - at_)) ∧ Drew w w' := by
  obtain ⟨sv, rc, rfl, hr, hl⟩ := hc
  obtain ⟨ao, cap, rfl⟩ := hr.shape
  have h0 : w.cell? ⟨p, 0, none⟩ = some (.slice ao bs.length cap) := hS.cell 0 rfl (List.mem_append.2 (.inl (List.mem_singleton.2 rfl))) 0
  have h1 : w.cell? ⟨p, 1, none⟩ = some (.int .i64 (at_ : Int)) := hS.cell 0 rfl (List.mem_append.2 (.inl (List.mem_singleton.2 rfl))) 1
  clear hr
  go_enter Try.func68, Try.ntmps68
  go_wp2_with (first | ((with_reducible refine wpStill_plain ?_ ?_ (fun _ _ => ?_)); rfl; rfl) | (with_reducible refine wpStill_nil ?_) | ((with_reducible refine wp_draw_all (id := 3) mixed ?_ (fun _ _ => ?_)); kernel_rfl))
  go_ret
  exact ⟨rfl, Drew.one _⟩
theorem left_n (p : Nat) (bs : List UInt8) (at_ n : Nat) (he : at_ + n = 8 * bs.length) (hS : St B w0 w (c :: F)) (hc : RdC p bs at_ c) (hn : bs.length ≤ 140737488355328) :
    Calls Try.prog 68 #[.pointer (some ⟨p, 0, none⟩)] w fun e w' => e = .returned (.int .i64 (n : Int)) ∧ Drew w w' := by
  have e : (n : Int) = 8 * (bs.length : Int) - at_ := by omega
  rw [e]
  exact left_any p bs at_ hS hc hn
theorem left_nil (w : World) : Calls Try.prog 68 #[.pointer none] w fun e w' => e = .returned (.int .i64 0) ∧ w = w' := by
  go_enter Try.func68, Try.ntmps68
  go_wp2
  go_ret
  exact ⟨rfl, rfl⟩
theorem get_bad (p : Nat) (bs : List UInt8) (at_ : Nat) (k : Int) (hS : St B w0 w (c :: F)) (hc : RdC p bs at_ c) (hn : bs.length ≤ 140737488355328) (hk : k < 0 ∨ 64 < k ∨ 8 * (bs.length : Int) - at_ < k) :
    Calls Try.prog 54 #[.pointer (some ⟨p, 0, none⟩), .int .i64 k] w fun e w' => e = .returned (.tuple #[.int .u64 0, .bool false]) ∧ Drew w w' := by
  have hle := hc
  obtain ⟨_, _, _, _, hle⟩ := hle
  by_cases h1 : k < 0
  · go_enter Try.func54, Try.ntmps54
    go_wp2
    go_ret2
    exact ⟨rfl, Drew.refl _⟩
  · have g1 : decide (k < 0) = false := by simp; omega
    by_cases h2 : 64 < k
    · have g2 : decide (64 < k) = true := by simp; omega
      go_enter Try.func54, Try.ntmps54
      go_wp2
      go_ret2
      exact ⟨rfl, Drew.refl _⟩
    · have g2 : decide (64 < k) = false := by simp; omega
      have g3 : decide (8 * (bs.length : Int) - at_ < k) = true := by simp; omega
      go_enter Try.func54, Try.ntmps54
      go_wp2_with (go_at_call 68; refine (left_any p bs at_ hS hc hn).mono ?_; rintro e w1 ⟨rfl, n, rfl⟩)
      go_ret2
      exact ⟨rfl, Drew.mk _ _⟩
theorem get_nil (k : Int) (w : World) : Calls Try.prog 54 #[.pointer none, .int .i64 k] w fun e w' => e = .returned (.tuple #[.int .u64 0, .bool false]) ∧ w = w' := by
  go_enter Try.func54, Try.ntmps54
  go_wp2
  go_ret2
  exact ⟨rfl, rfl⟩
/-- One more bit behind a number. -/
theorem get_step (V : Nat) (b : UInt8) (s : Nat) (hs : s ≤ 7) (hV : V < 9223372036854775808) :
    bits .or .u64 ((V : Int) * 2) (IntKind.u64.wrap (bits .and .u8 ((b.toNat : Int) / 2 ^ s) 1)) = ((2 * V + (b.toNat.testBit s).toNat : Nat) : Int) := by
  have e1 : ((b.toNat : Int) / 2 ^ s) = ((b.toNat / 2 ^ s : Nat) : Int) := by simp
  have hle : b.toNat / 2 ^ s ≤ b.toNat := Nat.div_le_self _ _
  have hb := b.toNat_lt
  have hbit : b.toNat.testBit s = decide (b.toNat / 2 ^ s % 2 = 1) := Nat.testBit_eq_decide_div_mod_eq
  rw [e1, hbit]
  generalize b.toNat / 2 ^ s = q at *
  have e2 : bits .and .u8 (q : Int) 1 = ((q % 2 : Nat) : Int) := by
    have := u8_and_nat q 1 (by omega) (by omega)
    rw [Nat.and_one_is_mod] at this
    exact this
  have e5 : IntKind.u64.wrap ((q % 2 : Nat) : Int) = ((q % 2 : Nat) : Int) := by simp [IntKind.wrap, IntKind.bits, IntKind.signed]; omega
  have e3 : ((V : Int) * 2) = ((2 * V : Nat) : Int) := by omega
  have hq : q % 2 < 2 := Nat.mod_lt _ (by omega)
  rw [e2, e5, e3, u64_or_nat _ _ (by omega) (by omega)]
  have e4 : 2 * V ||| q % 2 = 2 * V + q % 2 := by
    have := Nat.two_pow_add_eq_or_of_lt (i := 1) (b := q % 2) (by omega) V
    simp at this
    exact this.symm
  rw [e4]
  by_cases h : q % 2 = 1 <;> simp [h] <;> omega
theorem valOf_take_succ (l : List Bool) (j : Nat) (x : Bool) (h : l[j]? = some x) : valOf (l.take (j + 1)) = 2 * valOf (l.take j) + x.toNat := by
  have hlt : j < l.length := (List.getElem?_eq_some_iff.1 h).1
  rw [List.take_add_one, h]
  simp [valOf_snoc]
theorem valOf_take_lt (l : List Bool) (j : Nat) (h : j ≤ 63) : valOf (l.take j) < 9223372036854775808 := by
  have h1 := valOf_lt (l.take j)
  have h2 : 2 ^ (l.take j).length ≤ 2 ^ 63 := Nat.pow_le_pow_right (by omega) (by rw [List.length_take]; omega)
  omega
set_option maxHeartbeats 1000000 in
theorem get_any (p : Nat) (bs : List UInt8) (at_ : Nat) (k : Int) (hS : St B w0 w (c :: F)) (hc : RdC p bs at_ c) (hn : bs.length ≤ 140737488355328) (hk0 : 0 ≤ k) (hk : k ≤ 64) (hk2 : k ≤ 8 * (bs.length : Int) - at_) :
    Calls Try.prog 54 #[.pointer (some ⟨p, 0, none⟩), .int .i64 k] w fun e w' => e = .returned (.tuple #[.int .u64 (valOf (((bitsB bs).drop at_).take k.toNat) : Int), .bool true]) ∧ ∃ c', RdC p bs (at_ + k.toNat) c' ∧ St B w0 w' (c' :: F) := by
  have hle := hc
  obtain ⟨_, _, _, _, hle⟩ := hle
  have g1 : decide (k < 0) = false := by simp; omega
  have g2 : decide (64 < k) = false := by simp; omega
  have g3 : decide (8 * (bs.length : Int) - at_ < k) = false := by simp; omega
  have HS := Lib.hid hS
  have HC := Lib.hid hc
  clear hS hc
  go_enter Try.func54, Try.ntmps54
  go_wp2_with (go_at_call 68; refine (left_any p bs at_ HS.out HC.out hn).mono ?_; rintro e w1 ⟨rfl, n, rfl⟩)
  go_loopg [6, 24] (k.toNat) (fun m s6 s24 wr => ∃ j : Nat, (j : Int) + m = k ∧ s24 = .int .i64 (j : Int) ∧ s6 = .int .u64 (valOf (((bitsB bs).drop at_).take j) : Int) ∧ ∃ c, RdC p bs (at_ + j) c ∧ St B w0 wr (c :: F))
  case atStart => exact ⟨0, by rw [Int.toNat_of_nonneg hk0]; simp, rfl, rfl, c, HC.out, HS.out.drewN _⟩
  case round =>
    clear HS HC
    obtain ⟨j, hj, rfl, rfl, c, ⟨sv, rc, rfl, hr, hl⟩, hS⟩ := hrel
    have hjk : (j : Int) ≤ k := by omega
    cases gk with
    | zero =>
      have e : k = (j : Int) := by omega
      subst e
      clear hj
      have HQ := Lib.hid (And.intro hr hl)
      clear hr hl
      go_wp2
      go_ret2
      exact ⟨by simp, _, ⟨sv, rc, rfl, HQ.out.1, HQ.out.2⟩, hS⟩
    | succ m =>
      have hlt : (j : Int) < k := by omega
      obtain ⟨b, hb1, hb2⟩ := bitsB_at (cs := bs) (k := at_ + j) (by omega)
      have hV := valOf_take_lt ((bitsB bs).drop at_) j (by omega)
      have hnext := valOf_take_succ ((bitsB bs).drop at_) j _ (by rw [List.getElem?_drop]; exact hb2)
      have hx := get_step (valOf (((bitsB bs).drop at_).take j)) b (7 - (at_ + j) % 8) (by omega) hV
      rw [← hnext] at hx
      generalize valOf (((bitsB bs).drop at_).take j) = V at *
      have hVi : (V : Int) ≤ 9223372036854775807 := by omega
      obtain ⟨g, cap, cur, rfl, _⟩ := hr.form (by omega)
      have hS2 := hS.split
      have hap := hr.apart hS2 1 0 rfl rfl (by omega)
      have hgp := hap.1
      have hpg := hap.2
      have h0 : wr.cell? ⟨p, 0, none⟩ = some (.slice (some ⟨g, 0, none⟩) bs.length cap) := hS2.cell 0 rfl (List.mem_singleton.2 rfl) 0
      have h1 : wr.cell? ⟨p, 1, none⟩ = some (.int .i64 ((at_ + j : Nat) : Int)) := hS2.cell 0 rfl (List.mem_singleton.2 rfl) 1
      have f1 : wr.frozen? ⟨p, 1, none⟩ = false := hS2.free 0 rfl (List.mem_singleton.2 rfl) 1
      have h2 := hr.cellAt hS2 1 rfl (bv_get _ _ _ hb1)
      have hix : ((at_ : Int) + j) / 8 < bs.length := by omega
      have hax : (at_ : Int) + j ≤ 1125899906842624 := by omega
      have HX := Lib.hid hx
      have HL := Lib.hid hl
      clear hx hnext hb1 hb2 hap hl hV
      go_wp2_with (first | ((with_reducible refine wpStill_plain ?_ ?_ (fun _ _ => ?_)); rfl; rfl) | (with_reducible refine wpStill_nil ?_) | ((with_reducible refine wp_draw_all (id := 6) mixed ?_ (fun _ _ => ?_)); kernel_rfl))
      go_roundg m
      case measure => omega
      case rel =>
        have hS3 := ((hS2.store 0 rfl 1 (.int .i64 ((at_ : Int) + j + 1))).drew).merge
        have hl := HL.out
        refine ⟨j + 1, by omega, by go_num, by rw [HX.out], _, ⟨.slice (some ⟨g, 0, none⟩) bs.length cap, rc, ?_, hr, by omega⟩, hS3⟩
        simp only [List.set_cons_zero, List.setIfInBounds_toArray, List.set_cons_succ]
        rw [show (((at_ + (j + 1) : Nat)) : Int) = (at_ : Int) + j + 1 from by omega]
end
end Go.Proofs.Ytdhnmcdgiddhdaa
/-
  Contracts of codes.reader.symbol and codes.Read.
-/
set_option linter.unusedVariables false
set_option linter.unusedSimpArgs false
namespace Go.Proofs.Ytdhnmcdgiddhdaa
open Go.RowKit
set_option maxRecDepth 100000
/-- A code reader at block q: how many codes there are, the first ones, and the symbols as slices. -/
structure CrOk (w : World) (q : Nat) (l : List Int) (sv : Nat → Value) : Prop where
  n : ∀ k, k < 16 → w.cell? ⟨q, k, none⟩ = some (.int .i64 (cntP l k : Int))
  f : ∀ k, k < 16 → w.cell? ⟨q, 16 + k, none⟩ = some (.int .i64 (fstP l k : Int))
  s : ∀ k, k < 16 → w.cell? ⟨q, 32 + k, none⟩ = some (sv k)
  r : ∀ k, k < 16 → Rd w 1 (sv k) (symsP l k).length (iv (symsP l k))
theorem or_bit (V : Nat) (b : Bool) (h : V < 4611686018427387904) : bits .or .i64 ((V : Int) * 2) (b.toNat : Int) = ((2 * V + b.toNat : Nat) : Int) := by
  have e3 : ((V : Int) * 2) = ((2 * V : Nat) : Int) := by omega
  have hb2 : b.toNat < 2 := by cases b <;> simp
  rw [e3]
  show IntKind.i64.wrap ((BitVec.ofInt 64 ((2 * V : Nat) : Int) ||| BitVec.ofInt 64 (b.toNat : Int)).toNat : Int) = _
  rw [BitVec.toNat_or, ofInt_u64 _ (by omega), ofInt_u64 _ (by omega)]
  have e4 : 2 * V ||| b.toNat = 2 * V + b.toNat := by
    have := Nat.two_pow_add_eq_or_of_lt (i := 1) (b := b.toNat) (by omega) V
    simp at this
    exact this.symm
  rw [e4, IntKind.wrap_i64]
  omega
section
variable {B : Nat} {w0 w : World} {F : List HL} {c : HL}
/-- What one symbol comes to. -/
def symInt (o : Option (Nat × Nat)) : Int := match o with | none => -1 | some (s, _) => (s : Int)
set_option maxHeartbeats 2000000 in
theorem symbol_any (p q : Nat) (l : List Int) (sv : Nat → Value) (bs : List UInt8) (at_ : Nat) (hS : St B w0 w (c :: F)) (hc : RdC p bs at_ c) (hn : bs.length ≤ 140737488355328) (hk : kraftP l ≤ 32768) (hln : l.length ≤ 300)
    (hcr : ∀ w' c', St B w0 w' (c' :: F) → CrOk w' q l sv) :
    Calls Try.prog 69 #[.pointer (some ⟨q, 0, none⟩), .pointer (some ⟨p, 0, none⟩)] w fun e w' => e = .returned (.int .i64 (symInt (symP l 15 0 0 ((bitsB bs).drop at_)))) ∧
      ∃ c' n, RdC p bs (at_ + n) c' ∧ St B w0 w' (c' :: F) ∧ (∀ s m, symP l 15 0 0 ((bitsB bs).drop at_) = some (s, m) → m = n) := by
  have HR := Lib.hid hcr
  have HC := Lib.hid (And.intro hS hc)
  clear hcr hS hc
  go_enter Try.func69, Try.ntmps69
  go_wp2_with fail
  go_loopg [5, 6] 15 (fun m s5 s6 wr => ∃ k v : Nat, k + m = 15 ∧ s6 = .int .i64 ((k : Int) + 1) ∧ s5 = .int .i64 (v : Int) ∧ v < 2 ^ k ∧ ∃ c', RdC p bs (at_ + k) c' ∧ St B w0 wr (c' :: F) ∧ Hid (symP l m k v ((bitsB bs).drop (at_ + k)) = symP l 15 0 0 ((bitsB bs).drop at_)))
  case atStart => exact ⟨0, 0, by omega, rfl, rfl, by simp, c, by simpa using HC.out.2, HC.out.1, Lib.hid (by simp)⟩
  case round =>
    clear HC
    obtain ⟨k, v, hkm, rfl, rfl, hv, c', hc, hS, HE⟩ := hrel
    cases gk with
    | zero =>
      obtain rfl : k = 15 := by omega
      have he := HE.out
      rw [symP] at he
      have HE2 := Lib.hid he
      clear he HE hkm
      go_wp2_with fail
      go_ret
      rw [← HE2.out]
      exact ⟨rfl, c', 15, hc, hS, fun s m h => by cases h⟩
    | succ m =>
      have hk15 : k < 15 := by omega
      have hvb : v < 2 ^ 15 := Nat.lt_of_lt_of_le hv (Nat.pow_le_pow_right (by omega) (by omega))
      go_wp2_with fail
      by_cases hend : 8 * bs.length ≤ at_ + k
      · have hd : (bitsB bs).drop (at_ + k) = [] := List.drop_of_length_le (by rw [bitsB_length]; exact hend)
        have he := HE.out
        rw [hd, symP] at he
        have HE2 := Lib.hid he
        refine (get_bad p bs (at_ + k) 1 hS hc hn (.inr (.inr (by omega)))).mono ?_
        rintro e w2 ⟨rfl, nd, rfl⟩
        clear he hd HE
        go_wp2_with fail
        go_ret
        rw [← HE2.out]
        exact ⟨rfl, c', k, hc, hS.drewN nd, fun s m h => by cases h⟩
      · obtain ⟨b, hb⟩ : ∃ b, (bitsB bs)[at_ + k]? = some b := ⟨_, List.getElem?_eq_getElem (by rw [bitsB_length]; omega)⟩
        obtain ⟨hbl, hb2⟩ := List.getElem?_eq_some_iff.1 hb
        have hd : (bitsB bs).drop (at_ + k) = b :: (bitsB bs).drop (at_ + k + 1) := by rw [List.drop_eq_getElem_cons hbl, hb2]
        have he := HE.out
        have hv1 : (valOf (((bitsB bs).drop (at_ + k)).take (1 : Int).toNat) : Int) = (b.toNat : Int) := by rw [hd]; simp [valOf]
        rw [hd, symP] at he
        have HE2 := Lib.hid he
        refine (get_any p bs (at_ + k) 1 hS hc hn (by omega) (by omega) (by omega)).mono ?_
        rintro e w2 ⟨rfl, c2, hc2, hS2⟩
        rw [hv1]
        have hor := or_bit v b (by omega)
        have hv2 : 2 * v + b.toNat < 2 ^ (k + 1) := by rw [Nat.pow_succ]; cases b <;> simp <;> omega
        have hvb2 : 2 * v + b.toNat < 65536 := by cases b <;> simp <;> omega
        have hcr := HR.out _ _ hS2
        have hn1 := hcr.n (k + 1) (by omega)
        have hf1 := hcr.f (k + 1) (by omega)
        have hs1 := hcr.s (k + 1) (by omega)
        have hsm := fstP_small l hk (k + 1) (by omega)
        have hrd := hcr.r (k + 1) (by omega)
        obtain ⟨N, hN⟩ : ∃ N, 2 * v + b.toNat = N := ⟨_, rfl⟩
        rw [hN] at hor hv2 hvb2 HE2
        have hNi : (N : Int) ≤ 65535 := by omega
        have hb1 : (b.toNat : Int) ≤ 1 := by cases b <;> simp
        have hlook := lookP_syms l (k + 1) N (by omega)
        have HH := Lib.hid (And.intro hv2 hc2)
        have HN := Lib.hid hN
        obtain ⟨aos, caps, hsv⟩ := hrd.shape
        rw [hsv] at hs1 hrd
        clear he hd HE hb hb2 hv1 hc hS hcr hv2 hvb2 hend hbl hc2 hN hsv
        rcases hlook with ⟨hl, hnot⟩ | ⟨s, hl, hge, hlt, hsy⟩
        · have he := HE2.out
          rw [hl] at he
          have HE3 := Lib.hid he
          clear he HE2 hl
          by_cases q1 : N < fstP l (k + 1)
          · go_wp2_with fail
            go_roundg m
            case measure => omega
            case rel => exact ⟨k + 1, N, by omega, by go_num, rfl, HH.out.1, c2, HH.out.2, hS2, Lib.hid (by rw [← HN.out, ← HE3.out, HN.out]; rfl)⟩
          · have q2 : endP l (k + 1) ≤ N := by omega
            have q3 : endP l (k + 1) = fstP l (k + 1) + cntP l (k + 1) := rfl
            have q4 : ¬ (N : Int) - (fstP l (k + 1) : Int) < (cntP l (k + 1) : Int) := by omega
            clear q3
            go_wp2_with fail
            go_roundg m
            case measure => omega
            case rel => exact ⟨k + 1, N, by omega, by go_num, rfl, HH.out.1, c2, HH.out.2, hS2, Lib.hid (by rw [← HN.out, ← HE3.out, HN.out]; rfl)⟩
        · have he := HE2.out
          rw [hl] at he
          have HE3 := Lib.hid he
          clear he HE2 hl
          have q3 : endP l (k + 1) = fstP l (k + 1) + cntP l (k + 1) := rfl
          obtain ⟨j, hj⟩ : ∃ j, N = fstP l (k + 1) + j := ⟨N - fstP l (k + 1), by omega⟩
          have hjI : (N : Int) - (fstP l (k + 1) : Int) = (j : Int) := by omega
          rw [show N - fstP l (k + 1) = j from by omega] at hsy
          have hjc : j < cntP l (k + 1) := by omega
          have hjl : j < (symsP l (k + 1)).length := (List.getElem?_eq_some_iff.1 hsy).1
          obtain ⟨ad, rfl, hcell⟩ := hrd.at (iv_get _ j _ hsy)
          clear q3 hj hsy
          go_wp2_with fail
          go_ret
          rw [← HE3.out]
          refine ⟨rfl, c2, k + 1, HH.out.2, hS2, fun s m h => ?_⟩
          simp at h
          exact h.2.symm
end
end Go.Proofs.Ytdhnmcdgiddhdaa
/-
  Contract of codes.Read.
-/
set_option linter.unusedVariables false
set_option linter.unusedSimpArgs false
namespace Go.Proofs.Ytdhnmcdgiddhdaa
open Go.RowKit
set_option maxRecDepth 100000
theorem wp_build2 {P : Program} {o : Oper} {a : Act} {w : World} {K : Act → World → Prop} {Q : Exit → Act → World → Prop} (t : TypeId) (i1 i2 : Nat) (x1 x2 : Operand) (ho : o.op = .build t #[(i1, x1), (i2, x2)]) (v1 v2 : Value) (h1 : a.eval x1 = v1) (h2 : a.eval x2 = v2) (cells : Array Value)
    (hb : P.built t [(i1, v1), (i2, v2)] = some cells) (h : K (a.put o.dst (.agg cells)) w) : o.wp P a w K Q := by
  subst h1; subst h2
  refine wp_build t _ ho ?_ ?_
  · simp [hb]
  · simpa [hb] using h
/-- The cells of a code reader. -/
def rdrI (n f : Nat → Int) (sl : Nat → Value) : Array Value := arrI n ++ arrI f ++ ((List.range 16).map sl).toArray
theorem rdrI_n (n f : Nat → Int) (sl : Nat → Value) (k : Nat) (h : k < 16) : (rdrI n f sl)[k]? = some (.int .i64 (n k)) := by
  unfold rdrI
  rw [Array.getElem?_append_left (by rw [Array.size_append, arrI_size]; omega), Array.getElem?_append_left (by rw [arrI_size]; exact h), arrI_get _ _ h]
theorem rdrI_f (n f : Nat → Int) (sl : Nat → Value) (k : Nat) (h : k < 16) : (rdrI n f sl)[16 + k]? = some (.int .i64 (f k)) := by
  unfold rdrI
  rw [Array.getElem?_append_left (by rw [Array.size_append, arrI_size, arrI_size]; omega), Array.getElem?_append_right (by rw [arrI_size]; omega), arrI_size, show 16 + k - 16 = k from by omega, arrI_get _ _ h]
theorem rdrI_s (n f : Nat → Int) (sl : Nat → Value) (k : Nat) (h : k < 16) : (rdrI n f sl)[32 + k]? = some (sl k) := by
  unfold rdrI
  rw [Array.getElem?_append_right (by rw [Array.size_append, arrI_size, arrI_size]; omega), Array.size_append, arrI_size, arrI_size, show 32 + k - (16 + 16) = k from by omega]
  simp [h]
theorem rdrI_size (n f : Nat → Int) (sl : Nat → Value) : (rdrI n f sl).size = 48 := by
  unfold rdrI
  rw [Array.size_append, Array.size_append, arrI_size, arrI_size]
  simp
theorem rdrI_set (n f : Nat → Int) (sl : Nat → Value) (k : Nat) (hk : k < 16) (v : Value) : (rdrI n f sl).setIfInBounds (32 + k) v = rdrI n f (fun j => if j = k then v else sl j) := by
  apply Array.ext_getElem?
  intro j
  rw [Array.getElem?_setIfInBounds, rdrI_size]
  by_cases e : 32 + k = j
  · subst e
    rw [if_pos rfl, if_pos (by omega), rdrI_s _ _ _ _ hk, if_pos rfl]
  · rw [if_neg e]
    by_cases h1 : j < 16
    · rw [rdrI_n _ _ _ _ h1, rdrI_n _ _ _ _ h1]
    · by_cases h2 : j < 32
      · obtain ⟨i, rfl⟩ : ∃ i, j = 16 + i := ⟨j - 16, by omega⟩
        rw [rdrI_f _ _ _ _ (by omega), rdrI_f _ _ _ _ (by omega)]
      · obtain ⟨i, rfl⟩ : ∃ i, j = 32 + i := ⟨j - 32, by omega⟩
        by_cases h3 : i < 16
        · rw [rdrI_s _ _ _ _ h3, rdrI_s _ _ _ _ h3, if_neg (by omega)]
        · rw [Array.getElem?_eq_none (by rw [rdrI_size]; omega), Array.getElem?_eq_none (by rw [rdrI_size]; omega)]
theorem built_reader (f g : Nat → Int) : Try.prog.built 110 [(0, .agg (arrI f)), (1, .agg (arrI g))] = some (rdrI f g fun _ => .slice none 0 0) := by kernel_rfl
/-- The heaplets while codes are read: the bits' reader, the codes' reader, its sixteen rows. -/
def rdL (c : HL) (q : Nat) (n f : Nat → Int) (sl : Nat → Value) (cl : Nat → HL) (F : List HL) : List HL := c :: [(q, Obj.cells (rdrI n f sl) 110 (0, 0))] :: ((List.range 16).map cl ++ F)
theorem rdL_row (c : HL) (q : Nat) (n f : Nat → Int) (sl : Nat → Value) (cl : Nat → HL) (F : List HL) (k : Nat) (h : k < 16) : (rdL c q n f sl cl F)[k + 2]? = some (cl k) := by
  unfold rdL
  simp only [List.getElem?_cons_succ]
  rw [List.getElem?_append_left (by simp; exact h)]
  simp [h]
theorem rdL_set (c : HL) (q : Nat) (n f : Nat → Int) (sl : Nat → Value) (cl : Nat → HL) (F : List HL) (k : Nat) (h : k < 16) (c' : HL) : (rdL c q n f sl cl F).set (k + 2) c' = rdL c q n f sl (fun j => if j = k then c' else cl j) F := by
  unfold rdL
  simp only [List.set_cons_succ]
  rw [List.set_append_left _ _ (by simp; exact h)]
  congr 3
  apply List.ext_getElem?
  intro j
  rw [List.getElem?_set]
  by_cases e : k = j
  · subst e; simp [h]
  · rw [if_neg e]
    have e' : ¬ j = k := fun x => e x.symm
    by_cases hj : j < 16 <;> simp [hj, e']
theorem rdL_tail (c c' : HL) (q : Nat) (n f : Nat → Int) (sl : Nat → Value) (cl : Nat → HL) (F : List HL) : c' :: (rdL c q n f sl cl F).tail = rdL c' q n f sl cl F := rfl
theorem St.outer {B : Nat} {w0 w : World} {c : HL} {q : Nat} {n f : Nat → Int} {sl : Nat → Value} {cl : Nat → HL} {F : List HL} (h : St B w0 w (rdL c q n f sl cl F)) : St B w0 w (c :: F) := by
  refine h.reindex (fun i => if i = 0 then 0 else i + 17) (by intro i j; split <;> split <;> omega) _ ?_
  intro i x hi
  cases i with
  | zero => exact hi
  | succ i =>
    rw [if_neg (by omega)]
    unfold rdL
    rw [show i + 1 + 17 = (i + 16) + 2 from by omega]
    simp only [List.getElem?_cons_succ] at hi ⊢
    rw [List.getElem?_append_right (by simp)]
    simpa using hi
/-- The symbols among the first ones, by lengths, as rows. -/
def RowsTo (l : List Int) (i : Nat) (sl : Nat → Value) (cl : Nat → HL) : Prop := ∀ k, k < 16 → RowC 3 1 (sl k) (symsP (l.take i) k).length (iv (symsP (l.take i) k)) (cl k)
theorem RowsTo.step {l : List Int} {i K : Nat} {sl : Nat → Value} {cl : Nat → HL} (h : RowsTo l i sl cl) (hK : l[i]? = some (K : Int)) {v : Value} {c : HL} (hr : RowC 3 1 v ((symsP (l.take i) K).length + 1) (iv (symsP (l.take i) K) ++ [.int .i64 (i : Int)]) c) :
    RowsTo l (i + 1) (fun j => if j = K then v else sl j) (fun j => if j = K then c else cl j) := by
  intro k hk
  have h1 := symsP_take_succ l i k (K : Int) hK
  by_cases e : k = K
  · subst e
    rw [if_pos rfl] at h1
    simp only [if_true]
    rw [h1, iv_append, List.length_append]
    exact hr
  · rw [if_neg (by omega), List.append_nil] at h1
    simp only [if_neg e, h1]
    exact h k hk
theorem rdL_store {B : Nat} {w0 w : World} {a c c1 : HL} {q : Nat} {n f : Nat → Int} {sl : Nat → Value} {cl : Nat → HL} {F : List HL} {K : Nat} (hS : St B w0 w ((a :: rdL c q n f sl cl F).set (K + 2 + 1) c1)) (hK : K < 16) (v : Value) :
    St B w0 (w.setCell ⟨q, 32 + K, none⟩ v) (rdL c q n f (fun j => if j = K then v else sl j) (fun j => if j = K then c1 else cl j) F) := by
  have h1 : St B w0 w (rdL c q n f sl (fun j => if j = K then c1 else cl j) F) := by
    rw [← rdL_set _ _ _ _ _ _ _ K hK]
    exact hS.tl
  have h2 := h1.store 1 rfl (32 + K) v
  rw [rdrI_set _ _ _ _ hK] at h2
  exact h2
theorem rdL_out {B : Nat} {w0 w : World} {cu c : HL} {q : Nat} {n f : Nat → Int} {sl : Nat → Value} {cl : Nat → HL} {F : List HL} (h : St B w0 w (rdL c q n f sl cl (cu :: F))) : St B w0 w (cu :: c :: F) := by
  refine h.reindex (fun i => if i = 0 then 18 else if i = 1 then 0 else i + 17) (by intro i j; split <;> split <;> (try split) <;> (try split) <;> omega) _ ?_
  intro i x hi
  rcases i with _ | _ | i
  · exact hi
  · exact hi
  · rw [if_neg (by omega), if_neg (by omega)]
    unfold rdL
    rw [show i + 1 + 1 + 17 = (i + 17) + 2 from by omega]
    simp only [List.getElem?_cons_succ] at hi ⊢
    rw [List.getElem?_append_right (by simp)]
    simp only [List.length_map, List.length_range]
    rw [show i + 17 - 16 = i + 1 from by omega, List.getElem?_cons_succ]
    exact hi
theorem rdL_cr {B : Nat} {w0 w : World} {l : List Int} {c : HL} {q : Nat} {sl : Nat → Value} {cl : Nat → HL} {F : List HL} (hR : RowsTo l l.length sl cl) (h : St B w0 w (rdL c q (fun k => (cntP l k : Int)) (fun k => (fstP l k : Int)) sl cl F)) : CrOk w q l sl := by
  have h1 := fun k => h.cell 1 rfl (List.mem_singleton.2 rfl) k
  refine ⟨fun k hk => (h1 k).trans (rdrI_n _ _ _ k hk), fun k hk => (h1 _).trans (rdrI_f _ _ _ k hk), fun k hk => (h1 _).trans (rdrI_s _ _ _ k hk), fun k hk => ?_⟩
  have := (hR k hk).rd h _ (rdL_row _ _ _ _ _ _ _ k hk)
  rw [List.take_length] at this
  exact this
section
variable {B : Nat} {w0 w : World} {F : List HL} {c : HL}
theorem St.rangeAt {L : List HL} (hS : St B w0 w L) (i : Nat) {g : Nat} {X : Array Value} {T : TypeId} (hi : L[i]? = some [(g, .cells X T (0, 0))]) : w.rangeAt g 0 X.toList := by
  intro j v hv
  rw [Nat.zero_add, hS.cell i hi (List.mem_singleton.2 rfl) j]
  simpa using hv
theorem read_bad (v : Value) (pv : Value) (l : List Int) (e most : Int) (hS : St B w0 w F) (h : Rd w 1 v l.length (iv l)) (hn : l.length ≤ 1000000) (hb : okLens l = false) :
    Calls Try.prog 55 #[pv, v, .int .i64 e, .int .i64 most] w fun e w' => e = .returned (.tuple #[.slice none 0 0, .int .i64 10]) ∧ St B w0 w' F := by
  have HB := Lib.hid hb
  clear hb
  go_enter Try.func55, Try.ntmps55
  go_wp2_with fail
  refine (counts_any v l w h hn).mono ?_
  rintro e w1 ⟨f, rfl, _, hS1⟩
  rw [HB.out]
  have hS2 := hS1.alloc (.cells (arrI fun _ => 0) 101)
  have hz : (#[.int .i64 0, .int .i64 0, .int .i64 0, .int .i64 0, .int .i64 0, .int .i64 0, .int .i64 0, .int .i64 0, .int .i64 0, .int .i64 0, .int .i64 0, .int .i64 0, .int .i64 0, .int .i64 0, .int .i64 0, .int .i64 0] : Array Value) = arrI (fun _ => 0) := rfl
  go_wp2_with (first | (refine wpList_storeRow 0 101 _ _ rfl rfl rfl rfl (h16 _) (by rw [arrI_size, arrI_size]) (arrI_all _) hS2 rfl ?_; intro w2 hS3))
  go_ret2
  exact ⟨rfl, hS.mono hS3.below⟩
/-- What Read comes to. -/
def RdOut (B : Nat) (w0 : World) (F : List HL) (p : Nat) (bs : List UInt8) (at_ : Nat) (r : Int × List Int × Nat) (x : Ending) (w' : World) : Prop :=
  ∃ u cu, x = .returned (.tuple #[u, .int .i64 r.1]) ∧ RowC 3 1 u r.2.1.length (iv r.2.1) cu ∧ ∃ c' n, RdC p bs (at_ + n) c' ∧ St B w0 w' (cu :: c' :: F) ∧ (r.1 = 0 → at_ + n = r.2.2)
set_option maxHeartbeats 4000000 in
theorem read_any (p : Nat) (v : Value) (l : List Int) (bs : List UInt8) (at_ : Nat) (e most : Int) (hS : St B w0 w (c :: F)) (hc : RdC p bs at_ c) (h : Rd w 1 v l.length (iv l)) (hn : l.length ≤ 300) (hbn : bs.length ≤ 1000000) (hok : okLens l = true) 
    (hv : ∀ w' c', St B w0 w' (c' :: F) → Rd w' 1 v l.length (iv l)) :
    Calls Try.prog 55 #[.pointer (some ⟨p, 0, none⟩), v, .int .i64 e, .int .i64 most] w fun x w' => RdOut B w0 F p bs at_ (readP l e most (8 * bs.length + 1) [] at_ ((bitsB bs).drop at_)) x w' := by
  obtain ⟨i0, i0a, i0b, i0c, i0d⟩ := info_parts infoInt
  have hok2 := (okLens_iff l).1 hok
  have hk := hok2.2.1
  have HOK := Lib.hid hok
  have HALL := Lib.hid hok2.2.2
  obtain ⟨ao, cap, rfl⟩ := h.shape
  have hnl : (l.length : Int) ≤ 300 := by omega
  have HV : Hid (∀ w' c', St B w0 w' (c' :: [] :: F) → Rd w' 1 (.slice ao l.length cap) l.length (iv l)) := Lib.hid fun w' c' h => hv w' c' h.swap.tl
  have HC := Lib.hid hc
  replace hS := hS.one_nil.swap
  clear hok hok2 hv hc
  have hz : (#[.int .i64 0, .int .i64 0, .int .i64 0, .int .i64 0, .int .i64 0, .int .i64 0, .int .i64 0, .int .i64 0, .int .i64 0, .int .i64 0, .int .i64 0, .int .i64 0, .int .i64 0, .int .i64 0, .int .i64 0, .int .i64 0] : Array Value) = arrI (fun _ => 0) := rfl
  go_enter Try.func55, Try.ntmps55
  go_wp2_with fail
  refine (counts_any _ l w h (by omega)).mono ?_
  rintro e w1 ⟨f, rfl, hf, hS1⟩
  rw [HOK.out]
  replace hf := hf HOK.out
  rw [hf]
  clear hf
  have hS2 := hS1.alloc (.cells (arrI fun _ => 0) 101)
  go_wp2_with (first | (refine wpList_storeRow 0 101 _ _ rfl rfl rfl rfl (h16 _) (by rw [arrI_size, arrI_size]) (arrI_all _) hS2 rfl ?_; intro w2 hS3))
  have hrg := St.rangeAt hS3 0 rfl
  have hu := Try.underlying101
  have hi : (Try.prog.info? 101).map (·.size) = some (arrI fun k => (cntP l k : Int)).toList.length := h16 _
  have hr0 : w2.drew.rangeAt w1.heap.size 0 (arrI fun k => (cntP l k : Int)).toList := St.rangeAt hS3.drew 0 rfl
  refine wp_region_held_drew (S := fun w' => w'.rangeAt w1.heap.size 0 (arrI fun k => (cntP l k : Int)).toList) mixed hr0 (fun _ => ?_)
  refine wpAnyH_take (i := 0) (v := .agg ((arrI fun k => (cntP l k : Int)))) rfl (by kernel_rfl) (by kernel_rfl) (by kernel_rfl) (fun _ _ _ h => h) (yieldsIf_load_mid (by rfl) _ _ rfl _ _ rfl ((arrI fun k => (cntP l k : Int))).toList _ (fun w hw => hw) hu rfl hi) hr0 ?_
  simp only [Act.put, List.setIfInBounds_toArray, List.set_cons_zero, List.set_cons_succ]
  refine wpAnyH_take (i := 1) (v := .agg ((arrI fun k => (cntP l k : Int)))) rfl (by kernel_rfl) (by kernel_rfl) (by kernel_rfl) (fun _ _ _ h => h) (yieldsIf_load_mid (by rfl) _ _ rfl _ _ rfl ((arrI fun k => (cntP l k : Int))).toList _ (fun w hw => hw) hu rfl hi) hr0 ?_
  simp only [Act.put, List.setIfInBounds_toArray, List.set_cons_zero, List.set_cons_succ]
  refine wpAnyH_ready (rs := [2]) (by kernel_rfl) (by simp) (AllReadyH.cons rfl (fun K2 hK2 => ?_) AllReadyH.nil)
  rw [if_pos (by rfl)]
  go_simp
  refine (firsts_any l _ hk).mono ?_
  rintro e w3 ⟨rfl, hS4⟩
  have hS5 := (hS.join hS3).drew.mono hS4.below
  refine hK2.out _ _ (St.rangeAt hS5 0 rfl) (fun hx0 => ?_)
  refine wpAnyH_ready (rs := [3]) (by kernel_rfl) (by simp) (AllReadyH.cons rfl (fun K3 hK3 => ?_) AllReadyH.nil)
  rw [if_pos (by rfl)]
  refine wp_build2 _ _ _ _ _ rfl _ _ rfl rfl _ (built_reader _ _) ?_
  refine hK3.out _ _ (St.rangeAt hS5 0 rfl) (fun hx1 => ?_)
  refine wpAnyH_ready (rs := [4]) (by kernel_rfl) (by simp) (AllReadyH.cons rfl (fun K4 hK4 => ?_) AllReadyH.nil)
  rw [if_pos (by rfl)]
  go_simp
  have hS6 := hS5.alloc (.cells (rdrI (fun k => (cntP l k : Int)) (fun k => (fstP l k : Int)) fun _ => .slice none 0 0) 110)
  refine hK4.out _ _ (St.rangeAt hS6 1 rfl) (fun hx2 => ?_)
  refine wpAnyH_ready (rs := [5]) (by kernel_rfl) (by simp) (AllReadyH.cons rfl (fun K5 hK5 => ?_) AllReadyH.nil)
  rw [if_pos (by rfl)]
  go_simp
  refine hK5.out _ _ (St.rangeAt hS6 1 rfl) (fun hx3 => ?_)
  refine wpAnyH_done (by kernel_rfl) ?_ _
  have hS7 : St B w0 _ (rdL c w3.heap.size (fun k => (cntP l k : Int)) (fun k => (fstP l k : Int)) (fun _ => .slice none 0 0) (fun _ => []) ([] :: F)) := (hS6.swap.tl.swap.nils 16)
  have hR0 : RowsTo l 0 (fun _ => .slice none 0 0) (fun _ => []) := fun k _ => by
    simp only [List.take_zero]
    exact RowC.nil _ _
  have HR := Lib.hid (And.intro hR0 hS7)
  clear hS1 hS2 hS3 hS4 hS5 hS6 hS7 hR0 hrg hr0 hS hu hi hz
  clear hx0 hx1 hx2 hx3
  generalize w3.heap.size = q at *
  generalize (World.alloc w3 _) = w4 at *
  have hvw := HV.out w4 c HR.out.2.outer
  go_wp2_with fail
  go_loopg [31] l.length (fun m s31 wr => ∃ i : Nat, i + m = l.length ∧ s31 = .int .i64 (i : Int) ∧ ∃ sl cl, Hid (RowsTo l i sl cl) ∧ St B w0 wr (rdL c q (fun k => (cntP l k : Int)) (fun k => (fstP l k : Int)) sl cl ([] :: F)))
  case atStart => exact ⟨0, by omega, rfl, _, _, Lib.hid HR.out.1, HR.out.2⟩
  case round =>
    clear HR hvw
    obtain ⟨i, hi, rfl, sl, cl, HR, hS⟩ := hrel
    cases gk with
    | zero =>
      obtain rfl : i = l.length := by omega
      clear hi
      go_wp2_with fail
      have HCR : Hid (∀ w' c' cu, St B w0 w' (rdL c' q (fun k => (cntP l k : Int)) (fun k => (fstP l k : Int)) sl cl (cu :: F)) → CrOk w' q l sl) := Lib.hid fun w' c' cu h => rdL_cr HR.out h
      go_loopg [15] (8 * bs.length + 1) (fun m s15 wr => ∃ out n c cu, Hid (RowC 3 1 s15 out.length (iv out) cu ∧ RdC p bs (at_ + n) c ∧ St B w0 wr (rdL c q (fun k => (cntP l k : Int)) (fun k => (fstP l k : Int)) sl cl (cu :: F)) ∧ readP l e most m out (at_ + n) ((bitsB bs).drop (at_ + n)) = readP l e most (8 * bs.length + 1) [] at_ ((bitsB bs).drop at_)) ∧ 8 * bs.length < m + (at_ + n) ∧ out.length ≤ n)
      case atStart => exact ⟨[], 0, c, [], Lib.hid ⟨RowC.nil _ _, HC.out, hS, by simp⟩, by omega, by simp⟩
      case round =>
        clear hS
        obtain ⟨out, n, c2, cu, HQ, hm, hon⟩ := hrel
        have hle : at_ + n ≤ 8 * bs.length := by
          obtain ⟨_, _, _, _, h⟩ := HQ.out.2.1
          exact h
        have hol : (out.length : Int) ≤ 8000000 := by omega
        have hr := HQ.out.1
        obtain ⟨ao5, cap5, rfl⟩ := hr.shape
        cases gk with
        | zero => omega
        | succ m =>
          by_cases q1 : most ≤ (out.length : Int)
          · have he := HQ.out.2.2.2
            rw [readP, if_pos q1] at he
            have HE := Lib.hid he
            clear he
            go_wp2_with fail
            go_ret2
            rw [← HE.out]
            exact ⟨_, [], rfl, RowC.nil _ _, c2, n, HQ.out.2.1, (rdL_out HQ.out.2.2.1).tl.one_nil, fun h => by cases h⟩
          · have he := HQ.out.2.2.2
            rw [readP, if_neg q1] at he
            have HE := Lib.hid he
            clear he
            go_wp2_with fail
            refine (symbol_any p q l sl bs (at_ + n) HQ.out.2.2.1 HQ.out.2.1 (by omega) hk hn (fun w' c' h => HCR.out w' c' cu h)).mono ?_
            rintro e w6 ⟨rfl, c3, n3, hc3, hS3, hn3⟩
            replace hS3 : St B w0 w6 (rdL c3 q (fun k => (cntP l k : Int)) (fun k => (fstP l k : Int)) sl cl (cu :: F)) := hS3
            have he := HE.out
            have hlen := symP_len l 15 0 0 ((bitsB bs).drop (at_ + n))
            cases hsy : symP l 15 0 0 ((bitsB bs).drop (at_ + n)) with
            | none =>
              rw [hsy] at he
              have HE2 := Lib.hid he
              have HC3 := Lib.hid (And.intro hc3 hS3)
              clear he HE hn3 hlen hsy hS3
              simp only [symInt]
              go_wp2_with fail
              go_ret2
              rw [← HE2.out]
              exact ⟨_, [], rfl, RowC.nil _ _, c3, n + n3, by rw [← Nat.add_assoc]; exact HC3.out.1, (rdL_out HC3.out.2).tl.one_nil, fun h => by cases h⟩
            | some sn =>
              obtain ⟨sy, ns⟩ := sn
              rw [hsy] at he
              obtain rfl := hn3 sy ns hsy
              obtain ⟨l1, l2, l3, l4⟩ := hlen sy ns hsy
              have HE2 := Lib.hid he
              have HC3 := Lib.hid hc3
              have hs0 : (0 : Int) ≤ (sy : Int) := by omega
              clear he HE hn3 hlen hsy hc3
              simp only [symInt]
              by_cases q2 : (sy : Int) = e
              · subst q2
                have he := HE2.out
                simp only [if_true] at he
                have HE3 := Lib.hid he
                clear he HE2
                go_wp2_with (at_builtin; (refine wpList_app1 18 36 i0 (.int .i64 0) _ _ _ rfl rfl rfl rfl Try.underlying36 i0a i0b i0c i0d rfl hS3 rfl hr rfl ?_ ?_ ?_); (unfold maxLen; omega); omega; intro v1 c1 w7 hr1 hS4)
                go_ret2
                rw [← HE3.out]
                refine ⟨_, c1, rfl, ?_, c3, n + ns, by rw [← Nat.add_assoc]; exact HC3.out, rdL_out hS4, fun _ => (Nat.add_assoc _ _ _).symm⟩
                simpa [iv] using hr1
              · have he := HE2.out
                simp only [if_neg q2] at he
                have HE3 := Lib.hid he
                clear he HE2
                go_wp2_with (at_builtin; (refine wpList_app1 18 36 i0 (.int .i64 0) _ _ _ rfl rfl rfl rfl Try.underlying36 i0a i0b i0c i0d rfl hS3 rfl hr rfl ?_ ?_ ?_); (unfold maxLen; omega); omega; intro v1 c1 w7 hr1 hS4)
                go_roundg m
                case measure => omega
                case rel =>
                  refine ⟨out ++ [(sy : Int)], n + ns, c3, c1, Lib.hid ⟨?_, by rw [← Nat.add_assoc]; exact HC3.out, hS4, ?_⟩, by omega, by simp; omega⟩
                  · simpa [iv] using hr1
                  · rw [← HE3.out, ← Nat.add_assoc, List.drop_drop]
    | succ m =>
      have hlt : i < l.length := by omega
      obtain ⟨k, hk⟩ : ∃ k, l[i]? = some k := ⟨_, List.getElem?_eq_getElem hlt⟩
      obtain ⟨ad, rfl, hcell⟩ := (HV.out wr c hS.outer).at (iv_get l i k hk)
      have hk0 := HALL.out k (List.mem_of_getElem? hk)
      obtain ⟨K, rfl⟩ := Int.eq_ofNat_of_zero_le hk0.1
      have hK : K < 16 := by omega
      have hr := HR.out K hK
      have hsl := symsP_length l K i (by omega)
      have hcn : (l.take i).count (K : Int) ≤ 300 := Nat.le_trans List.count_le_length (by rw [List.length_take]; omega)
      rw [← hsl] at hcn
      have hld := hS.cell 1 rfl (List.mem_singleton.2 rfl) (32 + K)
      rw [rdrI_s _ _ _ _ hK] at hld
      have hfr := hS.free 1 rfl (List.mem_singleton.2 rfl) (32 + K)
      have HK := Lib.hid hk
      clear hk hsl
      obtain ⟨aos, caps, hsv⟩ := hr.shape
      have HRow := Lib.hid hr
      rw [hsv] at hr hld
      have hSa := (hS.alloc (.cells #[.int .i64 (i : Int)] 3)).drew
      have hone : Rd (wr.alloc (.cells #[.int .i64 (i : Int)] 3)).drew 1 (.slice (some ⟨wr.heap.size, 0, none⟩) 1 1) 1 [.int .i64 (i : Int)] := (Rd.one wr _ _).drewN 1
      have hld2 := ((hS.alloc (.cells #[.int .i64 (i : Int)] 3)).cell 2 rfl (List.mem_singleton.2 rfl) (32 + K)).trans (rdrI_s (fun k => (cntP l k : Int)) (fun k => (fstP l k : Int)) sl K hK)
      rw [hsv] at hld2
      have HSV := Lib.hid hsv
      clear hsv
      have b1 : (0 : Int) ≤ (K : Int) := by omega
      have b2 : (K : Int) < 16 := by omega
      go_wp2_with fail
      have hrow := rdL_row c q (fun k => (cntP l k : Int)) (fun k => (fstP l k : Int)) sl cl ([] :: F) K hK
      rw [← List.getElem?_cons_succ (a := [(wr.heap.size, Obj.cells #[.int .i64 (i : Int)] 3 (0, 0))])] at hrow
      have h1c : ∀ u ∈ [Value.int .i64 (i : Int)], u.oneCell' = true := by
        intro u hu
        rw [List.mem_singleton.1 hu]
        rfl
      have h63 : (symsP (l.take i) K).length + 1 ≤ maxLen := by unfold maxLen; omega
      have hby : ((symsP (l.take i) K).length + 1) * 8 ≤ 140737488355328 := by omega
      go_region_law (refine step_app (n := (symsP (l.take i) K).length) (m := 1) (xs := iv (symsP (l.take i) K)) (news := [.int .i64 (i : Int)]) (K + 2 + 1) 36 i0 (.int .i64 0) _ _ rfl rfl rfl rfl Try.underlying36 i0a i0b i0c i0d rfl (by decide) hSa hrow hr hone h1c h63 hby (fun v1 c1 w2 hr1 hS2 => ?_); obtain ⟨ao1, cap1, hv1⟩ := hr1.shape; subst hv1; have k0 := (hS2.cell 2 rfl (List.mem_singleton.2 rfl) (32 + K)).trans (rdrI_s (fun k => (cntP l k : Int)) (fun k => (fstP l k : Int)) sl K hK); have f0 := hS2.free 2 rfl (List.mem_singleton.2 rfl) (32 + K))
      all_goals
        go_wp2_with fail
        go_roundg m
        (case measure => omega)
        (case rel => exact ⟨i + 1, by omega, by go_num, _, _, Lib.hid (RowsTo.step HR.out HK.out hr1), rdL_store hS2 hK _⟩)
end
end Go.Proofs.Ytdhnmcdgiddhdaa
/-
  Contract of entropy.text.
-/
set_option linter.unusedVariables false
set_option linter.unusedSimpArgs false
namespace Go.Proofs.Ytdhnmcdgiddhdaa
open Go.RowKit
set_option maxRecDepth 100000
def nibV (bs : List UInt8) (i : Nat) : Int := (valOf (((bitsB bs).drop (4 * i)).take 4) : Int)
/-- The lengths that stand ahead, four bits each. -/
def nibR (bs : List UInt8) : List Int := mkI (nibV bs) 258
theorem nibR_length (bs : List UInt8) : (nibR bs).length = 258 := mkI_length _ _
def txR (bs : List UInt8) (size : Nat) : Int × List Int × Nat := readP (nibR bs) 257 ((size : Int) + 1) (8 * bs.length + 1) [] 1032 ((bitsB bs).drop 1032)
def txD (bs : List UInt8) (size : Nat) : List UInt8 × Int := dec size (txR bs size).2.1 [] 1
/-- These bytes are a text's, with this size and place. -/
def TxGood (bs : List UInt8) (size at_ : Nat) : Prop := okLens (nibR bs) = true ∧ (txR bs size).1 = 0 ∧ (txD bs size).2 = 0 ∧ (txD bs size).1.length = size ∧ goodI (nb (mtfD mtf0 (txD bs size).1)) at_
def TextOut (bs : List UInt8) (size at_ : Nat) (w : World) (e : Ending) (w' : World) : Prop :=
  (TxGood bs size at_ ∧ ∃ v c out, e = .returned (.tuple #[v, .bool true]) ∧ RowC 5 1 v out.length (bv out) c ∧ nb out = invP (nb (mtfD mtf0 (txD bs size).1)) at_ ∧ St w.heap.size w w' [c]) ∨
  (¬ TxGood bs size at_ ∧ e = .returned (.tuple #[.slice none 0 0, .bool false]) ∧ St w.heap.size w w' [])
theorem readP_length (l : List Int) (e most : Int) : ∀ m out at_ bits, (readP l e most m out at_ bits).2.1.length ≤ out.length + m
  | 0, out, at_, bits => by simp [readP]
  | m + 1, out, at_, bits => by
    rw [readP]
    split
    · simp
    · split
      · simp
      · split
        · simp
        · refine Nat.le_trans (readP_length l e most m _ _ _) ?_
          simp
          omega
theorem infoIntN : (Try.prog.info? 3).map (fun i => (i.zero, i.size, i.bytes)) = some (some (.int .i64 0), 1, 8) := by kernel_rfl
def nibP (bs : List UInt8) (i : Nat) : List Int := mkI (fun j => if j < i then nibV bs j else 0) 258
theorem nibP_zero (bs : List UInt8) : nibP bs 0 = List.replicate 258 0 := by
  unfold nibP
  rw [mkI_congr _ (fun _ => 0) 258 (fun i _ => by simp)]
  exact mkI_const 0 258
theorem nibP_all (bs : List UInt8) : nibP bs 258 = nibR bs := mkI_congr _ _ _ (fun i hi => by rw [if_pos hi])
theorem nibP_step (bs : List UInt8) (i : Nat) : (nibP bs i).set i (nibV bs i) = nibP bs (i + 1) := by
  unfold nibP
  rw [mkI_set]
  refine mkI_congr _ _ _ (fun j _ => ?_)
  by_cases e : j = i
  · subst e; rw [if_pos rfl, if_pos (by omega)]
  · rw [if_neg e]
    by_cases q : j < i
    · rw [if_pos q, if_pos (by omega)]
    · rw [if_neg q, if_neg (by omega)]
theorem nibV_range (bs : List UInt8) (i : Nat) : ∃ V : Nat, nibV bs i = (V : Int) ∧ V < 16 := by
  refine ⟨_, rfl, ?_⟩
  have h1 := valOf_lt (((bitsB bs).drop (4 * i)).take 4)
  have h2 : (((bitsB bs).drop (4 * i)).take 4).length ≤ 4 := by rw [List.length_take]; omega
  have h3 : 2 ^ (((bitsB bs).drop (4 * i)).take 4).length ≤ 2 ^ 4 := Nat.pow_le_pow_right (by omega) h2
  omega
theorem readP_err (l : List Int) (e most : Int) : ∀ m out at_ bits, (readP l e most m out at_ bits).1 = 0 ∨ (readP l e most m out at_ bits).1 = 2 ∨ (readP l e most m out at_ bits).1 = 6
  | 0, out, at_, bits => by simp [readP]
  | m + 1, out, at_, bits => by
    rw [readP]
    split
    · simp
    · split
      · simp
      · split
        · simp
        · exact readP_err l e most m _ _ _
theorem dec_err (most : Nat) : ∀ l b wth, (dec most l b wth).2 = 0 ∨ (dec most l b wth).2 = 2 ∨ (dec most l b wth).2 = 6
  | [], b, wth => by simp [dec]
  | x :: l, b, wth => by
    rw [dec]
    split
    · simp
    · split
      · simp
      · split
        · split
          · simp
          · exact dec_err most l _ _
        · split
          · simp
          · exact dec_err most l _ _
set_option maxHeartbeats 800000 in
theorem text_any (v : Value) (bs : List UInt8) (size at_ : Nat) (w : World) (h : Rd w 1 v bs.length (bv bs)) (hn : bs.length ≤ 1000000) (hn2 : 129 ≤ bs.length) (hsz : size ≤ 1000000) (hat : at_ ≤ 1000000) :
    Calls Try.prog 31 #[v, .int .i64 (size : Int), .int .i64 (at_ : Int)] w (TextOut bs size at_ w) := by
  obtain ⟨i0, i0a, i0b, i0c, i0d⟩ := info_parts infoIntN
  obtain ⟨ao, cap, rfl⟩ := h.shape
  have H0 := Lib.hid h
  clear h
  go_enter Try.func31, Try.ntmps31
  go_wp2_with fail
  refine (bread_any _ bs H0.out (by omega)).mono ?_
  rintro e w1 ⟨p, c1, rfl, hr1, hS1⟩
  have H1 := Lib.hid hr1
  clear hr1
  go_wp2_with (at_make; (refine wpList_mk (n := 258) 36 i0 (.int .i64 0) _ _ rfl rfl _ _ _ _ rfl rfl Try.underlying36 i0a i0b i0c i0d rfl ?_ ?_ ?_ ?_ hS1 ?_); omega; omega; omega; (unfold maxLen; omega); intro g2 c2 w2 r2 s2)
  have HH := Lib.hid (And.intro r2 s2)
  clear r2 s2 hS1
  go_loopg [22] 258 (fun m s22 wr => ∃ i : Nat, i + m = 258 ∧ s22 = .int .i64 (i : Int) ∧ ∃ c1 c2, RowC 3 1 (.slice (some ⟨g2, 0, none⟩) 258 258) 258 (iv (nibP bs i)) c2 ∧ RdC p bs (4 * i) c1 ∧ St w.heap.size w wr [c1, c2])
  case atStart =>
    refine ⟨0, by omega, rfl, c1, c2, ?_, H1.out, HH.out.2.pick [1, 0] (by decide) _ rfl⟩
    rw [nibP_zero, iv_replicate]
    exact HH.out.1
  case round =>
    clear HH H1 c1 c2
    obtain ⟨i, hi, rfl, c1, c2, hr2, hc1, hS⟩ := hrel
    cases gk with
    | zero =>
      obtain rfl : i = 258 := by omega
      rw [nibP_all] at hr2
      have HA := Lib.hid (And.intro hr2 (And.intro hc1 hS))
      clear hr2 hc1 hS hi
      have hl := nibR_length bs
      by_cases q1 : okLens (nibR bs) = true
      · have HQ1 := Lib.hid q1
        clear q1
        go_wp2_with fail
        refine (read_any p (.slice (some ⟨g2, 0, none⟩) 258 258) (nibR bs) bs 1032 257 ((size : Int) + 1) HA.out.2.2 HA.out.2.1 (by rw [hl]; exact HA.out.1.rd HA.out.2.2 1 rfl) (by omega) hn HQ1.out (fun w' c' hS' => by rw [hl]; exact HA.out.1.rd hS' 1 rfl)).mono ?_
        rintro e w3 ⟨u3, c3, rfl, hr3, c4, n4, hc4, hS3, _⟩
        generalize hr : readP (nibR bs) 257 ((size : Int) + 1) (8 * bs.length + 1) [] 1032 ((bitsB bs).drop 1032) = r at *
        have HTR : Hid (txR bs size = r) := Lib.hid hr
        obtain ⟨ao3, cap3, rfl⟩ := hr3.shape
        have he := readP_err (nibR bs) 257 ((size : Int) + 1) (8 * bs.length + 1) [] 1032 ((bitsB bs).drop 1032)
        rw [hr] at he
        obtain ⟨r1, r2, r3⟩ := r
        have hrl : r2.length ≤ 8 * bs.length + 1 := by
          have := readP_length (nibR bs) 257 ((size : Int) + 1) (8 * bs.length + 1) [] 1032 ((bitsB bs).drop 1032)
          rw [hr] at this
          simpa using this
        have H3 := Lib.hid (And.intro hr3 hS3)
        clear hr3 hS3 hr hc4 HA
        have HE := Lib.hid he
        clear he
        by_cases q2 : r1 = 0
        · subst q2
          clear HE
          go_wp2_with fail
          have hrl1 : r2.length ≤ 1099511600000 := by omega
          refine (decode_any (.slice ao3 r2.length cap3) r2 (size : Int) _ (H3.out.1.rd H3.out.2 0 rfl) hrl1 (by omega)).mono ?_
          rintro e w4 ⟨u4, rfl, c4, hr4, hS4⟩
          rw [show ((size : Int)).toNat = size from rfl] at hr4 ⊢
          have hS4' := H3.out.2.join hS4
          obtain ⟨ao4, cap4, rfl⟩ := hr4.shape
          have hde := dec_err size r2 [] 1
          have HTD : Hid (txD bs size = dec size r2 [] 1) := Lib.hid (by unfold txD; rw [HTR.out])
          generalize hD : dec size r2 [] 1 = D at *
          obtain ⟨d1, d2⟩ := D
          have H4 := Lib.hid (And.intro hr4 hS4')
          clear hr4 hS4 hS4' hD
          have HDE := Lib.hid hde
          clear hde hrl hrl1
          dsimp only at H4 HDE ⊢
          by_cases q3 : d2 = 0
          · subst q3
            clear HDE
            by_cases q4 : d1.length = size
            · have HQ4 := Lib.hid q4
              have q4i : ((d1.length : Int) != (size : Int)) = false := by simpa [Int.natCast_inj] using q4
              clear q4
              go_wp2_with fail
              refine (mtfdec_any (.slice ao4 d1.length cap4) d1 _ (H4.out.1.rd H4.out.2 0 rfl) (by have := HQ4.out; omega)).mono ?_
              rintro e w5 ⟨u5, c5, rfl, hr5, hS5⟩
              have hml : (mtfD mtf0 d1).length = d1.length := mtfD_length _ _
              have hS5' := H4.out.2.join hS5
              clear hS5
              obtain ⟨ao5, cap5, rfl⟩ := hr5.shape
              generalize hM : mtfD mtf0 d1 = M at *
              have HM := Lib.hid hM
              have HML := Lib.hid hml
              have H5 := Lib.hid (And.intro hr5 hS5')
              clear hr5 hS5' hM hml
              go_wp2_with fail
              refine (back_any M (.slice ao5 M.length cap5) (at_ : Int) _ (by have := HML.out; have := HQ4.out; omega) (H5.out.1.rd H5.out.2 0 rfl)).mono ?_
              rintro e w6 (⟨hg, v6, c6, x, rfl, hr6, hx, hS6⟩ | ⟨hg, rfl, hS6⟩)
              · have H6 := Lib.hid (And.intro hg (And.intro hr6 (And.intro hx (H5.out.2.join hS6))))
                clear hg hr6 hx hS6
                go_wp2_with fail
                go_ret2
                exact .inl ⟨⟨HQ1.out, by rw [HTR.out], by rw [HTD.out], by rw [HTD.out]; exact HQ4.out, by rw [HTD.out]; dsimp only; rw [HM.out]; exact H6.out.1⟩, _, _, x, rfl, H6.out.2.1, by rw [HTD.out]; dsimp only; rw [HM.out]; exact H6.out.2.2.1, H6.out.2.2.2.pick [0] (by decide) _ rfl⟩
              · have H6 := Lib.hid (And.intro hg (H5.out.2.join hS6))
                clear hg hS6
                go_wp2_with fail
                go_ret2
                exact .inr ⟨fun h => H6.out.1 (by have := h.2.2.2.2; rw [HTD.out] at this; dsimp only at this; rw [HM.out] at this; exact this), rfl, H6.out.2.pick [] (by decide) [] rfl⟩
            · have HQ4 := Lib.hid q4
              have q4i : ((d1.length : Int) != (size : Int)) = true := by simpa [Int.natCast_inj] using q4
              clear q4
              go_wp2_with fail
              go_ret2
              exact .inr ⟨fun hg => HQ4.out (by have := hg.2.2.2.1; rw [HTD.out] at this; exact this), rfl, H4.out.2.pick [] (by decide) [] rfl⟩

          · have HQ3 := Lib.hid q3
            have he3 : d2 = 2 ∨ d2 = 6 := by
              rcases HDE.out with h | h | h
              · exact absurd h q3
              · exact .inl h
              · exact .inr h
            clear q3 HDE
            rcases he3 with rfl | rfl
            all_goals
              go_wp2_with fail
              go_ret2
              exact .inr ⟨fun hg => HQ3.out (by have := hg.2.2.1; rw [HTD.out] at this; exact this), rfl, H4.out.2.pick [] (by decide) [] rfl⟩
        · have HQ2 := Lib.hid q2
          have he2 : r1 = 2 ∨ r1 = 6 := by
            rcases HE.out with h | h | h
            · exact absurd h q2
            · exact .inl h
            · exact .inr h
          clear q2 HE
          rcases he2 with rfl | rfl
          all_goals
            go_wp2_with fail
            go_ret2
            exact .inr ⟨fun hg => HQ2.out (by have := hg.2.1; rw [HTR.out] at this; exact this), rfl, H3.out.2.pick [] (by decide) [] rfl⟩
      · have HQ1 := Lib.hid q1
        have q1f : okLens (nibR bs) = false := by simpa using q1
        clear q1
        go_wp2_with fail
        refine (read_bad (.slice (some ⟨g2, 0, none⟩) 258 258) _ (nibR bs) 257 ((size : Int) + 1) HA.out.2.2 (by rw [hl]; exact HA.out.1.rd HA.out.2.2 1 rfl) (by omega) q1f).mono ?_
        rintro e w3 ⟨rfl, hS3⟩
        have HS3 := Lib.hid hS3
        clear hS3 q1f
        go_wp2_with fail
        go_ret2
        exact .inr ⟨fun hg => HQ1.out hg.1, rfl, HS3.out.pick [] (by decide) [] rfl⟩
    | succ m =>
      obtain ⟨V, hV, hV16⟩ := nibV_range bs i
      have hV' : (valOf (((bitsB bs).drop (4 * i)).take 4) : Int) = (V : Int) := hV
      have HR := Lib.hid hr2
      have hf := hr2.freeAt hS 1 rfl i
      have hi2 : i < 258 := by omega
      clear hr2
      have HC := Lib.hid (And.intro hc1 hS)
      clear hc1 hS
      go_wp2_with fail
      refine (get_any p bs (4 * i) 4 HC.out.2 HC.out.1 (by omega) (by omega) (by omega) (by omega)).mono ?_
      rintro e w3 ⟨rfl, c3, hc3, hS3⟩
      rw [show (4 : Int).toNat = 4 from rfl, hV']
      rw [show (4 : Int).toNat = 4 from rfl] at hc3
      have hwV : IntKind.i64.wrap (V : Int) = (V : Int) := IntWalk.i64_in _ (by omega)
      have hold : (nibP bs i)[i]? = some (if i < i then nibV bs i else 0) := mkI_get _ _ _ hi2
      have hce := HR.out.cellAt hS3 1 rfl (iv_get _ _ _ hold)
      have hfr := HR.out.freeAt hS3 1 rfl i
      have HS3 := Lib.hid (And.intro hc3 hS3)
      clear hc3 hS3 hold
      go_wp2_with fail
      go_roundg m
      case measure => omega
      case rel =>
        obtain ⟨c', hr', hS'⟩ := HR.out.store HS3.out.2 1 rfl rfl i (.int .i64 (V : Int))
        rw [← hV, iv_set, nibP_step] at hr'
        rw [← hV]
        exact ⟨i + 1, by omega, by go_num, c3, c', hr', HS3.out.1, by rw [hV]; exact hS'⟩
end Go.Proofs.Ytdhnmcdgiddhdaa
/-
  Contract of bwt.Forward.
-/
set_option linter.unusedVariables false
set_option linter.unusedSimpArgs false
namespace Go.Proofs.Ytdhnmcdgiddhdaa
open Go.RowKit
set_option maxRecDepth 100000
/-- The place of the whole among the rows. -/
def atF (n : Nat) (T : List Nat) : Nat := (n :: T).idxOf 0
def FwdOut (b : List UInt8) (w : World) (e : Ending) (w' : World) : Prop :=
  ∃ (T : List Nat) (v : Value) (c : HL) (L : List UInt8), IsSA (nb b) T ∧ e = .returned (.tuple #[v, .int .i64 (atF b.length T : Int)]) ∧ RowC 5 1 v L.length (bv L) c ∧ nb L = fwdN (nb b) (b.length :: T) ∧ St w.heap.size w w' [c]
/-- How far the bytes and the place have come. -/
def fwP (s T : List Nat) (i : Nat) : List Nat := fwdN s (s.length :: T.take i)
def faP (T : List Nat) (i : Nat) : Nat := if T.idxOf 0 < i then T.idxOf 0 + 1 else 0
theorem fwP_step {s T : List Nat} {i p : Nat} (h : T[i]? = some p) : fwP s T (i + 1) = fwP s T i ++ (if p = 0 then [] else [ch s (p - 1)]) := by
  unfold fwP fwdN
  rw [List.take_add_one, h, ← List.cons_append, List.filter_append, List.map_append]
  congr 1
  by_cases e : p = 0
  · subst e; rfl
  · simp [e]
theorem fwP_zero {s T : List Nat} (h : s.length ≠ 0) : fwP s T 0 = [ch s (s.length - 1)] := by
  unfold fwP fwdN
  rw [List.take_zero, List.filter_cons, if_pos (by simpa using h)]
  rfl
theorem faP_step {s T : List Nat} {i p : Nat} (hT : IsSA s T) (h : T[i]? = some p) : faP T (i + 1) = if p = 0 then i + 1 else faP T i := by
  unfold faP
  by_cases e : p = 0
  · subst e
    have : T.idxOf 0 = i := hT.rk_of h
    rw [if_pos rfl, this, if_pos (Nat.lt_succ_self _)]
  · rw [if_neg e]
    have hne : T.idxOf 0 ≠ i := by
      intro e2
      have hl := (List.getElem?_eq_some_iff.1 h).1
      have hs : 0 < s.length := by have := hT.len; omega
      have := hT.rk_get (p := 0) hs
      unfold rk at this
      rw [e2, h] at this
      cases this
      exact e rfl
    by_cases c : T.idxOf 0 < i
    · rw [if_pos c, if_pos (by omega)]
    · rw [if_neg c, if_neg (by omega)]
theorem faP_end {s T : List Nat} (hT : IsSA s T) (h : 0 < s.length) : faP T s.length = (s.length :: T).idxOf 0 := by
  unfold faP
  have hl : T.idxOf 0 < s.length := hT.rk_lt h
  rw [if_pos hl, List.idxOf_cons]
  have : (s.length == 0) = false := beq_eq_false_iff_ne.2 (by omega)
  rw [this]
  rfl
theorem fw_snoc (L : List UInt8) (x : UInt8) : bv L ++ [Value.int .u8 (x.toNat : Int)] = bv (L ++ [x]) := by simp [bv]
theorem faP_le (T : List Nat) (i : Nat) : faP T i ≤ i := by unfold faP; split <;> omega
set_option maxHeartbeats 4000000 in
theorem forward_any (b : List UInt8) (v : Value) (w : World) (hn : b.length ≤ 1000000) (hb : Rd w 1 v b.length (bv b)) :
    Calls Try.prog 23 #[v] w (FwdOut b w) := by
  obtain ⟨i0, i0a, i0b, i0c, i0d⟩ := info_parts infoU8
  obtain ⟨ao, cap, rfl⟩ := hb.shape
  have hnl : (b.length : Int) ≤ 1000000 := by omega
  have HB := Lib.hid hb
  have hS0 := St.init w
  clear hb
  by_cases h0 : b.length = 0
  · have hl0 : b = [] := List.eq_nil_of_length_eq_zero h0
    subst hl0
    go_enter Try.func23, Try.ntmps23
    go_wp2_with fail
    go_ret2
    exact ⟨[], _, [], [], ⟨List.Perm.refl _, List.Pairwise.nil⟩, rfl, RowC.nil _ _, rfl, hS0.one_nil⟩
  · have hl1 : ((b.length : Int) == 0) = false := by simp; exact fun e => h0 (by rw [e]; rfl)
    have hsl := nb_length b
    have hbl : (b.length : Int) - 1 < (b.length : Int) := by omega
    have hb0 : 0 < b.length := by omega
    have hlast : b[b.length - 1]? = some (b.getD (b.length - 1) 0) := by
      rw [List.getD_eq_getElem?_getD, List.getElem?_eq_getElem (show b.length - 1 < b.length by omega)]
      rfl
    obtain ⟨ad, rfl, hc⟩ := HB.out.at (bv_get b _ _ hlast)
    have hS1 := hS0.alloc (.cells #[.int .u8 ((b.getD (b.length - 1) 0).toNat : Int)] 5)
    have hone : RowC 5 1 (.slice (some ⟨w.heap.size, 0, none⟩) 1 1) 1 (bv [b.getD (b.length - 1) 0]) [(w.heap.size, .cells #[.int .u8 ((b.getD (b.length - 1) 0).toNat : Int)] 5 (0, 0))] := RowC.fresh w.heap.size (bv [b.getD (b.length - 1) 0]) rfl (Nat.le_refl 1) (by simp [maxLen]) rfl rfl
    have H1 := Lib.hid (And.intro hS1 hone)
    have H0 := Lib.hid h0
    clear hS1 hone hlast h0 hS0
    go_enter Try.func23, Try.ntmps23
    go_wp2_with fail
    refine (sort_any b _ _ hn (HB.out.keep H1.out.1.below)).mono ?_
    rintro e w2 ⟨v2, T, c2, rfl, hr2, hTl, hS2, hsa⟩
    obtain ⟨ao2, cap2, rfl⟩ := hr2.shape
    have hS3 := H1.out.1.join hS2
    have HT := Lib.hid (And.intro hr2 (And.intro hTl hsa))
    have HQ : Hid (RowC 5 1 (.slice (some ⟨w.heap.size, 0, none⟩) 1 1) [b.getD (b.length - 1) 0].length (bv [b.getD (b.length - 1) 0]) [(w.heap.size, .cells #[.int .u8 ((b.getD (b.length - 1) 0).toNat : Int)] 5 (0, 0))] ∧ nb [b.getD (b.length - 1) 0] = fwP (nb b) T 0) := Lib.hid ⟨H1.out.2, by
      rw [fwP_zero (by rw [hsl]; exact H0.out), hsl, ch_nb]
      rfl⟩
    clear hr2 hTl hS2 hsa hc
    generalize b.getD (b.length - 1) 0 = x0 at *
    go_wp2_with fail
    go_loopg [4, 5, 21] b.length (fun m s4 s5 s21 wr => ∃ i : Nat, i + m = b.length ∧ s21 = .int .i64 (i : Int) ∧ s5 = .int .i64 (faP T i : Int) ∧ ∃ (L : List UInt8) (c : List (Nat × Obj)), RowC 5 1 s4 L.length (bv L) c ∧ Hid (nb L = fwP (nb b) T i) ∧ L.length ≤ i + 1 ∧ St w.heap.size w wr [c2, c])
    case atStart => exact ⟨0, by omega, rfl, rfl, [x0], _, HQ.out.1, Lib.hid HQ.out.2, by simp, hS3⟩
    case round =>
      clear hS3 HQ
      obtain ⟨i, hi, rfl, rfl, L, c, hr, HL, hLl, hS⟩ := hrel
      obtain ⟨ao3, cap3, rfl⟩ := hr.shape
      cases gk with
      | zero =>
        have hib : i = b.length := by omega
        have hz : ¬ (i : Int) < (b.length : Int) := by omega
        have HI := Lib.hid hib
        clear hi hib
        go_wp2_with fail
        go_ret2
        refine ⟨T, .slice ao3 L.length cap3, c, L, HT.out.2.2, ?_, hr, ?_, hS.pick [1] (by decide) [c] rfl⟩
        · have : faP T (nb b).length = atF (nb b).length T := faP_end HT.out.2.2 (by rw [hsl]; exact hb0)
          rw [hsl] at this
          rw [← this, HI.out]
          rfl
        · rw [HL.out, fwP, HI.out, hsl, List.take_of_length_le (by rw [HT.out.2.1]; exact Nat.le_refl _)]
      | succ m =>
        have hib : i < b.length := by omega
        have hii : (i : Int) < (b.length : Int) := by omega
        have hTi := ch_some T i (by rw [HT.out.2.1]; exact hib)
        have hpl : ch T i < b.length := by have := HT.out.2.2.lt hTi; rwa [nb_length] at this
        obtain ⟨g2, rfl⟩ := HT.out.1.head (by omega)
        have hcT := HT.out.1.cellAt hS 0 rfl (iv_get _ i _ (tI_get T i (by rw [HT.out.2.1]; exact hib)))
        have hst := fwP_step (s := nb b) hTi
        have hfa := faP_step HT.out.2.2 hTi
        have hle := faP_le T i
        generalize ch T i = p at *
        by_cases hp : p = 0
        · have q1 : ((p : Int) == 0) = true := by rw [hp]; rfl
          rw [if_pos hp] at hst hfa
          have HST := Lib.hid (And.intro hst hfa)
          clear hst hfa hTi hp
          go_wp2_with fail
          go_roundg m
          case measure => omega
          case rel => exact ⟨i + 1, by omega, by go_num, by rw [HST.out.2]; go_num, L, c, hr, Lib.hid (by rw [HST.out.1, List.append_nil]; exact HL.out), by omega, hS⟩
        · have q1 : ((p : Int) == 0) = false := by simp; exact hp
          rw [if_neg hp] at hst hfa
          have hpb : b[p - 1]? = some (b.getD (p - 1) 0) := by
            rw [List.getD_eq_getElem?_getD, List.getElem?_eq_getElem (show p - 1 < b.length by omega)]
            rfl
          obtain ⟨ad', e', hc⟩ := (HB.out.keep hS.below).at (bv_get b _ _ hpb)
          cases e'
          rw [ch_nb] at hst
          have HST := Lib.hid (And.intro hst hfa)
          have hpi : (p : Int) - 1 < (b.length : Int) := by omega
          have hp1 : 1 ≤ p := by omega
          clear hst hfa hTi hp hpb
          generalize b.getD (p - 1) 0 = x at *
          go_wp2_with (at_builtin; (refine wpList_app1 1 22 i0 (.int .u8 0) _ _ _ rfl rfl rfl rfl Try.underlying22 i0a i0b i0c i0d rfl hS rfl hr rfl ?_ ?_ ?_); (unfold maxLen; omega); omega; intro v1 c1 w3 hr1 hS4)
          go_roundg m
          case measure => omega
          case rel =>
            rw [fw_snoc] at hr1
            exact ⟨i + 1, by omega, by go_num, by rw [HST.out.2], L ++ [x], c1, by simpa using hr1, Lib.hid (by rw [HST.out.1, ← HL.out]; simp [nb]), by simp; omega, hS4⟩
end Go.Proofs.Ytdhnmcdgiddhdaa
/-
  Contracts of the package zeros: run, Encode.
-/
set_option linter.unusedVariables false
set_option linter.unusedSimpArgs false
namespace Go.Proofs.Ytdhnmcdgiddhdaa
open Go.RowKit
set_option maxRecDepth 100000
section
variable {B : Nat} {w0 w : World} {F : List HL} {c : HL}
set_option maxHeartbeats 1000000 in
theorem run_any (v : Value) (n N : Nat) (xs : List Int) (hS : St B w0 w (c :: F)) (hr : RowC 3 1 v n (iv xs) c) (hb : n + N ≤ 1099511627776) :
    Calls Try.prog 40 #[v, .int .i64 (N : Int)] w fun e w' => ∃ v' c', e = .returned v' ∧ RowC 3 1 v' (n + (runL N).length) (iv (xs ++ runL N)) c' ∧ St B w0 w' (c' :: F) := by
  obtain ⟨i0, i0a, i0b, i0c, i0d⟩ := info_parts infoInt
  go_enter Try.func40, Try.ntmps40
  go_wp2_with fail
  go_loopg [0, 1] N (fun m s0 s1 wr => s1 = .int .i64 (m : Int) ∧ ∃ ys c k, Hid (ys ++ runL m = xs ++ runL N ∧ k + (runL m).length = n + (runL N).length ∧ k + m ≤ n + N) ∧ RowC 3 1 s0 k (iv ys) c ∧ St B w0 wr (c :: F))
  case atStart => exact ⟨rfl, xs, c, n, ⟨rfl, rfl, Nat.le_refl _⟩, hr, hS⟩
  case round =>
    clear hS hr
    obtain ⟨rfl, ys, c, k, HK, hr, hS⟩ := hrel
    obtain ⟨ao, cap, rfl⟩ := hr.shape
    rcases Nat.eq_zero_or_pos gk with rfl | hpos
    · have hk := HK.out
      rw [runL_zero, List.append_nil] at hk
      obtain ⟨rfl, hk2, _⟩ := hk
      simp only [List.length_nil, Nat.add_zero] at hk2
      subst hk2
      clear HK
      go_wp2_with fail
      go_ret
      exact ⟨_, c, rfl, hr, hS⟩
    · have hk := HK.out.2.2
      have hpos' : (0 : Int) < gk := by omega
      have hg : (gk : Int) ≤ 1099511627776 := by omega
      go_wp2_with (at_builtin; (refine wpList_app1 0 36 i0 (.int .i64 0) _ _ _ rfl rfl rfl rfl Try.underlying36 i0a i0b i0c i0d rfl hS rfl hr rfl ?_ ?_ ?_); (unfold maxLen; omega); omega; intro v1 c1 w1 hr1 hs1)
      go_roundg ((gk - 1) / 2)
      case measure => omega
      case rel =>
        have h := HK.out
        rw [runL_pos hpos] at h
        refine ⟨?_, ys ++ [1 - ((gk % 2 : Nat) : Int)], c1, k + 1, ⟨?_, ?_, ?_⟩, ?_, hs1⟩
        · go_num
        · rw [List.append_assoc]; exact h.1
        · have := h.2.1; simp only [List.length_cons] at this; omega
        · omega
        · rw [iv_append]
          have e : (2 - (gk : Int) % 2 - 1) = 1 - ((gk % 2 : Nat) : Int) := by omega
          rw [← e]
          exact hr1
theorem encode_any (v : Value) (bs : List UInt8) (w : World) (h : Rd w 1 v bs.length (bv bs)) (hn : bs.length ≤ 1099511600000) :
    Calls Try.prog 24 #[v] w fun e w' => ∃ v' c', e = .returned v' ∧ RowC 3 1 v' (enc bs 0).length (iv (enc bs 0)) c' ∧ St w.heap.size w w' [c'] := by
  obtain ⟨i0, i0a, i0b, i0c, i0d⟩ := info_parts infoInt
  obtain ⟨ao, cap, rfl⟩ := h.shape
  have hS := (St.init w).one_nil
  have hnl : (bs.length : Int) ≤ 1099511600000 := by omega
  go_enter Try.func24, Try.ntmps24
  go_wp2_with fail
  go_loopg [3, 4, 9] bs.length (fun m s3 s4 s9 wr => ∃ i k : Nat, i + m = bs.length ∧ s9 = .int .i64 (i : Int) ∧ s4 = .int .i64 (k : Int) ∧ ∃ ys c, Hid (ys ++ enc (bs.drop i) k = enc bs 0 ∧ ys.length + k ≤ i) ∧ RowC 3 1 s3 ys.length (iv ys) c ∧ St w.heap.size w wr [c])
  case atStart => exact ⟨0, 0, by omega, rfl, rfl, [], [], ⟨rfl, by simp⟩, RowC.nil _ _, hS⟩
  case round =>
    clear hS
    obtain ⟨i, k, hi, rfl, rfl, ys, c, HK, hr, hS⟩ := hrel
    have hki := HK.out.2
    have hki' : (k : Int) ≤ 1099511600000 := by omega
    cases gk with
    | zero =>
      obtain rfl : i = bs.length := by omega
      clear hi
      have hk := HK.out.1
      rw [List.drop_length, enc, ← List.append_assoc] at hk
      have HQ := Lib.hid hk
      clear hk
      go_wp2_with fail
      refine (run_any _ _ k ys hS hr (by omega)).mono ?_
      rintro e w1 ⟨v1, c1, rfl, hr1, hS1⟩
      have hrl := runL_le k
      rw [← List.length_append] at hr1
      have hll : (ys ++ runL k).length ≤ 1099511600000 := by simp; omega
      go_wp2_with (at_builtin; (refine wpList_app1 0 36 i0 (.int .i64 0) _ _ _ rfl rfl rfl rfl Try.underlying36 i0a i0b i0c i0d rfl hS1 rfl hr1 rfl ?_ ?_ ?_); (unfold maxLen; omega); omega; intro v2 c2 w2 hr2 hs2)
      go_ret
      refine ⟨_, c2, rfl, ?_, hs2⟩
      rw [← HQ.out]
      simpa [iv, Nat.add_assoc] using hr2
    | succ m =>
      have hlt : i < bs.length := by omega
      obtain ⟨b, hb⟩ : ∃ b, bs[i]? = some b := ⟨_, List.getElem?_eq_getElem hlt⟩
      obtain ⟨ad, rfl, hcell⟩ := (h.keep hS.below).at (bv_get bs i b hb)
      have hb0 : (b.toNat : Int) ≤ 255 := by have := b.toNat_lt; omega
      have hd : bs.drop i = b :: bs.drop (i + 1) := by rw [List.drop_eq_getElem_cons hlt]; congr 1; exact (List.getElem?_eq_some_iff.1 hb).2
      have hk := HK.out.1
      rw [hd, enc] at hk
      have HQ := Lib.hid hk
      clear hk hd hb
      by_cases hz : b = 0
      · subst hz
        rw [if_pos rfl] at HQ
        go_wp2_with fail
        go_roundg m
        case measure => omega
        case rel => exact ⟨i + 1, k + 1, by omega, by go_num, by go_num, ys, c, ⟨HQ.out, by omega⟩, hr, hS⟩
      · rw [if_neg hz] at HQ
        have hz' : ¬ (b.toNat : Int) = 0 := by
          intro e
          exact hz (UInt8.toNat_inj.1 (by simpa using (show b.toNat = 0 by omega)))
        go_wp2_with fail
        refine (run_any _ _ k ys hS hr (by omega)).mono ?_
        rintro e w1 ⟨v1, c1, rfl, hr1, hS1⟩
        have hrl := runL_le k
        rw [← List.length_append] at hr1
        have hll : (ys ++ runL k).length ≤ 1099511600000 := by simp; omega
        go_wp2_with (at_builtin; (refine wpList_app1 0 36 i0 (.int .i64 0) _ _ _ rfl rfl rfl rfl Try.underlying36 i0a i0b i0c i0d rfl hS1 rfl hr1 rfl ?_ ?_ ?_); (unfold maxLen; omega); omega; intro v2 c2 w2 hr2 hs2)
        go_roundg m
        case measure => omega
        case rel =>
          refine ⟨i + 1, 0, by omega, by go_num, by go_num, ys ++ runL k ++ [(b.toNat : Int) + 1], c2, ⟨?_, by simp; omega⟩, ?_, hs2⟩
          · rw [List.append_assoc, List.append_assoc]; exact HQ.out
          · simpa [iv, Nat.add_assoc] using hr2
end
end Go.Proofs.Ytdhnmcdgiddhdaa
