/-
  Contracts of the package bits (and of bytes.Clone): what each function does to memory, in the words of Base and PureBits.
-/
import Derived.Test.YtdgpbgdpdmikaaaByte
import Derived.Test.YtdgpbgdpdmikaaaPureBits
import Derived.WalkSpells
import Derived.Deep.DeepCutAuto
import Derived.BigQuiet
import Derived.Deep.RegionWith
import Derived.WalkLawsBesides
import Derived.Laws.BitsAllLaws
set_option linter.unusedVariables false
set_option linter.unusedSimpArgs false
namespace Go.Proofs.Ytdgpbgdpdmikaaa
open Go.RowKit
set_option maxRecDepth 100000

/-- bytes.Clone: the same bytes in memory of its own. -/
theorem clone_some (ad : Addr) (n cap : Nat) (bs : List UInt8) (w : World) (h : Rd w 1 (.slice (some ad) n cap) n (bv bs)) (hn : n ≤ 140737488355328) :
    Calls Try.prog 41 #[.slice (some ad) n cap] w fun e w' => ∃ v c, e = .returned v ∧ RowC 5 1 v n (bv bs) c ∧ St w.heap.size w w' [c] := by
  obtain ⟨i0, i0a, i0b, i0c, i0d⟩ := info_parts infoU8
  go_enter Try.func41, Try.ntmps41
  go_wp2_with (at_builtin; (refine wpList_app 0 37 i0 (.int .u8 0) _ _ rfl rfl rfl rfl Try.underlying37 i0a i0b i0c i0d rfl (by decide) ((St.init w).alloc _) rfl (RowC.fresh w.heap.size [] rfl (Nat.le_refl 0) (Nat.zero_le _) rfl rfl) (h.keep (Below.alloc (Below.refl _ _) (Nat.le_refl _) _)) (bv_one bs) ?_ ?_ ?_); (unfold maxLen; omega); omega; intro v1 c1 w1 hr1 hs1)
  go_ret
  simp only [Nat.zero_add, List.nil_append] at hr1
  exact ⟨v1, c1, rfl, hr1, hs1⟩
theorem clone_any (v : Value) (n : Nat) (bs : List UInt8) (w : World) (h : Rd w 1 v n (bv bs)) (hn : n ≤ 140737488355328) :
    Calls Try.prog 41 #[v] w fun e w' => ∃ v c, e = .returned v ∧ RowC 5 1 v n (bv bs) c ∧ St w.heap.size w w' [c] := by
  obtain ⟨ao, cap, rfl⟩ := h.shape
  cases ao with
  | some ad => exact clone_some ad n cap bs w h hn
  | none =>
    obtain ⟨rfl, rfl, hx⟩ := h.none_iff
    have hbs : bs = [] := by simpa [bv] using hx
    subst hbs
    clear h hx hn
    go_enter Try.func41, Try.ntmps41
    go_wp2
    go_ret
    exact ⟨_, [], rfl, RowC.nil _ _, (St.init w).one_nil⟩

/-- A Writer at block p that holds these bits. -/
def WrC (p : Nat) (bits : List Bool) (c : HL) : Prop :=
  ∃ sv rc cs, c = [(p, Obj.cells #[sv, .int .i64 (bits.length : Int)] 39 (0, 0))] ++ rc ∧ RowC 5 1 sv cs.length (bv cs) rc ∧ cs.length = (bits.length + 7) / 8 ∧ Packed bits cs
/-- A Reader at block p over these bytes, so many bits read. -/
def RdC (p : Nat) (bs : List UInt8) (at_ : Nat) (c : HL) : Prop :=
  ∃ sv rc, c = [(p, Obj.cells #[sv, .int .i64 (at_ : Int)] 76 (0, 0))] ++ rc ∧ RowC 5 1 sv bs.length (bv bs) rc ∧ at_ ≤ 8 * bs.length

section
variable {B : Nat} {w0 w : World} {F : List HL} {c : HL}
theorem wlen_any (p : Nat) (bits : List Bool) (hS : St B w0 w (c :: F)) (hc : WrC p bits c) :
    Calls Try.prog 21 #[.pointer (some ⟨p, 0, none⟩)] w fun e w' => e = .returned (.int .i64 (bits.length : Int)) ∧ w = w' := by
  obtain ⟨sv, rc, cs, rfl, hr, hl, hb⟩ := hc
  have h1 := hS.cell 0 rfl (List.mem_append.2 (.inl (List.mem_singleton.2 rfl))) 1
  clear hr hb hl
  go_enter Try.func21, Try.ntmps21
  go_wp2
  go_ret
  exact ⟨rfl, rfl⟩
theorem wbytes_any (p : Nat) (bits : List Bool) (hS : St B w0 w (c :: F)) (hc : WrC p bits c) (hsm : bits.length ≤ 1099511627776) :
    Calls Try.prog 23 #[.pointer (some ⟨p, 0, none⟩)] w fun e w' => ∃ v c' cs, e = .returned v ∧ RowC 5 1 v cs.length (bv cs) c' ∧ St w.heap.size w w' [c'] ∧ cs.length = (bits.length + 7) / 8 ∧ Packed bits cs := by
  obtain ⟨sv, rc, cs, rfl, hr, hl, hb⟩ := hc
  have h0 := hS.cell 0 rfl (List.mem_append.2 (.inl (List.mem_singleton.2 rfl))) 0
  have hrd := hr.rd hS.split 1 rfl
  have H := Lib.hid (And.intro hl hb)
  have hcl : cs.length ≤ 140737488355328 := by omega
  clear hr hb hl
  go_enter Try.func23, Try.ntmps23
  go_wp2_with (go_at_call 41; refine (clone_any sv cs.length cs w hrd hcl).mono ?_; rintro e w1 ⟨v1, c1, rfl, hr1, hs1⟩)
  go_ret
  exact ⟨v1, c1, cs, rfl, hr1, hs1, H.out.1, H.out.2⟩
theorem put_bad (v k : Int) (pv : Value) (w : World) (h : pv = .pointer none ∨ ((∃ p, pv = .pointer (some ⟨p, 0, none⟩)) ∧ (k < 0 ∨ 64 < k))) :
    Calls Try.prog 19 #[pv, .int .u64 v, .int .i64 k] w fun e w' => e = .returned (.bool false) ∧ w = w' := by
  rcases h with rfl | ⟨⟨p, rfl⟩, h | h⟩
  · go_enter Try.func19, Try.ntmps19
    go_wp2
    go_ret
    exact ⟨rfl, rfl⟩
  · go_enter Try.func19, Try.ntmps19
    go_wp2
    go_ret
    exact ⟨rfl, rfl⟩
  · have h1 : decide (k < 0) = false := by simp; omega
    have h2 : decide (64 < k) = true := by simp; omega
    go_enter Try.func19, Try.ntmps19
    go_wp2
    go_ret
    exact ⟨rfl, rfl⟩
theorem put_byte (b : UInt8) (V : Int) (hV0 : 0 ≤ V) (hV : V ≤ 18446744073709551615) (m s : Nat) (hs : s ≤ 7) :
    bits .or .u8 (b.toNat : Int) (bits .and .u64 (V / 2 ^ m) 1 % 256 * 2 ^ s % 256) = ((setb b (V.toNat.testBit m) s).toNat : Int) := by
  obtain ⟨v, rfl⟩ := Int.eq_ofNat_of_zero_le hV0
  have e1 : ((v : Int) / 2 ^ m) = ((v / 2 ^ m : Nat) : Int) := by simp
  have hle : v / 2 ^ m ≤ v := Nat.div_le_self _ _
  have hbit : v.testBit m = decide (v / 2 ^ m % 2 = 1) := Nat.testBit_eq_decide_div_mod_eq
  rw [e1, Int.toNat_natCast, hbit]
  generalize v / 2 ^ m = q at *
  rw [and_one_u64 _ (by omega) (by omega)]
  have h3 : 2 ^ s ≤ 2 ^ 7 := Nat.pow_le_pow_right (by omega) hs
  have e2 : (q : Int) % 2 % 256 * 2 ^ s % 256 = (((decide (q % 2 = 1)).toNat * 2 ^ s : Nat) : Int) := by
    have h7 : (0 : Int) < 2 ^ s := Int.pow_pos (by omega)
    have h8 : (2 : Int) ^ s ≤ 128 := by have := Int.ofNat_le.2 h3; simpa using this
    by_cases h : q % 2 = 1
    · have h5 : (q : Int) % 2 = 1 := by omega
      rw [h5]
      simp [h]
      omega
    · have h5 : (q : Int) % 2 = 0 := by omega
      rw [h5]
      simp [h]
  rw [e2, u8_or_nat _ _ b.toNat_lt, setb_toNat _ _ _ hs]
  cases decide (q % 2 = 1) <;> simp <;> omega
set_option maxHeartbeats 1000000 in
theorem put_any (p : Nat) (bits : List Bool) (v k : Int) (hS : St B w0 w (c :: F)) (hc : WrC p bits c) (hv0 : 0 ≤ v) (hv : v ≤ 18446744073709551615) (hk0 : 0 ≤ k) (hk : k ≤ 64) (hsm : bits.length ≤ 549755813888) :
    Calls Try.prog 19 #[.pointer (some ⟨p, 0, none⟩), .int .u64 v, .int .i64 k] w fun e w' => e = .returned (.bool true) ∧ ∃ c', WrC p (bits ++ bitsOf v.toNat k.toNat) c' ∧ St B w0 w' (c' :: F) := by
  obtain ⟨i0, i0a, i0b, i0c, i0d⟩ := info_parts infoU8
  have hd1 : decide (k < 0) = false := by simp; omega
  have hd2 : decide (64 < k) = false := by simp; omega
  have HS := Lib.hid hS
  have HC := Lib.hid hc
  clear hS hc
  go_enter Try.func19, Try.ntmps19
  go_wp2
  go_loopg [7] (k.toNat) (fun m s7 wr => s7 = .int .i64 ((m : Int) - 1) ∧ (m : Int) ≤ 64 ∧ ∃ bs c, Hid (bs ++ bitsOf v.toNat m = bits ++ bitsOf v.toNat k.toNat) ∧ WrC p bs c ∧ St B w0 wr (c :: F))
  case atStart => exact ⟨by rw [Int.toNat_of_nonneg hk0], by omega, bits, c, rfl, HC.out, HS.out⟩
  case round =>
    clear HS HC
    obtain ⟨rfl, hm, bs, c, hbs, ⟨sv, rc, cs, rfl, hr, hl, hb⟩, hS⟩ := hrel
    have hlen : bs.length ≤ 1099511627776 := by
      have := congrArg List.length hbs.out
      simp only [List.length_append, bitsOf_length] at this
      omega
    cases gk with
    | zero =>
      have e := hbs.out
      simp only [bitsOf, List.range_zero, List.map_nil, List.append_nil] at e
      have HQ : Hid (WrC p bs ([(p, Obj.cells #[sv, .int .i64 (bs.length : Int)] 39 (0, 0))] ++ rc)) := ⟨sv, rc, cs, rfl, hr, hl, hb⟩
      have E := Lib.hid e
      clear hr hl hb hbs e
      go_wp2
      go_ret
      refine ⟨rfl, _, ?_, hS⟩
      have e := E.out
      simp only [bitsOf, ← e]
      exact HQ
    | succ m =>
      have e : (((m + 1 : Nat) : Int) - 1) = (m : Int) := by omega
      rw [e]
      have hS2 := hS.split
      have h0 : wr.cell? ⟨p, 0, none⟩ = some sv := hS2.cell 0 rfl (List.mem_singleton.2 rfl) 0
      have h1 : wr.cell? ⟨p, 1, none⟩ = some (.int .i64 (bs.length : Int)) := hS2.cell 0 rfl (List.mem_singleton.2 rfl) 1
      have f0 : wr.frozen? ⟨p, 0, none⟩ = false := hS2.free 0 rfl (List.mem_singleton.2 rfl) 0
      have hcl : cs.length ≤ 137438953473 := by omega
      have HL := Lib.hid (And.intro hl hb)
      clear hl hb e hS
      go_upto_if 29 with (fail)
      go_cut [7] (fun s7 wc => s7 = .int .i64 (m : Int) ∧ ∃ sv rc cs, RowC 5 1 sv cs.length (bv cs) rc ∧ Hid (cs.length = bs.length / 8 + 1 ∧ Packed bs cs) ∧ St B w0 wc ([(p, Obj.cells #[sv, .int .i64 (bs.length : Int)] 39 (0, 0))] :: rc :: F))
      case first =>
        by_cases h8 : bs.length % 8 = 0
        · have h8' : ((bs.length : Int) % 8 == 0) = true := by simp; omega
          go_wp2_with ((at_builtin; (refine wpList_app1 1 37 i0 (.int .u8 0) _ _ _ rfl rfl rfl rfl Try.underlying37 i0a i0b i0c i0d rfl hS2 rfl hr rfl ?_ ?_ ?_); (unfold maxLen; omega); omega; intro v1 c1 w1 hr1 hs1); have k0 : w1.cell? ⟨p, 0, none⟩ = some sv := hs1.cell 0 rfl (List.mem_singleton.2 rfl) 0; have g0 : w1.frozen? ⟨p, 0, none⟩ = false := hs1.free 0 rfl (List.mem_singleton.2 rfl) 0; obtain ⟨ao, cap, rfl⟩ := hr1.shape)
          go_meet
          case rel =>
            refine ⟨rfl, _, c1, cs ++ [0], ?_, ?_, hs1.store 0 rfl 0 _⟩
            · simpa [bv] using hr1
            · have := HL.out
              exact ⟨by simp; omega, packed_zero this.2 (by omega)⟩
        · have h8' : ((bs.length : Int) % 8 == 0) = false := by simp; omega
          go_wp2
          go_meet
          case rel =>
            have := HL.out
            exact ⟨rfl, sv, rc, cs, hr, ⟨by omega, this.2⟩, hS2⟩
      case rest =>
        clear hS2 h0 h1 f0 hr HL
        obtain ⟨rfl, sv, rc, cs, hr, HL, hS⟩ := hcut
        obtain ⟨hl, hb⟩ := HL.out
        obtain ⟨g, cap, cur, rfl, _⟩ := hr.form (by omega)
        obtain ⟨b, hbyte⟩ : ∃ b, cs[bs.length / 8]? = some b := ⟨_, List.getElem?_eq_getElem (by omega)⟩
        have hap := hr.apart hS 1 0 rfl rfl (by omega)
        have hgp := hap.1
        have hpg := hap.2
        have h0 : wc.cell? ⟨p, 0, none⟩ = some (.slice (some ⟨g, 0, none⟩) cs.length cap) := hS.cell 0 rfl (List.mem_singleton.2 rfl) 0
        have h1 : wc.cell? ⟨p, 1, none⟩ = some (.int .i64 (bs.length : Int)) := hS.cell 0 rfl (List.mem_singleton.2 rfl) 1
        have f1 : wc.frozen? ⟨p, 1, none⟩ = false := hS.free 0 rfl (List.mem_singleton.2 rfl) 1
        have h2 := hr.cellAt hS 1 rfl (bv_get _ _ _ hbyte)
        have f2 := hr.freeAt hS 1 rfl (bs.length / 8)
        have hix : (bs.length : Int) / 8 < cs.length := by omega
        have HB := Lib.hid hbyte
        clear hl hb hap hbyte
        go_wp2_with (first | ((with_reducible refine wpStill_plain ?_ ?_ (fun _ _ => ?_)); rfl; rfl) | (with_reducible refine wpStill_nil ?_) | ((with_reducible refine wp_draw_tail (id := 8) 25 mixed ?_ (fun _ hK => ?_)); kernel_rfl; simp only [List.take_succ_cons, List.take_zero, List.drop_succ_cons, List.drop_zero] at hK ⊢))
        go_roundg m
        case measure => omega
        case rel =>
          have hl := HL.out
          rw [put_byte b v hv0 hv m _ (by omega)]
          obtain ⟨rc', hr', hS'⟩ := hr.store hS 1 rfl rfl (bs.length / 8) (.int .u8 ((setb b (v.toNat.testBit m) (7 - bs.length % 8)).toNat : Int))
          rw [← bv_set] at hr'
          have hS3 := ((hS'.store 0 rfl 1 (.int .i64 ((bs.length : Int) + 1))).drew).merge
          refine ⟨rfl, by omega, bs ++ [v.toNat.testBit m], _, ?_, ⟨.slice (some ⟨g, 0, none⟩) cs.length cap, rc', cs.set (bs.length / 8) (setb b (v.toNat.testBit m) (7 - bs.length % 8)), ?_, ?_, ?_, packed_set hl.2 _ (by omega) b HB.out⟩, hS3⟩
          · have := hbs.out
            rw [bitsOf_succ] at this
            show bs ++ [v.toNat.testBit m] ++ bitsOf v.toNat m = _
            rw [List.append_assoc]
            exact this
          · simp
          · rw [List.length_set]
            exact hr'
          · simp
            omega
end
theorem wr_new (p : Nat) : WrC p [] [(p, Obj.cells #[.slice none 0 0, .int .i64 0] 39 (0, 0))] :=
  ⟨_, [], [], rfl, RowC.nil _ _, rfl, rfl⟩
end Go.Proofs.Ytdgpbgdpdmikaaa
