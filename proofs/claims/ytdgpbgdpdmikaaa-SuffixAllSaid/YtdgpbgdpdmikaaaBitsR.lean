/-
  Contracts of bits.Reader.
-/
import Derived.Test.YtdgpbgdpdmikaaaBits
set_option linter.unusedVariables false
set_option linter.unusedSimpArgs false
namespace Go.Proofs.Ytdgpbgdpdmikaaa
open Go.RowKit
set_option maxRecDepth 100000
section
variable {B : Nat} {w0 w : World} {F : List HL} {c : HL}
theorem bread_any (sv : Value) (bs : List UInt8) (h : Rd w 1 sv bs.length (bv bs)) (hn : bs.length ≤ 140737488355328) :
    Calls Try.prog 25 #[sv] w fun e w' => ∃ p c, e = .returned (.pointer (some ⟨p, 0, none⟩)) ∧ RdC p bs 0 c ∧ St w.heap.size w w' [c] := by
  go_enter Try.func25, Try.ntmps25
  go_wp2_with ((go_at_call 41; refine (clone_any sv bs.length bs w h hn).mono ?_; rintro e w1 ⟨v1, c1, rfl, hr1, hs1⟩); obtain ⟨ao, cap, rfl⟩ := hr1.shape)
  go_ret
  exact ⟨w1.heap.size, _, rfl, ⟨_, c1, rfl, hr1, by omega⟩, (hs1.alloc _).merge⟩
theorem left_any (p : Nat) (bs : List UInt8) (at_ : Nat) (hS : St B w0 w (c :: F)) (hc : RdC p bs at_ c) (hn : bs.length ≤ 140737488355328) :
    Calls Try.prog 32 #[.pointer (some ⟨p, 0, none⟩)] w fun e w' => e = .returned (.int .i64 (8 * (bs.length : Int) - at_)) ∧ Drew w w' := by
  obtain ⟨sv, rc, rfl, hr, hl⟩ := hc
  obtain ⟨ao, cap, rfl⟩ := hr.shape
  have h0 : w.cell? ⟨p, 0, none⟩ = some (.slice ao bs.length cap) := hS.cell 0 rfl (List.mem_append.2 (.inl (List.mem_singleton.2 rfl))) 0
  have h1 : w.cell? ⟨p, 1, none⟩ = some (.int .i64 (at_ : Int)) := hS.cell 0 rfl (List.mem_append.2 (.inl (List.mem_singleton.2 rfl))) 1
  clear hr
  go_enter Try.func32, Try.ntmps32
  go_wp2_with (first | ((with_reducible refine wpStill_plain ?_ ?_ (fun _ _ => ?_)); rfl; rfl) | (with_reducible refine wpStill_nil ?_) | ((with_reducible refine wp_draw_all (id := 3) mixed ?_ (fun _ _ => ?_)); kernel_rfl))
  go_ret
  exact ⟨rfl, Drew.one _⟩
theorem left_n (p : Nat) (bs : List UInt8) (at_ n : Nat) (he : at_ + n = 8 * bs.length) (hS : St B w0 w (c :: F)) (hc : RdC p bs at_ c) (hn : bs.length ≤ 140737488355328) :
    Calls Try.prog 32 #[.pointer (some ⟨p, 0, none⟩)] w fun e w' => e = .returned (.int .i64 (n : Int)) ∧ Drew w w' := by
  have e : (n : Int) = 8 * (bs.length : Int) - at_ := by omega
  rw [e]
  exact left_any p bs at_ hS hc hn
theorem left_nil (w : World) : Calls Try.prog 32 #[.pointer none] w fun e w' => e = .returned (.int .i64 0) ∧ w = w' := by
  go_enter Try.func32, Try.ntmps32
  go_wp2
  go_ret
  exact ⟨rfl, rfl⟩
theorem get_bad (p : Nat) (bs : List UInt8) (at_ : Nat) (k : Int) (hS : St B w0 w (c :: F)) (hc : RdC p bs at_ c) (hn : bs.length ≤ 140737488355328) (hk : k < 0 ∨ 64 < k ∨ 8 * (bs.length : Int) - at_ < k) :
    Calls Try.prog 26 #[.pointer (some ⟨p, 0, none⟩), .int .i64 k] w fun e w' => e = .returned (.tuple #[.int .u64 0, .bool false]) ∧ Drew w w' := by
  have hle := hc
  obtain ⟨_, _, _, _, hle⟩ := hle
  by_cases h1 : k < 0
  · go_enter Try.func26, Try.ntmps26
    go_wp2
    go_ret2
    exact ⟨rfl, Drew.refl _⟩
  · have g1 : decide (k < 0) = false := by simp; omega
    by_cases h2 : 64 < k
    · have g2 : decide (64 < k) = true := by simp; omega
      go_enter Try.func26, Try.ntmps26
      go_wp2
      go_ret2
      exact ⟨rfl, Drew.refl _⟩
    · have g2 : decide (64 < k) = false := by simp; omega
      have g3 : decide (8 * (bs.length : Int) - at_ < k) = true := by simp; omega
      go_enter Try.func26, Try.ntmps26
      go_wp2_with (go_at_call 32; refine (left_any p bs at_ hS hc hn).mono ?_; rintro e w1 ⟨rfl, n, rfl⟩)
      go_ret2
      exact ⟨rfl, Drew.mk _ _⟩
theorem get_nil (k : Int) (w : World) : Calls Try.prog 26 #[.pointer none, .int .i64 k] w fun e w' => e = .returned (.tuple #[.int .u64 0, .bool false]) ∧ w = w' := by
  go_enter Try.func26, Try.ntmps26
  go_wp2
  go_ret2
  exact ⟨rfl, rfl⟩
/-- One more bit behind a number. -/
theorem get_step (V : Nat) (b : UInt8) (s : Nat) (hs : s ≤ 7) (hV : V < 9223372036854775808) :
    bits .or .u64 ((V : Int) * 2) (IntKind.u64.wrap (bits .and .u8 ((b.toNat : Int) / 2 ^ s) 1)) = ((2 * V + (b.toNat.testBit s).toNat : Nat) : Int) := by
  have e1 : ((b.toNat : Int) / 2 ^ s) = ((b.toNat / 2 ^ s : Nat) : Int) := by simp
  have hle : b.toNat / 2 ^ s ≤ b.toNat := Nat.div_le_self _ _
  have hb := b.toNat_lt
  have hbit : b.toNat.testBit s = decide (b.toNat / 2 ^ s % 2 = 1) := Nat.testBit_eq_decide_div_mod_eq
  rw [e1, hbit]
  generalize b.toNat / 2 ^ s = q at *
  have e2 : bits .and .u8 (q : Int) 1 = ((q % 2 : Nat) : Int) := by
    have := u8_and_nat q 1 (by omega) (by omega)
    rw [Nat.and_one_is_mod] at this
    exact this
  have e5 : IntKind.u64.wrap ((q % 2 : Nat) : Int) = ((q % 2 : Nat) : Int) := by simp [IntKind.wrap, IntKind.bits, IntKind.signed]; omega
  have e3 : ((V : Int) * 2) = ((2 * V : Nat) : Int) := by omega
  have hq : q % 2 < 2 := Nat.mod_lt _ (by omega)
  rw [e2, e5, e3, u64_or_nat _ _ (by omega) (by omega)]
  have e4 : 2 * V ||| q % 2 = 2 * V + q % 2 := by
    have := Nat.two_pow_add_eq_or_of_lt (i := 1) (b := q % 2) (by omega) V
    simp at this
    exact this.symm
  rw [e4]
  by_cases h : q % 2 = 1 <;> simp [h] <;> omega
theorem valOf_take_succ (l : List Bool) (j : Nat) (x : Bool) (h : l[j]? = some x) : valOf (l.take (j + 1)) = 2 * valOf (l.take j) + x.toNat := by
  have hlt : j < l.length := (List.getElem?_eq_some_iff.1 h).1
  rw [List.take_add_one, h]
  simp [valOf_snoc]
theorem valOf_take_lt (l : List Bool) (j : Nat) (h : j ≤ 63) : valOf (l.take j) < 9223372036854775808 := by
  have h1 := valOf_lt (l.take j)
  have h2 : 2 ^ (l.take j).length ≤ 2 ^ 63 := Nat.pow_le_pow_right (by omega) (by rw [List.length_take]; omega)
  omega
set_option maxHeartbeats 1000000 in
theorem get_any (p : Nat) (bs : List UInt8) (at_ : Nat) (k : Int) (hS : St B w0 w (c :: F)) (hc : RdC p bs at_ c) (hn : bs.length ≤ 140737488355328) (hk0 : 0 ≤ k) (hk : k ≤ 64) (hk2 : k ≤ 8 * (bs.length : Int) - at_) :
    Calls Try.prog 26 #[.pointer (some ⟨p, 0, none⟩), .int .i64 k] w fun e w' => e = .returned (.tuple #[.int .u64 (valOf (((bitsB bs).drop at_).take k.toNat) : Int), .bool true]) ∧ ∃ c', RdC p bs (at_ + k.toNat) c' ∧ St B w0 w' (c' :: F) := by
  have hle := hc
  obtain ⟨_, _, _, _, hle⟩ := hle
  have g1 : decide (k < 0) = false := by simp; omega
  have g2 : decide (64 < k) = false := by simp; omega
  have g3 : decide (8 * (bs.length : Int) - at_ < k) = false := by simp; omega
  have HS := Lib.hid hS
  have HC := Lib.hid hc
  clear hS hc
  go_enter Try.func26, Try.ntmps26
  go_wp2_with (go_at_call 32; refine (left_any p bs at_ HS.out HC.out hn).mono ?_; rintro e w1 ⟨rfl, n, rfl⟩)
  go_loopg [6, 24] (k.toNat) (fun m s6 s24 wr => ∃ j : Nat, (j : Int) + m = k ∧ s24 = .int .i64 (j : Int) ∧ s6 = .int .u64 (valOf (((bitsB bs).drop at_).take j) : Int) ∧ ∃ c, RdC p bs (at_ + j) c ∧ St B w0 wr (c :: F))
  case atStart => exact ⟨0, by rw [Int.toNat_of_nonneg hk0]; simp, rfl, rfl, c, HC.out, HS.out.drewN _⟩
  case round =>
    clear HS HC
    obtain ⟨j, hj, rfl, rfl, c, ⟨sv, rc, rfl, hr, hl⟩, hS⟩ := hrel
    have hjk : (j : Int) ≤ k := by omega
    cases gk with
    | zero =>
      have e : k = (j : Int) := by omega
      subst e
      clear hj
      have HQ := Lib.hid (And.intro hr hl)
      clear hr hl
      go_wp2
      go_ret2
      exact ⟨by simp, _, ⟨sv, rc, rfl, HQ.out.1, HQ.out.2⟩, hS⟩
    | succ m =>
      have hlt : (j : Int) < k := by omega
      obtain ⟨b, hb1, hb2⟩ := bitsB_at (cs := bs) (k := at_ + j) (by omega)
      have hV := valOf_take_lt ((bitsB bs).drop at_) j (by omega)
      have hnext := valOf_take_succ ((bitsB bs).drop at_) j _ (by rw [List.getElem?_drop]; exact hb2)
      have hx := get_step (valOf (((bitsB bs).drop at_).take j)) b (7 - (at_ + j) % 8) (by omega) hV
      rw [← hnext] at hx
      generalize valOf (((bitsB bs).drop at_).take j) = V at *
      have hVi : (V : Int) ≤ 9223372036854775807 := by omega
      obtain ⟨g, cap, cur, rfl, _⟩ := hr.form (by omega)
      have hS2 := hS.split
      have hap := hr.apart hS2 1 0 rfl rfl (by omega)
      have hgp := hap.1
      have hpg := hap.2
      have h0 : wr.cell? ⟨p, 0, none⟩ = some (.slice (some ⟨g, 0, none⟩) bs.length cap) := hS2.cell 0 rfl (List.mem_singleton.2 rfl) 0
      have h1 : wr.cell? ⟨p, 1, none⟩ = some (.int .i64 ((at_ + j : Nat) : Int)) := hS2.cell 0 rfl (List.mem_singleton.2 rfl) 1
      have f1 : wr.frozen? ⟨p, 1, none⟩ = false := hS2.free 0 rfl (List.mem_singleton.2 rfl) 1
      have h2 := hr.cellAt hS2 1 rfl (bv_get _ _ _ hb1)
      have hix : ((at_ : Int) + j) / 8 < bs.length := by omega
      have hax : (at_ : Int) + j ≤ 1125899906842624 := by omega
      have HX := Lib.hid hx
      have HL := Lib.hid hl
      clear hx hnext hb1 hb2 hap hl hV
      go_wp2_with (first | ((with_reducible refine wpStill_plain ?_ ?_ (fun _ _ => ?_)); rfl; rfl) | (with_reducible refine wpStill_nil ?_) | ((with_reducible refine wp_draw_all (id := 6) mixed ?_ (fun _ _ => ?_)); kernel_rfl))
      go_roundg m
      case measure => omega
      case rel =>
        have hS3 := ((hS2.store 0 rfl 1 (.int .i64 ((at_ : Int) + j + 1))).drew).merge
        have hl := HL.out
        refine ⟨j + 1, by omega, by go_num, by rw [HX.out], _, ⟨.slice (some ⟨g, 0, none⟩) bs.length cap, rc, ?_, hr, by omega⟩, hS3⟩
        simp only [List.set_cons_zero, List.setIfInBounds_toArray, List.set_cons_succ]
        rw [show (((at_ + (j + 1) : Nat)) : Int) = (at_ : Int) + j + 1 from by omega]
end
end Go.Proofs.Ytdgpbgdpdmikaaa
