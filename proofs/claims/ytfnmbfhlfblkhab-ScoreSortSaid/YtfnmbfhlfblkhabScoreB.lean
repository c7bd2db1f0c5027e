/-
  Contracts of score's Gain, the reference's Best, FloatBits, Ratio, Gain.
-/
import Derived.Test.YtfnmbfhlfblkhabScoreBegun
set_option linter.unusedVariables false
set_option linter.unusedSimpArgs false
namespace Go.Proofs.Ytfnmbfhlfblkhab
open Go.RowKit
set_option maxRecDepth 100000
theorem floatbits_any (x : Nat) (w : World) : Calls Try.prog 10 #[.float .f64 x] w fun e w' => e = .returned (.int .u64 (if nanB x then 9221120237041090561 else (x : Int))) ∧ w = w' := by
  have h := order_self x
  have h2 : (FloatKind.f64.format.order x x != some .eq) = nanB x := by
    show (!(Ieee.double.order x x == some .eq)) = _
    rw [h]; simp
  clear h
  cases hn : nanB x with
  | true =>
    rw [hn] at h2
    go_enter Try.func10, Try.ntmps10
    go_wp2_with fail
    go_ret
    exact ⟨rfl, rfl⟩
  | false =>
    rw [hn] at h2
    go_enter Try.func10, Try.ntmps10
    go_wp2_with fail
    go_ret
    exact ⟨rfl, rfl⟩
/-- A float's bits, all NaNs being one. -/
def sbP (x : Nat) : Int := if nanB x then 9221120237041090561 else (x : Int)
theorem sbits_sb (x : Nat) (w : World) : Calls Try.prog 9 #[.float .f64 x] w fun e w' => e = .returned (.int .u64 (sbP x)) ∧ w = w' := sbits_any x w
theorem floatbits_sb (x : Nat) (w : World) : Calls Try.prog 10 #[.float .f64 x] w fun e w' => e = .returned (.int .u64 (sbP x)) ∧ w = w' := floatbits_any x w
theorem fkey_neg (x : Nat) : fkey x < 0 ↔ 9223372036854775808 ≤ x := by
  unfold fkey
  split <;> omega
set_option maxHeartbeats 2000000 in
theorem refbest_any (v : Value) (l : List Nat) (w : World) (h : Rd w 1 v l.length (fv l)) (hl : ∀ x ∈ l, x < 18446744073709551616) (hn : l.length ≤ 1000000) :
    Calls Try.prog 12 #[v] w fun e w' => e = .returned (.int .i64 (bestFrom l l 0 (-1))) ∧ Drew w w' := by
  obtain ⟨ao, cap, rfl⟩ := h.shape
  have hnl : (l.length : Int) ≤ 1000000 := by omega
  go_enter Try.func12, Try.ntmps12
  go_wp2_with fail
  go_loopg [3, 4] l.length (fun m s3 s4 wr => ∃ (i : Nat) (k : Int), i + m = l.length ∧ s4 = .int .i64 (i : Int) ∧ s3 = .int .i64 k ∧ Hid (bestFrom l (l.drop i) i k = bestFrom l l 0 (-1)) ∧ (-1 ≤ k ∧ k < i) ∧ Drew w wr)
  case atStart => exact ⟨0, -1, by omega, rfl, rfl, Lib.hid rfl, by omega, Drew.refl _⟩
  case round =>
    obtain ⟨i, k, hi, rfl, rfl, HK, hk, hdr⟩ := hrel
    obtain ⟨nd, rfl⟩ := hdr.out
    cases gk with
    | zero =>
      obtain rfl : i = l.length := by omega
      clear hi
      have hq := HK.out
      rw [List.drop_length, bestFrom] at hq
      have HQ := Lib.hid hq
      clear hq
      go_wp2_with fail
      go_ret
      exact ⟨by rw [← HQ.out]; rfl, Drew.mk _ _⟩
    | succ m =>
      have hlt : i < l.length := by omega
      obtain ⟨x, hx⟩ : ∃ x, l[i]? = some x := ⟨_, List.getElem?_eq_getElem hlt⟩
      have hxl := hl x (List.mem_of_getElem? hx)
      have h' := h.drewN nd
      obtain ⟨ad, rfl, hcell⟩ := h'.at (fv_get l i x hx)
      have hd : l.drop i = x :: l.drop (i + 1) := by rw [List.drop_eq_getElem_cons hlt]; congr 1; exact (List.getElem?_eq_some_iff.1 hx).2
      have hq := HK.out
      rw [hd, bestFrom] at hq
      have hxi := fv_get l i x hx
      clear hd hx HK
      have hki := fkey_neg x
      generalize hw : w.drewN nd = wr at *
      cases hna : nanB x with
      | true =>
        rw [if_pos (.inl hna)] at hq
        have HQ := Lib.hid hq
        clear hq hxi
        go_wp2_with fail
        refine (refkey_any x wr hxl).mono ?_
        rintro e w1 ⟨rfl, rfl⟩
        rw [hna]
        go_wp2_with fail
        go_roundg m
        case measure => omega
        case rel => exact ⟨i + 1, k, by omega, by go_num, rfl, HQ, by omega, hw ▸ Drew.mk _ _⟩
      | false =>
        by_cases q1 : 9223372036854775808 ≤ x
        · rw [if_pos (.inr q1)] at hq
          have HQ := Lib.hid hq
          have q1' := hki.2 q1
          clear hq hxi
          go_wp2_with fail
          refine (refkey_any x wr hxl).mono ?_
          rintro e w1 ⟨rfl, rfl⟩
          rw [hna]
          generalize fkey x = fk at *
          go_wp2_with fail
          go_roundg m
          case measure => omega
          case rel => exact ⟨i + 1, k, by omega, by go_num, rfl, HQ, by omega, hw ▸ Drew.mk _ _⟩
        · rw [if_neg (by simp [hna]; omega)] at hq
          have q1' : ¬ fkey x < 0 := fun h => q1 (hki.1 h)
          by_cases q2 : k < 0
          · rw [if_pos q2] at hq
            have HQ := Lib.hid hq
            clear hq hxi
            have d2 : decide (k < 0) = true := decide_eq_true q2
            go_wp2_with fail
            refine (refkey_any x wr hxl).mono ?_
            rintro e w1 ⟨rfl, rfl⟩
            rw [hna]
            generalize fkey x = fk at *
            go_wp2_with fail
            go_quiet (fail)
            go_wp2_with fail
            go_roundg m
            case measure => omega
            case rel => exact ⟨i + 1, i, by omega, by go_num, rfl, HQ, by omega, hw ▸ (by rw [World.drewN_drewN]; exact Drew.mk _ _)⟩
          · rw [if_neg q2] at hq
            obtain ⟨K, rfl⟩ := Int.eq_ofNat_of_zero_le (show 0 ≤ k by omega)
            obtain ⟨y, hy⟩ : ∃ y, l[K]? = some y := ⟨_, List.getElem?_eq_getElem (by omega)⟩
            have hyl := hl y (List.mem_of_getElem? hy)
            obtain ⟨ad', e', hcell'⟩ := h'.at (fv_get l K y hy)
            cases e'
            rw [Int.toNat_natCast, hy, Option.getD_some] at hq
            clear hy
            have hK : (K : Int) < (l.length : Int) := by omega
            have d2 : decide ((K : Int) < 0) = false := decide_eq_false q2
            have hiN : (i : Int) < (l.length : Int) := by omega
            cases hlp : lessP y x with
            | true =>
              rw [hlp, if_pos rfl] at hq
              have HQ := Lib.hid hq
              clear hq
              go_wp2_with fail
              refine (refkey_any x wr hxl).mono ?_
              rintro e w1 ⟨rfl, rfl⟩
              rw [hna]
              have hle : ∀ n, Calls Try.prog 25 #[.float .f64 y, .float .f64 x] (wr.drewN n) fun e w'' => e = .returned (.bool true) ∧ ∃ m, w'' = wr.drewN m := fun n => quiet_same (hlp ▸ refless_any y x _ hyl hxl)
              generalize fkey x = fk at *
              go_wp2_with fail
              go_quiet ((go_at_call 25; exact hle _))
              go_wp2_with fail
              go_roundg m
              case measure => omega
              case rel => exact ⟨i + 1, i, by omega, by go_num, rfl, HQ, by omega, hw ▸ (by rw [World.drewN_drewN]; exact Drew.mk _ _)⟩
            | false =>
              rw [hlp, if_neg (by simp)] at hq
              have HQ := Lib.hid hq
              clear hq
              go_wp2_with fail
              refine (refkey_any x wr hxl).mono ?_
              rintro e w1 ⟨rfl, rfl⟩
              rw [hna]
              have hle : ∀ n, Calls Try.prog 25 #[.float .f64 y, .float .f64 x] (wr.drewN n) fun e w'' => e = .returned (.bool false) ∧ ∃ m, w'' = wr.drewN m := fun n => quiet_same (hlp ▸ refless_any y x _ hyl hxl)
              generalize fkey x = fk at *
              go_wp2_with fail
              go_quiet ((go_at_call 25; exact hle _))
              go_wp2_with fail
              go_roundg m
              case measure => omega
              case rel => exact ⟨i + 1, K, by omega, by go_num, rfl, HQ, by omega, hw ▸ (by rw [World.drewN_drewN]; exact Drew.mk _ _)⟩
end Go.Proofs.Ytfnmbfhlfblkhab
