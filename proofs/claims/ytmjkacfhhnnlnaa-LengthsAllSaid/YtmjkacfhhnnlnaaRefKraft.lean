/-
  Contract of the reference's Kraft.
-/
import Derived.Test.YtmjkacfhhnnlnaaIv
import Derived.Test.YtmjkacfhhnnlnaaPureKraft
set_option linter.unusedVariables false
set_option linter.unusedSimpArgs false
namespace Go.Proofs.Ytmjkacfhhnnlnaa
open Go.RowKit
set_option maxRecDepth 100000
theorem kraft_step (r p : Nat) (h : r ≤ 16384000000) (hp : p ≤ 2 ^ 14) : Value.int .i64 (wrap64 ((r : Int) + wrap64 (p : Int))) = .int .i64 (((r + p : Nat) : Int)) := by
  rw [IntWalk.wrap64_in (p : Int) (by omega), IntWalk.wrap64_in _ (by omega)]
  congr 1
set_option maxHeartbeats 1000000 in
theorem refkraft_any (v : Value) (l : List Int) (w : World) (h : Rd w 1 v l.length (iv l)) (hn : l.length ≤ 1000000) :
    Calls Try.prog 9 #[v] w fun e w' => e = .returned (.int .i64 (kraftP l : Int)) ∧ w = w' := by
  obtain ⟨ao, cap, rfl⟩ := h.shape
  have hnl : (l.length : Int) ≤ 1000000 := by omega
  go_enter Try.func9, Try.ntmps9
  go_wp2_with fail
  go_loopg [3, 4] l.length (fun m s3 s4 wr => ∃ i : Nat, i + m = l.length ∧ s4 = .int .i64 (i : Int) ∧ s3 = .int .i64 (kraftP (l.take i) : Int) ∧ w = wr)
  case atStart => exact ⟨0, by omega, rfl, rfl, rfl⟩
  case round =>
    obtain ⟨i, hi, rfl, rfl, rfl⟩ := hrel
    cases gk with
    | zero =>
      obtain rfl : i = l.length := by omega
      clear hi
      rw [List.take_length] at *
      go_wp2_with fail
      go_ret
      exact ⟨rfl, rfl⟩
    | succ m =>
      have hlt : i < l.length := by omega
      obtain ⟨k, hk⟩ : ∃ k, l[i]? = some k := ⟨_, List.getElem?_eq_getElem hlt⟩
      obtain ⟨ad, rfl, hcell⟩ := h.at (iv_get l i k hk)
      have hkr := kraftP_take_succ l i k hk
      have hkl := kraftP_le (l.take i)
      have hll : (l.take i).length ≤ 1000000 := by rw [List.length_take]; omega
      have hkr16 : kraftP (l.take i) ≤ 16384000000 := by omega
      have HKR := Lib.hid hkr
      clear hkr hk hkl hll
      by_cases q1 : 1 ≤ k
      · by_cases q2 : k ≤ 15
        · obtain ⟨K, rfl⟩ := Int.eq_ofNat_of_zero_le (show 0 ≤ k by omega)
          have hK : 1 ≤ K := by omega
          have hp : 2 ^ (15 - K) ≤ 2 ^ 14 := Nat.pow_le_pow_right (by omega) (by omega)
          have HP := Lib.hid hp
          clear hp
          go_wp2_with fail
          go_roundg m
          case measure => omega
          case rel =>
            refine ⟨i + 1, by omega, by go_num, ?_, rfl⟩
            have e2 := HKR.out
            rw [if_pos ⟨q1, q2⟩, Int.toNat_natCast] at e2
            have e1 : ((2 : Int) ^ (15 - K)) = ((2 ^ (15 - K) : Nat) : Int) := by simp
            rw [e1, e2]
            exact kraft_step _ _ hkr16 HP.out
        · go_wp2_with fail
          go_roundg m
          case measure => omega
          case rel => exact ⟨i + 1, by omega, by go_num, by rw [HKR.out, if_neg (by omega)]; rfl, rfl⟩
      · go_wp2_with fail
        go_roundg m
        case measure => omega
        case rel => exact ⟨i + 1, by omega, by go_num, by rw [HKR.out, if_neg (by omega)]; rfl, rfl⟩
end Go.Proofs.Ytmjkacfhhnnlnaa
