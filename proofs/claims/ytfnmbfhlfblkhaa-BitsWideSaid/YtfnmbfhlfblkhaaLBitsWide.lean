/-
  The walk of BitsWide: a number of 64 bits at any place of a byte is read again.
-/
import Derived.Test.YtfnmbfhlfblkhaaBitsBegun
import Derived.OpenShut
set_option linter.unusedVariables false
set_option linter.unusedSimpArgs false
namespace Go.Proofs.Ytfnmbfhlfblkhaa
open Go.RowKit
set_option maxRecDepth 100000
/-- What the lead is. -/
def leadBits (n : Nat) : List Bool := (List.range n).map fun i => i.testBit 0
theorem leadBits_succ (n : Nat) : leadBits (n + 1) = leadBits n ++ bitsOf n 1 := by simp [leadBits, List.range_succ, bitsOf]
theorem take_mid {α : Type} (a b c : List α) (n m : Nat) (hn : a.length = n) (hm : b.length = m) : ((a ++ b ++ c).drop n).take m = b := by
  subst hn; subst hm
  simp
theorem lead_at (n j : Nat) (t : List Bool) (h : j < n) : valOf (((leadBits n ++ t).drop j).take 1) = j % 2 := by
  have h1 : (leadBits n ++ t)[j]? = some (j.testBit 0) := by
    rw [List.getElem?_append_left (by simp [leadBits]; exact h)]
    simp [leadBits, h]
  have h2 : ((leadBits n ++ t).drop j).take 1 = [j.testBit 0] := by
    obtain ⟨h3, h4⟩ := List.getElem?_eq_some_iff.1 h1
    rw [List.drop_eq_getElem_cons h3]
    simp [h4]
  rw [h2]
  simp [valOf, Nat.testBit_zero]
  have : j % 2 < 2 := Nat.mod_lt _ (by omega)
  by_cases e : j % 2 = 1
  · simp [e]
  · have : j % 2 = 0 := by omega
    simp [this]
set_option maxHeartbeats 1000000 in
theorem BitsWide_walk (lead : Int) (_wf0 : (Lit.int .i64 lead).wf = true) (v : Int) (wf1 : (Lit.int .u64 v).wf = true) (w : World) : Calls Try.prog 10 #[.int .i64 lead, .int .u64 v] w fun e w' => e = .returned (.bool true) ∧ Below w.heap.size w w' := by
  have hv := bounds_u64 wf1
  have hv0 := hv.1
  have hv1 := hv.2
  clear hv wf1 _wf0
  by_cases hb : lead < 0 ∨ 20 < lead
  · rcases hb with h | h
    · go_enter Try.func10, Try.ntmps10
      go_wp2_with (go_at_call 21; refine (begun1 _).mono ?_; rintro e w1 ⟨rfl, hb⟩)
      go_ret
      exact ⟨rfl, hb⟩
    · have h' : decide (lead < 0) = false := by simp; omega
      go_enter Try.func10, Try.ntmps10
      go_wp2_with (go_at_call 21; refine (begun1 _).mono ?_; rintro e w1 ⟨rfl, hb⟩)
      go_ret
      exact ⟨rfl, hb⟩
  · have h1 : decide (lead < 0) = false := by simp; omega
    have h2 : decide (20 < lead) = false := by simp; omega
    obtain ⟨n, rfl⟩ := Int.eq_ofNat_of_zero_le (show 0 ≤ lead by omega)
    have hn : n ≤ 20 := by omega
    clear hb
    go_enter Try.func10, Try.ntmps10
    go_wp2_with (go_at_call 21; refine (begun1 _).mono ?_; rintro e w1 ⟨rfl, hb⟩)
    have hS := ((St.init w).mono hb).alloc (Obj.cells #[.slice none 0 0, .int .i64 0] 39 (0, 0))
    have hc := wr_new w1.heap.size
    clear hb
    go_loopg [7] n (fun m s7 wr => ∃ i : Nat, i + m = n ∧ s7 = .int .i64 (i : Int) ∧ ∃ c, WrC w1.heap.size (leadBits i) c ∧ St w.heap.size w wr [c])
    case atStart => exact ⟨0, by omega, rfl, _, hc, hS⟩
    case round =>
      clear hS hc
      obtain ⟨i, hi, rfl, c, hc, hS⟩ := hrel
      cases gk with
      | zero =>
        have e : i = n := by omega
        subst e
        clear hi
        go_wp2_with fail
        refine (put_any _ _ v 64 hS hc hv0 hv1 (by omega) (by omega) (by simp [leadBits]; omega)).mono ?_
        rintro e w2 ⟨rfl, c, hc, hS⟩
        go_wp2_with fail
        refine (put_any _ _ 5 3 hS hc (by omega) (by omega) (by omega) (by omega) (by simp [leadBits, bitsOf]; omega)).mono ?_
        rintro e w3 ⟨rfl, c, hc, hS⟩
        have hlen : (leadBits i ++ bitsOf v.toNat (64 : Int).toNat ++ bitsOf (5 : Int).toNat (3 : Int).toNat).length = i + 67 := by simp [leadBits, bitsOf]
        obtain ⟨L, hL⟩ : ∃ L, L = leadBits i ++ bitsOf v.toNat (64 : Int).toNat ++ bitsOf (5 : Int).toNat (3 : Int).toNat := ⟨_, rfl⟩
        rw [← hL] at hc hlen
        have HLen := Lib.hid hlen
        clear hlen
        go_wp2_with fail
        refine (wbytes_any _ _ hS hc (by have := HLen.out; omega)).mono ?_
        rintro e w4 ⟨v4, c4, cs, rfl, hr4, hs4, hl4, hp4⟩
        replace hS := hS.join hs4
        have hcs : cs.length ≤ 20 := by have := HLen.out; omega
        have hp5 : Hid (bitsB cs = leadBits i ++ (bitsOf v.toNat 64 ++ (bitsOf 5 3 ++ List.replicate (8 * cs.length - L.length) false)) ∧ i + 67 ≤ 8 * cs.length) := by
          refine ⟨?_, ?_⟩
          · rw [hp4, hL]; simp
          · have := HLen.out; omega
        clear hl4 hp4 hL hc HLen
        go_wp2_with fail
        refine (bread_any _ cs (hr4.rd hS 0 rfl) (by omega)).mono ?_
        rintro e w5 ⟨p, c5, rfl, hrc, hs5⟩
        replace hS := hS.join hs5
        clear hr4 hs4 hs5
        go_wp2_with fail
        go_loopg [9] i (fun m s9 wr => ∃ j : Nat, j + m = i ∧ s9 = .int .i64 (j : Int) ∧ ∃ c', RdC p cs j c' ∧ St w.heap.size w wr (c' :: [c4, c]))
        case atStart => exact ⟨0, by omega, rfl, c5, hrc, hS⟩
        case round =>
          clear hS hrc
          obtain ⟨j, hj, rfl, c', hrc, hS⟩ := hrel
          obtain ⟨hq1, hq2⟩ := hp5.out
          cases gk with
          | zero =>
            have e : j = i := by omega
            subst e
            have hx := take_mid (leadBits j) (bitsOf v.toNat 64) (bitsOf 5 3 ++ List.replicate (8 * cs.length - L.length) false) j 64 (by simp [leadBits]) (bitsOf_length _ _)
            have hy := take_mid (leadBits j ++ bitsOf v.toNat 64) (bitsOf 5 3) (List.replicate (8 * cs.length - L.length) false) (j + 64) 3 (by simp [leadBits, bitsOf]) (bitsOf_length _ _)
            rw [List.append_assoc, ← hq1] at hx
            rw [List.append_assoc, List.append_assoc, ← hq1] at hy
            have HX := Lib.hid hx
            have HY := Lib.hid hy
            clear hj hq1 hx hy
            go_wp2_with fail
            refine (get_any p cs j 64 hS hrc (by omega) (by omega) (by omega) (by omega)).mono ?_
            rintro e w6 ⟨rfl, c6, hrc, hS⟩
            have e1 : (valOf (((bitsB cs).drop j).take (64 : Int).toNat) : Int) = v := by
              rw [show (64 : Int).toNat = 64 from rfl, HX.out, valOf_bitsOf]
              omega
            rw [e1]
            clear e1
            go_wp2_with fail
            refine (get_any p cs _ 3 hS hrc (by omega) (by omega) (by omega) (by simp; omega)).mono ?_
            rintro e w7 ⟨rfl, c7, hrc, hS⟩
            have e1 : (valOf (((bitsB cs).drop (j + (64 : Int).toNat)).take (3 : Int).toNat) : Int) = 5 := by
              rw [show (3 : Int).toNat = 3 from rfl, show (64 : Int).toNat = 64 from rfl, HY.out]
              decide
            rw [e1]
            clear e1
            go_wp2_with fail
            go_ret
            exact ⟨rfl, hS.below⟩
          | succ m =>
            have hlt : j < i := by omega
            have hj20 : (j : Int) ≤ 20 := by omega
            have hx := lead_at i j (bitsOf v.toNat 64 ++ (bitsOf 5 3 ++ List.replicate (8 * cs.length - L.length) false)) hlt
            rw [← hq1] at hx
            have HX := Lib.hid hx
            clear hq1 hx
            go_wp2_with fail
            refine (get_any p cs j 1 hS hrc (by omega) (by omega) (by omega) (by omega)).mono ?_
            rintro e w6 ⟨rfl, c6, hrc, hS⟩
            have e1 : (valOf (((bitsB cs).drop j).take (1 : Int).toNat) : Int) = (j : Int) % 2 := by
              rw [show (1 : Int).toNat = 1 from rfl, HX.out]
              omega
            rw [e1]
            clear e1
            go_wp2_with fail
            go_roundg m
            case measure => omega
            case rel => exact ⟨j + 1, by omega, by go_num, c6, hrc, hS⟩
      | succ m =>
        have hlt : i < n := by omega
        have hi64 : (i : Int) ≤ 20 := by omega
        go_wp2_with fail
        refine (put_any _ _ (i : Int) 1 hS hc (by omega) (by omega) (by omega) (by omega) (by simp [leadBits]; omega)).mono ?_
        rintro e w2 ⟨rfl, c, hc, hS⟩
        have e1 : leadBits i ++ bitsOf (i : Int).toNat (1 : Int).toNat = leadBits (i + 1) := by rw [leadBits_succ]; simp
        rw [e1] at hc
        clear e1
        go_wp2_with fail
        go_roundg m
        case measure => omega
        case rel => exact ⟨i + 1, by omega, by go_num, c, hc, hS⟩
end Go.Proofs.Ytfnmbfhlfblkhaa
