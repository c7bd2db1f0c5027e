/-
  The walk of BitsOnes: n ones and a nought, again and again, are read one by one.
-/
import Derived.Test.YtfnmbfhlfblkhaaBitsBegun
import Derived.Test.YtfnmbfhlfblkhaaShort
import Derived.OpenShut
set_option linter.unusedVariables false
set_option linter.unusedSimpArgs false
namespace Go.Proofs.Ytfnmbfhlfblkhaa
open Go.RowKit
set_option maxRecDepth 100000
/-- How many ones a number stands for. -/
def onesOf (z : Int) : Nat := (z.tmod 64).natAbs
theorem onesOf_lt (z : Int) : onesOf z < 64 := by
  unfold onesOf
  rw [Int.natAbs_tmod]
  exact Nat.mod_lt _ (by decide)
def seg (z : Int) : List Bool := List.replicate (onesOf z) true ++ [false]
def segs (zs : List Int) : List Bool := zs.flatMap seg
theorem segs_take_succ (zs : List Int) (i : Nat) (z : Int) (h : zs[i]? = some z) : segs (zs.take (i + 1)) = segs (zs.take i) ++ seg z := by
  rw [List.take_add_one, h]
  simp [segs]
theorem segs_length_le (zs : List Int) : (segs zs).length ≤ 64 * zs.length := by
  induction zs with
  | nil => simp [segs]
  | cons z zs ih =>
    have := onesOf_lt z
    simp only [segs, List.flatMap_cons, List.length_append, List.length_cons] at ih ⊢
    simp only [seg, List.length_append, List.length_replicate, List.length_singleton]
    omega
theorem bitsOf_ones (k : Nat) (h : k ≤ 64) : bitsOf 18446744073709551615 k = List.replicate k true := by
  apply List.ext_getElem?
  intro j
  by_cases hj : j < k
  · rw [bitsOf_get _ _ _ hj, List.getElem?_replicate, if_pos hj]
    have : (18446744073709551615 : Nat) = 2 ^ 64 - 1 := by decide
    rw [this, Nat.testBit_two_pow_sub_one]
    simp; omega
  · rw [List.getElem?_eq_none (by rw [bitsOf_length]; omega), List.getElem?_eq_none (by simp; omega)]
/-- What stands behind i runs and k ones. -/
theorem segs_at (zs : List Int) (i k : Nat) (z : Int) (h : zs[i]? = some z) (hk : k ≤ onesOf z) (t : List Bool) : (segs zs ++ t)[(segs (zs.take i)).length + k]? = some (decide (k < onesOf z)) := by
  obtain ⟨hlt, e⟩ := List.getElem?_eq_some_iff.1 h
  have e1 : zs = zs.take i ++ (z :: zs.drop (i + 1)) := by
    rw [← e, ← List.drop_eq_getElem_cons hlt, List.take_append_drop]
  have e2 : segs zs = segs (zs.take i) ++ (seg z ++ segs (zs.drop (i + 1))) := by
    conv => lhs; rw [e1]
    simp [segs]
  rw [e2, List.append_assoc, List.getElem?_append_right (by omega), Nat.add_sub_cancel_left, List.append_assoc, seg, List.append_assoc]
  by_cases h1 : k < onesOf z
  · rw [List.getElem?_append_left (by simpa using h1), List.getElem?_replicate, if_pos h1]
    simp [h1]
  · have : k = onesOf z := by omega
    subst this
    rw [List.getElem?_append_right (by simp)]
    simp
theorem valOf_one (l : List Bool) (j : Nat) (x : Bool) (h : l[j]? = some x) : valOf ((l.drop j).take 1) = x.toNat := by
  obtain ⟨h3, h4⟩ := List.getElem?_eq_some_iff.1 h
  rw [List.drop_eq_getElem_cons h3]
  simp [h4, valOf]
theorem tmod_pos (z : Int) (h : ¬ z.tmod 64 < 0) : z.tmod 64 = (onesOf z : Int) := by unfold onesOf; omega
theorem tmod_neg (z : Int) (h : z.tmod 64 < 0) : -(z.tmod 64) = (onesOf z : Int) := by unfold onesOf; omega
set_option maxHeartbeats 1000000 in
theorem BitsOnes_walk (w : World) (v : Value) (n : Nat) (zs0 : List Int) (h : Rd w 1 v n (zs0.map (Value.int .i64))) (wf : ∀ z ∈ zs0, (Lit.int .i64 z).wf = true) (sz : n * 8 ≤ 140737488351232) :
    Calls Try.prog 12 #[v] w fun e w' => e = .returned (.bool true) ∧ Below w.heap.size w w' := by
  obtain ⟨ao, cap, rfl⟩ := h.shape
  have hn : (n : Int) ≤ 17592186043904 := by omega
  have hlen0 : zs0.length = n := by have := h.len; simpa using this
  obtain ⟨zs, hzs⟩ : ∃ zs, zs = zs0.take 20 := ⟨_, rfl⟩
  have hzl : zs.length = min 20 n := by rw [hzs, List.length_take, hlen0]
  have hget : ∀ (i : Nat) (z : Int), zs[i]? = some z → zs0[i]? = some z := by
    intro i z hz
    rw [hzs, List.getElem?_take] at hz
    split at hz
    · exact hz
    · simp at hz
  have HG := Lib.hid hget
  have HL := Lib.hid hzl
  clear hget hzl hzs hlen0 wf sz
  go_enter Try.func12, Try.ntmps12
  go_wp2_with fail
  refine (begun1 _).mono ?_
  rintro e w1 ⟨rfl, hb⟩
  have hS := ((St.init w).mono hb).alloc (Obj.cells #[.slice none 0 0, .int .i64 0] 39 (0, 0))
  have hc := wr_new w1.heap.size
  clear hb
  go_wp2_with fail
  go_loopg [5, 6] zs.length (fun m s5 s6 wr => ∃ i : Nat, i + m = zs.length ∧ s6 = .int .i64 (i : Int) ∧ s5 = .int .i64 ((segs (zs.take i)).length : Int) ∧ ∃ c, WrC w1.heap.size (segs (zs.take i)) c ∧ St w.heap.size w wr [c])
  case atStart => exact ⟨0, by omega, rfl, rfl, _, hc, hS⟩
  case round =>
    clear hS hc
    obtain ⟨i, hi, rfl, rfl, c, hc, hS⟩ := hrel
    have hi20 : (i : Int) ≤ 20 := by have := HL.out; omega
    have hsl : (segs (zs.take i)).length ≤ 1280 := by
      have := segs_length_le (zs.take i)
      have : (zs.take i).length ≤ 20 := by rw [List.length_take]; omega
      omega
    cases gk with
    | zero =>
      obtain rfl : i = zs.length := by omega
      rw [List.take_length] at *
      have hcase : (¬ zs.length < n) ∨ (zs.length < n ∧ ¬ (zs.length : Int) < 20) := by have := HL.out; omega
      clear hi
      rcases hcase with hk | ⟨hk, hk2⟩
      all_goals
        go_wp2_with fail
        refine (wbytes_any _ _ hS hc (by omega)).mono ?_
        rintro e w4 ⟨v4, c4, cs, rfl, hr4, hs4, hl4, hp4⟩
        replace hS := hS.join hs4
        have hcs : cs.length ≤ 200 := by omega
        have HP := Lib.hid (And.intro hl4 hp4)
        clear hl4 hp4
        go_wp2_with fail
        refine (bread_any _ cs (hr4.rd hS 0 rfl) (by omega)).mono ?_
        rintro e w5 ⟨p, c5, rfl, hrc, hs5⟩
        replace hS := (hS.join hs5).pick [0, 2] (by decide) [c5, c] rfl
        clear hr4 hs4 hs5
        go_wp2_with fail
        go_loopg [9] zs.length (fun m s9 wr => ∃ i : Nat, i + m = zs.length ∧ s9 = .int .i64 (i : Int) ∧ ∃ c5, RdC p cs (segs (zs.take i)).length c5 ∧ St w.heap.size w wr [c5, c])
        case atStart => exact ⟨0, by omega, rfl, c5, hrc, hS⟩
        case round =>
          clear hS hrc
          obtain ⟨i, hi, rfl, c5, hrc, hS⟩ := hrel
          have hsl2 : (segs (zs.take i)).length ≤ 1280 := by
            have := segs_length_le (zs.take i)
            have : (zs.take i).length ≤ 20 := by rw [List.length_take]; omega
            omega
          cases gk with
          | zero =>
            obtain rfl : i = zs.length := by omega
            rw [List.take_length] at *
            clear hi
            go_wp2_with fail
            replace hS := hS.pick [1, 0] (by decide) [c, c5] rfl
            refine (wlen_any _ _ hS hc).mono ?_
            rintro e w6 ⟨rfl, rfl⟩
            replace hS := hS.pick [1, 0] (by decide) [c5, c] rfl
            go_wp2_with fail
            refine (left_any p cs _ hS hrc (by omega)).mono ?_
            rintro e w7 ⟨rfl, nq, rfl⟩
            replace hS := (hS.drewN nq).pick [1, 0] (by decide) [c, c5] rfl
            go_wp2_with fail
            refine (wbytes_any _ _ hS hc (by omega)).mono ?_
            rintro e w8 ⟨v8, c8, cs8, rfl, hr8, hs8, hl8, hp8⟩
            obtain rfl : cs8 = cs := packed_unique hp8 HP.out.2 (hl8.trans HP.out.1.symm)
            obtain ⟨ao8, cap8, rfl⟩ := hr8.shape
            have hbel := (hS.mono hs8.below).below
            clear hl8 hp8
            go_wp2_with fail
            go_ret
            exact ⟨by simp, hbel⟩
          | succ m =>
            have hlt : i < zs.length := by omega
            obtain ⟨z, hz⟩ : ∃ z, zs[i]? = some z := ⟨_, List.getElem?_eq_getElem hlt⟩
            have hat := segs_at zs i
            have hsucc := segs_take_succ zs i z hz
            have hlen1 : (segs (zs.take (i + 1))).length = (segs (zs.take i)).length + onesOf z + 1 := by
              rw [hsucc, seg]; simp; omega
            have hle1 : (segs (zs.take (i + 1))).length ≤ 8 * cs.length := by
              have h1 : segs zs = segs (zs.take (i + 1)) ++ segs (zs.drop (i + 1)) := by
                unfold segs
                rw [← List.flatMap_append, List.take_append_drop]
              have h2 := congrArg List.length h1
              rw [List.length_append] at h2
              have := HP.out.1
              omega
            obtain ⟨ad, rfl, hcell⟩ := (h.st hS).at (j := i) (u := .int .i64 z) (by simp [HG.out i z hz])
            have hin : i < n := by have := HL.out; omega
            have hin2 : (i : Int) < 20 := by have := HL.out; omega
            have ho := onesOf_lt z
            have hb1 : z.tmod 64 < 64 := by have := Int.tmod_lt_of_pos z (show (0 : Int) < 64 by omega); omega
            have hb2 : -64 < z.tmod 64 := by have := onesOf_lt z; unfold onesOf at this; omega
            have HZ := Lib.hid hz
            have HL1 := Lib.hid (And.intro hlen1 hle1)
            clear hz hat hsucc hlen1 hle1
            go_wp2_with fail
            go_loopg [10] (onesOf z + 1) (fun m' s10 wr => ∃ k : Nat, (k + m' = onesOf z + 1 ∧ k ≤ onesOf z) ∧ s10 = .int .i64 (k : Int) ∧ ∃ c5, RdC p cs ((segs (zs.take i)).length + k) c5 ∧ St w.heap.size w wr [c5, c])
            case atStart => exact ⟨0, by omega, rfl, c5, hrc, hS⟩
            case round =>
              clear hS hrc
              obtain ⟨k, ⟨hk', hko⟩, rfl, c5, hrc, hS⟩ := hrel
              cases gk with
              | zero => omega
              | succ m' =>
                have hbit := segs_at zs i k z HZ.out hko (List.replicate (8 * cs.length - (segs zs).length) false)
                rw [← HP.out.2] at hbit
                have hval := valOf_one _ _ _ hbit
                have HV := Lib.hid hval
                clear hbit hval
                go_wp2_with fail
                refine (get_any p cs _ 1 hS hrc (by omega) (by omega) (by omega) (by have := HL1.out; omega)).mono ?_
                rintro e w6 ⟨rfl, c6, hrc, hS⟩
                rw [show (1 : Int).toNat = 1 from rfl, HV.out] at *
                by_cases hkk : k < onesOf z
                · rw [decide_eq_true hkk]
                  go_wp2_with fail
                  go_roundg m'
                  case measure => omega
                  case rel => exact ⟨k + 1, by omega, by go_num, c6, hrc, hS⟩
                · rw [decide_eq_false hkk]
                  obtain ⟨ad', e', hcell'⟩ := (h.st hS).at (j := i) (u := .int .i64 z) (by simp [HG.out i z HZ.out])
                  cases e'
                  go_upto_if 77 with (fail)
                  go_cut [13] (fun s13 wc => s13 = .int .i64 (onesOf z : Int) ∧ wc = w6)
                  case first =>
                    by_cases hneg : z.tmod 64 < 0
                    · have k1 : decide (z.tmod 64 < 0) = true := by simpa using hneg
                      have e := tmod_neg z hneg
                      go_wp2_with fail
                      go_meet
                      case rel => exact ⟨by first | rfl | rw [e], rfl⟩
                    · have k1 : decide (z.tmod 64 < 0) = false := by simpa using hneg
                      have e := tmod_pos z hneg
                      go_wp2_with fail
                      go_meet
                      case rel => exact ⟨by first | rfl | rw [e], rfl⟩
                  case rest =>
                    obtain ⟨rfl, rfl⟩ := hcut
                    obtain rfl : k = onesOf z := by omega
                    go_wp2_with fail
                    go_roundg m
                    case measure => omega
                    case rel => exact ⟨i + 1, by omega, by go_num, c6, by rw [HL1.out.1]; exact hrc, hS⟩
    | succ m =>
      have hlt : i < zs.length := by omega
      obtain ⟨z, hz⟩ : ∃ z, zs[i]? = some z := ⟨_, List.getElem?_eq_getElem hlt⟩
      obtain ⟨ad, rfl, hcell⟩ := (h.st hS).at (j := i) (u := .int .i64 z) (by simp [HG.out i z hz])
      have hin : i < n := by have := HL.out; omega
      have hin2 : (i : Int) < 20 := by have := HL.out; omega
      have ho := onesOf_lt z
      have hb1 : z.tmod 64 < 64 := by have := Int.tmod_lt_of_pos z (show (0 : Int) < 64 by omega); omega
      have hb2 : -64 < z.tmod 64 := by have := onesOf_lt z; unfold onesOf at this; omega
      have HT := Lib.hid (segs_take_succ zs i z hz)
      clear hz
      go_upto_if 35 with (fail)
      go_cut [7] (fun s7 wc => s7 = .int .i64 (onesOf z : Int) ∧ wc = wr)
      case first =>
        by_cases hneg : z.tmod 64 < 0
        · have k1 : decide (z.tmod 64 < 0) = true := by simpa using hneg
          have e := tmod_neg z hneg
          go_wp2_with fail
          go_meet
          case rel => exact ⟨by first | rfl | rw [e], rfl⟩
        · have k1 : decide (z.tmod 64 < 0) = false := by simpa using hneg
          have e := tmod_pos z hneg
          go_wp2_with fail
          go_meet
          case rel => exact ⟨by first | rfl | rw [e], rfl⟩
      case rest =>
        obtain ⟨rfl, rfl⟩ := hcut
        go_wp2_with fail
        refine (put_any _ _ 18446744073709551615 (onesOf z : Int) hS hc (by omega) (by omega) (by omega) (by omega) (by omega)).mono ?_
        rintro e w2 ⟨rfl, c, hc, hS⟩
        go_wp2_with fail
        refine (put_any _ _ 0 1 hS hc (by omega) (by omega) (by omega) (by omega) (by simp [bitsOf]; omega)).mono ?_
        rintro e w3 ⟨rfl, c, hc, hS⟩
        have e1 : segs (zs.take i) ++ bitsOf (18446744073709551615 : Int).toNat (onesOf z : Int).toNat ++ bitsOf (0 : Int).toNat (1 : Int).toNat = segs (zs.take (i + 1)) := by
          rw [HT.out, Int.toNat_natCast, show (18446744073709551615 : Int).toNat = 18446744073709551615 from rfl, bitsOf_ones _ (by omega), seg, List.append_assoc]
          rfl
        have e2 : ((segs (zs.take (i + 1))).length : Int) = (segs (zs.take i)).length + ((onesOf z : Int) + 1) := by
          rw [HT.out, seg]
          simp
        rw [e1] at hc
        have E2 := Lib.hid e2
        clear e1 e2
        go_wp2_with fail
        go_roundg m
        case measure => omega
        case rel => exact ⟨i + 1, by omega, by go_num, by rw [E2.out], c, hc, hS⟩
end Go.Proofs.Ytfnmbfhlfblkhaa
