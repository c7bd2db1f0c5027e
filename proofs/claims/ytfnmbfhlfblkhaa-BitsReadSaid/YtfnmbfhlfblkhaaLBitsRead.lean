/-
  The walk of BitsRead: any bytes are read by any widths, as far as they go.
-/
import Derived.Test.YtfnmbfhlfblkhaaBitsBegun
import Derived.Test.YtfnmbfhlfblkhaaShort
import Derived.Test.YtfnmbfhlfblkhaaRefBits
import Derived.OpenShut
set_option linter.unusedVariables false
set_option linter.unusedSimpArgs false
namespace Go.Proofs.Ytfnmbfhlfblkhaa
open Go.RowKit
set_option maxRecDepth 100000
set_option maxHeartbeats 1000000 in
theorem BitsRead_walk (w : World) (v : Value) (bs0 : List UInt8) (h : Rd w 1 v bs0.length (bv bs0)) (sz : bs0.length ≤ 140737488351232)
    (v2 : Value) (n2 : Nat) (zs : List Int) (h2 : Rd w 1 v2 n2 (zs.map (Value.int .i64))) (wf2 : ∀ z ∈ zs, (Lit.int .i64 z).wf = true) (sz2 : n2 * 8 ≤ 140737488351232) :
    Calls Try.prog 8 #[v, v2] w fun e w' => e = .returned (.bool true) ∧ Below w.heap.size w w' := by
  obtain ⟨ao2, cap2, rfl⟩ := h2.shape
  have hn2 : (n2 : Int) ≤ 17592186043904 := by omega
  go_enter Try.func8, Try.ntmps8
  go_wp2_with fail
  refine (begun1 _).mono ?_
  rintro e w1 ⟨rfl, hb⟩
  have hS := (St.init w).mono hb
  have hrd := h.keep hb
  clear hb h
  go_wp2_with fail
  refine (short_any v bs0 60 w1 hrd (by omega)).mono ?_
  rintro e w3 ⟨v3, rfl, hr3, rfl⟩
  clear hrd
  have hn : (bs0.take 60).length ≤ 60 := by simp; omega
  generalize bs0.take 60 = bs at *
  go_wp2_with fail
  refine (bread_any v3 bs hr3 (by omega)).mono ?_
  rintro e w4 ⟨p, c4, rfl, hrc, hs4⟩
  replace hS := hS.join hs4
  have hr4 := hr3.keep hs4.below
  clear hr3 hs4
  go_wp2_with fail
  refine (bits_any v3 bs _ hr4 (by omega)).mono ?_
  rintro e w5 ⟨v5, cl, rfl, hr5, hs5⟩
  replace hS := (hS.join hs5).pick [1, 0] (by decide) [c4, cl] rfl
  have hin : RdIn cl 1 v5 (8 * bs.length) (bl (bitsB bs)) := fun B w0 w L i hi h => hr5.rd h i hi
  clear hr4 hs5 hr5
  obtain ⟨ao5, cap5, rfl⟩ := (hin _ _ _ _ 1 rfl hS).shape
  go_wp2_with fail
  go_loopg [7, 8] (60 - 0) (fun m s7 s8 wr => ∃ i : Nat, i + m = 60 ∧ s8 = .int .i64 (i : Int) ∧ ∃ at_ R c4 ao cap, Hid (at_ + R = 8 * bs.length) ∧ s7 = .slice ao R cap ∧ RdIn cl 1 s7 R (bl ((bitsB bs).drop at_)) ∧ RdC p bs at_ c4 ∧ St w.heap.size w wr [c4, cl])
  case atStart => exact ⟨0, by omega, rfl, 0, 8 * bs.length, c4, ao5, cap5, Nat.zero_add _, rfl, hin, hrc, hS⟩
  case round =>
    clear hS hrc hin
    obtain ⟨i, hi, rfl, at_, R, c4, ao, cap, HR, rfl, hin, hrc, hS⟩ := hrel
    have hR1 : at_ ≤ 480 := by have := HR.out; omega
    have hR2 : R ≤ 480 := by have := HR.out; omega
    by_cases hlt : i < n2
    case neg =>
      go_wp2_with fail
      go_ret
      exact ⟨rfl, hS.below⟩
    cases gk with
    | zero =>
      obtain rfl : i = 60 := by omega
      go_wp2_with fail
      go_ret
      exact ⟨rfl, hS.below⟩
    | succ m =>
      have hz : i < zs.length := by have := h2.len; simp at this; omega
      obtain ⟨z, hzi⟩ : ∃ z, zs[i]? = some z := ⟨_, List.getElem?_eq_getElem hz⟩
      have hzb := bounds_i64 (wf2 z (List.mem_of_getElem? hzi))
      obtain ⟨ad, rfl, hcell⟩ := (h2.st hS).at (j := i) (u := .int .i64 z) (by simp [hzi])
      have hi60 : (i : Int) < 60 := by omega
      by_cases hbad : z < 0 ∨ 64 < z ∨ (R : Int) < z
      · have hcase : (decide (z < 0) = true) ∨ (decide (z < 0) = false ∧ decide (64 < z) = true) ∨ (decide (z < 0) = false ∧ decide (64 < z) = false ∧ decide ((R : Int) < z) = true) := by
          simp only [decide_eq_true_eq, decide_eq_false_iff_not]
          omega
        have hbad2 : z < 0 ∨ 64 < z ∨ 8 * (bs.length : Int) - at_ < z := by have := HR.out; omega
        have HB := Lib.hid hbad2
        clear hbad hbad2 hzi
        rcases hcase with k1 | ⟨k1, k2⟩ | ⟨k1, k2, k3⟩
        all_goals
          go_wp2_with fail
          refine (get_bad p bs at_ z hS hrc (by omega) HB.out).mono ?_
          rintro e w6 ⟨rfl, nq, rfl⟩
          go_wp2_with fail
          go_roundg m
          case measure => omega
          case rel => exact ⟨i + 1, by omega, by go_num, at_, R, c4, ao, cap, HR, rfl, hin, hrc, hS.drewN nq⟩
      · have k1 : decide (z < 0) = false := by simp; omega
        have k2 : decide (64 < z) = false := by simp; omega
        have k3 : decide ((R : Int) < z) = false := by simp; omega
        obtain ⟨q, rfl⟩ := Int.eq_ofNat_of_zero_le (show 0 ≤ z by omega)
        have hq : q ≤ 64 := by omega
        have hqR : q ≤ R := by omega
        clear hbad hzi hzb
        go_wp2_with fail
        refine (get_any p bs at_ (q : Int) hS hrc (by omega) (by omega) (by omega) (by have := HR.out; omega)).mono ?_
        rintro e w6 ⟨rfl, c6, hrc, hS⟩
        rw [Int.toNat_natCast] at *
        go_wp2_with fail
        go_loopg [12, 13] q (fun k s12 s13 wr => ∃ j : Nat, j + k = q ∧ s13 = .int .i64 (j : Int) ∧ s12 = .int .u64 (valOf (((bitsB bs).drop at_).take j) : Int) ∧ St w.heap.size w wr [c6, cl])
        case atStart => exact ⟨0, by omega, rfl, rfl, hS⟩
        case round =>
          clear hS
          obtain ⟨j, hj, rfl, rfl, hS⟩ := hrel
          cases gk with
          | zero =>
            obtain rfl : j = q := by omega
            have hnew : ∀ ao', (¬ cap = j → ao' = ao.map fun a => a.add j) → (cap = j → ao' = ao) → RdIn cl 1 (.slice ao' (R - j) (cap - j)) (R - j) (bl ((bitsB bs).drop (at_ + j))) := by
              intro ao' h1 h2 B w0 w L i hi hs
              have := (hin B w0 w L i hi hs).drop j hqR (by simpa using h1) h2
              simpa [bl, List.map_drop, List.drop_drop] using this
            have hR3 : Hid (at_ + j + (R - j) = 8 * bs.length) := by have := HR.out; unfold Hid; omega
            clear hj
            by_cases hcj : cap = j
            · subst hcj
              have h3 := hnew ao (fun h => absurd rfl h) (fun _ => rfl)
              rw [Nat.sub_self] at h3
              clear hnew
              go_wp2_with fail
              refine (left_n p bs _ (R - cap) hR3.out hS hrc (by omega)).mono ?_
              rintro e w7 ⟨rfl, nq, rfl⟩
              go_wp2_with fail
              go_roundg m
              case measure => omega
              case rel => exact ⟨i + 1, by omega, by go_num, at_ + cap, R - cap, c6, ao, 0, hR3, rfl, h3, hrc, hS.drewN nq⟩
            · have h3 := hnew _ (fun _ => rfl) (fun h => absurd h hcj)
              clear hnew
              go_wp2_with fail
              refine (left_n p bs _ (R - j) hR3.out hS hrc (by omega)).mono ?_
              rintro e w7 ⟨rfl, nq, rfl⟩
              go_wp2_with fail
              go_roundg m
              case measure => omega
              case rel => exact ⟨i + 1, by omega, by go_num, at_ + j, R - j, c6, _, _, hR3, rfl, h3, hrc, hS.drewN nq⟩
          | succ k =>
            have hjl : j < ((bitsB bs).drop at_).length := by rw [List.length_drop, bitsB_length]; have := HR.out; omega
            obtain ⟨x, hx⟩ : ∃ x, ((bitsB bs).drop at_)[j]? = some x := ⟨_, List.getElem?_eq_getElem hjl⟩
            obtain ⟨ad', rfl, hcell'⟩ := (hin.rd hS 1 rfl).at (bl_get _ j x hx)
            have hV := valOf_take_lt ((bitsB bs).drop at_) j (by omega)
            have hnext := valOf_take_succ ((bitsB bs).drop at_) j x hx
            have HN := Lib.hid hnext
            have hVi : (valOf (((bitsB bs).drop at_).take j) : Int) ≤ 9223372036854775807 := by omega
            have hj64 : (j : Int) ≤ 64 := by omega
            clear hnext hx hV
            cases x
            all_goals
              go_wp2_with fail
              go_roundg k
              case measure => omega
              case rel => exact ⟨j + 1, by omega, by go_num, by rw [HN.out]; go_num, hS⟩
end Go.Proofs.Ytfnmbfhlfblkhaa
