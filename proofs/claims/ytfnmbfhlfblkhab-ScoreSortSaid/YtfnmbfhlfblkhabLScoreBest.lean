/-
  The walk of ScoreBest.
-/
import Derived.Test.YtfnmbfhlfblkhabScoreB
import Derived.OpenShut
set_option linter.unusedVariables false
set_option linter.unusedSimpArgs false
namespace Go.Proofs.Ytfnmbfhlfblkhab
open Go.RowKit Go.ChangeShapes Go.WideShapes
set_option maxRecDepth 100000
theorem infoF64 : (Try.prog.info? 25).map (fun i => (i.zero, i.size, i.bytes)) = some (some (.float .f64 0), 1, 8) := by kernel_rfl
theorem words_of (zs : List Int) (wf : ∀ z ∈ zs, (Lit.int .u64 z).wf = true) : ∃ xs : List Nat, zs = xs.map (fun x : Nat => (x : Int)) ∧ ∀ x ∈ xs, x < 18446744073709551616 := by
  induction zs with
  | nil => exact ⟨[], rfl, by simp⟩
  | cons z zs ih =>
    obtain ⟨xs, h1, h2⟩ := ih fun y hy => wf y (by simp [hy])
    have hb := bounds_u64 (wf z (by simp))
    refine ⟨z.toNat :: xs, by rw [List.map_cons, ← h1]; congr 1; omega, fun x hx => ?_⟩
    rcases List.mem_cons.1 hx with rfl | hx
    · omega
    · exact h2 x hx
set_option maxHeartbeats 2000000 in
theorem ScoreBest_walk (w : World) (v : Value) (n : Nat) (zs : List Int) (rd : Rd w 1 v n (zs.map (Value.int .u64))) (wf : ∀ z ∈ zs, (Lit.int .u64 z).wf = true) (sz : n * 8 ≤ 140737488351232) :
    Calls Try.prog 3 #[v] w fun e w' => e = .returned (.bool true) ∧ Below w.heap.size w w' := by
  obtain ⟨i0, i0a, i0b, i0c, i0d⟩ := info_parts infoF64
  obtain ⟨xs, rfl, hxs⟩ := words_of zs wf
  have hlen := rd.len
  simp only [List.length_map, Nat.mul_one] at hlen
  obtain ⟨ao, cap, rfl⟩ := rd.shape
  have hnl : (n : Int) ≤ 140737488351232 := by omega
  clear wf
  go_enter Try.func3, Try.ntmps3
  go_wp2_with fail
  refine (begun12 w).mono ?_
  rintro e w1 ⟨rfl, hbel⟩
  have hS := ((St.init w).mono hbel).one_nil
  clear hbel
  go_wp2_with fail
  go_loopg [4, 5] (min n 30) (fun m s4 s5 wr => ∃ i : Nat, i + m = min n 30 ∧ s5 = .int .i64 (i : Int) ∧ ∃ c, RowC 25 1 s4 i (fv (xs.take i)) c ∧ St w.heap.size w wr [c])
  case atStart => exact ⟨0, by omega, rfl, [], RowC.nil _ _, hS⟩
  case round =>
    clear hS
    obtain ⟨i, hi, rfl, c, hr, hS⟩ := hrel
    obtain ⟨ao2, cap2, rfl⟩ := hr.shape
    cases gk with
    | succ m =>
      have hlt : (i : Int) < n := by omega
      have hlt2 : (i : Int) < 30 := by omega
      obtain ⟨x, hx⟩ : ∃ x, xs[i]? = some x := ⟨_, List.getElem?_eq_getElem (by omega)⟩
      obtain ⟨ad, rfl, hcell⟩ := (rd.keep hS.below).at (j := i) (u := .int .u64 (x : Int)) (by simp [hx])
      have htk : fv (xs.take (i + 1)) = fv (xs.take i) ++ [Value.float .f64 x] := by rw [List.take_add_one, hx]; simp [fv]
      have HT := Lib.hid htk
      clear htk hx
      go_wp2_with (at_builtin; (refine wpList_app1 0 24 i0 (.float .f64 0) _ _ _ rfl rfl rfl rfl Try.underlying24 i0a i0b i0c i0d rfl hS rfl hr rfl ?_ ?_ ?_); (unfold maxLen; omega); omega; intro v1 c1 w1 hr1 hs1)
      go_roundg m
      case measure => omega
      case rel => exact ⟨i + 1, by omega, by go_num, c1, by rw [HT.out]; exact hr1, hs1⟩
    | zero =>
      have hi' : i = min n 30 := by omega
      have hi30 : (i : Int) ≤ 30 := by omega
      have hll : (xs.take i).length = i := by rw [List.length_take]; omega
      have hxl : ∀ x ∈ xs.take i, x < 18446744073709551616 := fun x hx => hxs x (List.mem_of_mem_take hx)
      have hr' : RowC 25 1 (.slice ao2 (xs.take i).length cap2) (xs.take i).length (fv (xs.take i)) c := by rw [hll]; exact hr
      generalize xs.take i = l at *
      have hl30 : l.length ≤ 30 := by omega
      have hend : ¬ (i : Int) < n ∨ ((i : Int) < n ∧ ¬ (i : Int) < 30) := by omega
      clear hi hi' hr
      subst hll
      have hS0 := hS
      clear hS
      rcases hend with q | ⟨q, q2⟩
      all_goals
        go_wp2_with fail
        go_loopg [6] l.length (fun m s6 wr' => ∃ j : Nat, j + m = l.length ∧ s6 = .int .i64 (j : Int) ∧ St w.heap.size w wr' [c])
        case atStart => exact ⟨0, by omega, rfl, hS0⟩
        case round =>
          clear hS0
          obtain ⟨j, hj, rfl, hS⟩ := hrel
          cases gk with
          | succ m =>
            have hlt : j < l.length := by omega
            obtain ⟨x, hx⟩ : ∃ x, l[j]? = some x := ⟨_, List.getElem?_eq_getElem hlt⟩
            obtain ⟨ad, rfl, hcell⟩ := (hr'.rd hS 0 rfl).at (fv_get l j x hx)
            have hjl : (j : Int) < (l.length : Int) := by omega
            have hl30' : (l.length : Int) ≤ 30 := by omega
            clear hx
            go_wp2_with fail
            go_quiet (first | (go_at_call 9; exact quiet_same (sbits_sb x _)) | (go_at_call 10; exact quiet_same (floatbits_sb x _)))
            go_wp2_with fail
            go_roundg m
            case measure => omega
            case rel => exact ⟨j + 1, by omega, by go_num, hS.drewN _⟩
          | zero =>
            obtain rfl : j = l.length := by omega
            clear hj
            go_wp2_with fail
            refine (best_any _ l _ (hr'.rd hS 0 rfl) hxl (by omega)).mono ?_
            rintro e w2 ⟨rfl, rfl⟩
            go_wp2_with fail
            refine (refbest_any _ l _ (hr'.rd hS 0 rfl) hxl (by omega)).mono ?_
            rintro e w2 ⟨rfl, hd⟩
            have hS2 := hS.Drew hd
            clear hd
            go_wp2_with fail
            go_ret
            exact ⟨by simp, hS2.below⟩
end Go.Proofs.Ytfnmbfhlfblkhab
