/-
  The walk of CodesOf.
-/
import Derived.Test.YtdgpbgdpdmikaaaCodesBegun
import Derived.Test.YtdgpbgdpdmikaaaCodesRef
set_option linter.unusedVariables false
set_option linter.unusedSimpArgs false
namespace Go.Proofs.Ytdgpbgdpdmikaaa
open Go.RowKit
set_option maxRecDepth 100000

set_option maxHeartbeats 2000000 in
theorem CodesOf_walk (w : World) (v : Value) (n : Nat) (zs : List Int) (rd : Rd w 1 v n (zs.map (Value.int .i64))) (_wf : ∀ z ∈ zs, (Lit.int .i64 z).wf = true) (sz : n * 8 ≤ 140737488351232) :
    Calls Try.prog 3 #[v] w fun e w' => e = .returned (.bool true) ∧ Below w.heap.size w w' := by
  have hlen := rd.len
  simp only [List.length_map, Nat.mul_one] at hlen
  subst hlen
  replace rd : Rd w 1 v zs.length (iv zs) := rd
  go_enter Try.func3, Try.ntmps3
  go_wp2_with fail
  refine (begun7 _).mono ?_
  rintro e w1 ⟨rfl, hb⟩
  have hS := (St.init w).mono hb
  have hrd := rd.keep hb
  clear hb rd
  go_wp2_with fail
  refine (cut7_any _ zs w1 hrd).mono ?_
  rintro e w2 ⟨v2, rfl, h, rfl⟩
  have hll : (zs.take 302).length ≤ 302 := by rw [List.length_take]; omega
  generalize zs.take 302 = l at *
  obtain ⟨ao, cap, rfl⟩ := h.shape
  clear hrd
  cases hok : okLens l with
  | false =>
    go_wp2_with fail
    refine (of_bad _ l w1 h (by omega) hok).mono ?_
    rintro e w3 ⟨rfl, hS3⟩
    have h3 := h.keep hS3.below
    replace hS := hS.mono hS3.below
    go_wp2_with fail
    refine (refcodes_bad _ l w3 h3 (by omega) hok).mono ?_
    rintro e w4 ⟨rfl, rfl⟩
    go_wp2_with fail
    go_ret
    exact ⟨rfl, hS.below⟩
  | true =>
    have hok2 := (okLens_iff l).1 hok
    have hl3 := hok2.1
    have hkr := hok2.2.1
    have HALL := Lib.hid hok2.2.2
    clear hok2
    go_wp2_with fail
    refine (of_ok _ l w1 h hl3 hok).mono ?_
    rintro e w3 ⟨u, cC, rfl, hrC, hS3⟩
    have h3 := h.keep hS3.below
    replace hS := hS.join hS3
    go_wp2_with fail
    refine (refcodes_ok _ l w3 h3 hl3 hok).mono ?_
    rintro e w4 ⟨u4, cU, rfl, hrU, hS4⟩
    have h4 := h3.keep hS4.below
    replace hS := hS.join hS4
    replace hS : St w.heap.size w w4 [cU, cC] := hS
    obtain ⟨aoC, capC, rfl⟩ := hrC.shape
    obtain ⟨aoU, capU, rfl⟩ := hrU.shape
    have hnl : (l.length : Int) ≤ 300 := by omega
    clear hS3 hS4 hok h h3
    go_wp2_with fail
    go_loopg [8] l.length (fun m s8 wr => ∃ i : Nat, i + m = l.length ∧ s8 = .int .i64 (i : Int) ∧ Drew w4 wr)
    case atStart => exact ⟨0, by omega, rfl, Drew.refl _⟩
    case round =>
      obtain ⟨i, hi, rfl, hd⟩ := hrel
      obtain ⟨n, rfl⟩ := hd.out
      cases gk with
      | zero =>
        obtain rfl : i = l.length := by omega
        go_wp2_with fail
        go_ret
        exact ⟨rfl, (hS.drewN n).below⟩
      | succ m =>
        have hlt : i < l.length := by omega
        obtain ⟨k, hk⟩ : ∃ k, l[i]? = some k := ⟨_, List.getElem?_eq_getElem hlt⟩
        have hk0 := HALL.out k (List.mem_of_getElem? hk)
        obtain ⟨K, rfl⟩ := Int.eq_ofNat_of_zero_le hk0.1
        have hS' := hS.drewN (n + 1)
        obtain ⟨ad, rfl, hcell⟩ := (h4.drewN (n + 1)).at (iv_get l i _ hk)
        obtain ⟨gC, rfl⟩ := hrC.head (by omega)
        have hl1 := hrC.cellAt hS' 1 rfl (codesV_at l i K hk).1
        have hl2 := hrC.cellAt hS' 1 rfl (codesV_at l i K hk).2
        obtain ⟨gU, rfl⟩ := hrU.head (by omega)
        have hl3 := hrU.cellAt hS' 0 rfl (uv_get (codeU l) l.length i hlt)
        have hcu : (codeU l i : Int) = if 0 < K then (codeP l i : Int) else 0 := by
          unfold codeU
          rw [List.getD_eq_getElem?_getD, hk]
          by_cases e : 0 < K
          · have : (0 : Int) < (K : Int) := by omega
            simp [e, this]
          · have : ¬ (0 : Int) < (K : Int) := by omega
            simp [e, this]
        rw [hcu] at hl3
        clear hk hcu
        by_cases hK : 0 < K
        · rw [if_pos hK] at hl1 hl3
          have q1 : (0 : Int) < (K : Int) := by omega
          go_wp2_with (first | ((with_reducible refine wp_draw_all (id := 14) mixed ?_ (fun _ _ => ?_)); kernel_rfl) | ((with_reducible refine wpStill_plain ?_ ?_ (fun _ _ => ?_)); rfl; rfl) | ((with_reducible refine wpStill_want ?_ ?_ (fun _ _ => ?_)); (focus (simp [Region.wanted, yielded]; done)); rfl) | ((with_reducible refine wpStill_skip ?_ ?_); (focus (simp [Region.wanted, yielded]; done)); (simp only [Act.put, List.setIfInBounds_toArray, List.set_cons_zero, List.set_cons_succ])) | (with_reducible refine wpStill_nil ?_))
          go_roundg m
          case measure => omega
          case rel => exact ⟨i + 1, by omega, by go_num, Drew.then _ _⟩
        · obtain rfl : K = 0 := by omega
          rw [if_neg hK] at hl1 hl3
          replace hl2 : _ = some (Value.int .i64 0) := hl2
          replace hcell : _ = some (Value.int .i64 0) := hcell
          clear hK
          go_wp2_with (first | ((with_reducible refine wp_draw_all (id := 14) mixed ?_ (fun _ _ => ?_)); kernel_rfl) | ((with_reducible refine wpStill_plain ?_ ?_ (fun _ _ => ?_)); rfl; rfl) | ((with_reducible refine wpStill_want ?_ ?_ (fun _ _ => ?_)); (focus (simp [Region.wanted, yielded]; done)); rfl) | ((with_reducible refine wpStill_skip ?_ ?_); (focus (simp [Region.wanted, yielded]; done)); (simp only [Act.put, List.setIfInBounds_toArray, List.set_cons_zero, List.set_cons_succ])) | (with_reducible refine wpStill_nil ?_))
          go_roundg m
          case measure => omega
          case rel => exact ⟨i + 1, by omega, by go_num, Drew.then _ _⟩
end Go.Proofs.Ytdgpbgdpdmikaaa
