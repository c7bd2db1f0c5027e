/-
  The walk of CodesApart.
-/
import Derived.Test.YtdgpbgdpdmikaaaCodesBegun
set_option linter.unusedVariables false
set_option linter.unusedSimpArgs false
namespace Go.Proofs.Ytdgpbgdpdmikaaa
open Go.RowKit
set_option maxRecDepth 100000
set_option maxHeartbeats 4000000 in
theorem CodesApart_walk (w : World) (v : Value) (n : Nat) (zs : List Int) (rd : Rd w 1 v n (zs.map (Value.int .i64))) (_wf : ∀ z ∈ zs, (Lit.int .i64 z).wf = true) (sz : n * 8 ≤ 140737488351232) :
    Calls Try.prog 7 #[v] w fun e w' => e = .returned (.bool true) ∧ Below w.heap.size w w' := by
  have hlen := rd.len
  simp only [List.length_map, Nat.mul_one] at hlen
  subst hlen
  replace rd : Rd w 1 v zs.length (iv zs) := rd
  obtain ⟨ao, cap, rfl⟩ := rd.shape
  have hsm := rd.small
  have hcp := rd.cap.1
  have hcp2 := rd.cap.2
  clear sz _wf
  go_enter Try.func7, Try.ntmps7
  go_wp2_with fail
  refine (begun7 _).mono ?_
  rintro e w1 ⟨rfl, hb⟩
  have hS := (St.init w).mono hb
  clear hb
  go_upto_if 13 with (fail)
  go_cut [0] (fun s0 wc => w1 = wc ∧ ∃ l : List Int, Rd w 1 s0 l.length (iv l) ∧ l.length ≤ 40)
  case first =>
    by_cases q : 40 < zs.length
    · have q' : (40 : Int) < zs.length := by omega
      have hcap : ao ≠ none := by
        rintro rfl
        have := rd.none_iff
        omega
      obtain ⟨ad, rfl⟩ : ∃ ad, ao = some ad := by cases ao with | none => exact absurd rfl hcap | some ad => exact ⟨ad, rfl⟩
      clear hcap
      go_wp2_with fail
      go_meet
      case rel =>
        refine ⟨rfl, zs.take 40, ?_, by simp; omega⟩
        have := rd.take 40 (by omega)
        rw [Nat.mul_one] at this
        rw [show (zs.take 40).length = 40 from by simp; omega]
        simpa [iv] using this
    · have q' : ¬ (40 : Int) < zs.length := by omega
      go_wp2_with fail
      go_meet
      case rel => exact ⟨rfl, zs, rd, by omega⟩
  case rest =>
    obtain ⟨rfl, l, h, hl40⟩ := hcut
    clear rd hsm hcp hcp2
    obtain ⟨ao2, cap2, rfl⟩ := h.shape
    cases hok : okLens l with
    | false =>
      go_wp2_with fail
      refine (of_bad _ l w1 (h.keep hS.below) (by omega) hok).mono ?_
      rintro e w3 ⟨rfl, hS3⟩
      replace hS := hS.mono hS3.below
      go_wp2_with fail
      go_ret
      exact ⟨rfl, hS.below⟩
    | true =>
      have hok2 := (okLens_iff l).1 hok
      have hkr := hok2.2.1
      have HALL := Lib.hid hok2.2.2
      clear hok2
      go_wp2_with fail
      refine (of_ok _ l w1 (h.keep hS.below) (by omega) hok).mono ?_
      rintro e w3 ⟨u, cC, rfl, hrC, hS3⟩
      replace hS := hS.join hS3
      replace hS : St w.heap.size w w3 [cC] := hS
      obtain ⟨aoC, capC, rfl⟩ := hrC.shape
      have hnl : (l.length : Int) ≤ 40 := by omega
      have hcp := hrC.cap
      clear hS3 hok h
      go_wp2_with fail
      go_loopg [6] l.length (fun m s6 wr => ∃ i : Nat, i + m = l.length ∧ s6 = .int .i64 (i : Int) ∧ Drew w3 wr)
      case atStart => exact ⟨0, by omega, rfl, Drew.refl _⟩
      case round =>
        obtain ⟨i, hi, rfl, hd⟩ := hrel
        obtain ⟨n, rfl⟩ := hd.out
        cases gk with
        | zero =>
          obtain rfl : i = l.length := by omega
          go_wp2_with fail
          go_ret
          exact ⟨rfl, (hS.drewN n).below⟩
        | succ m =>
          have hlt : i < l.length := by omega
          obtain ⟨x, hx⟩ : ∃ x, l[i]? = some x := ⟨_, List.getElem?_eq_getElem hlt⟩
          have hx0 := HALL.out x (List.mem_of_getElem? hx)
          obtain ⟨K, rfl⟩ := Int.eq_ofNat_of_zero_le hx0.1
          obtain ⟨gC, rfl⟩ := hrC.head (by omega)
          have HX := Lib.hid hx
          clear hx
          go_wp2_with fail
          go_loopg [7] l.length (fun mk s7 wr => ∃ k : Nat, k + mk = l.length ∧ s7 = .int .i64 (k : Int) ∧ Drew w3 wr)
          case atStart => exact ⟨0, by omega, rfl, Drew.mk _ _⟩
          case round =>
            obtain ⟨k, hk, rfl, hd⟩ := hrel
            obtain ⟨n, rfl⟩ := hd.out
            cases gk with
            | zero =>
              obtain rfl : k = l.length := by omega
              go_wp2_with fail
              go_roundg m
              case measure => omega
              case rel => exact ⟨i + 1, by omega, by go_num, Drew.mk _ _⟩
            | succ mk =>
              have hlt2 : k < l.length := by omega
              obtain ⟨y, hy⟩ : ∃ y, l[k]? = some y := ⟨_, List.getElem?_eq_getElem hlt2⟩
              have hy0 := HALL.out y (List.mem_of_getElem? hy)
              obtain ⟨M, rfl⟩ := Int.eq_ofNat_of_zero_le hy0.1
              have HY := Lib.hid hy
              have hl1 := hrC.cellAt hS 0 rfl (codesV_at l i K HX.out).1
              have hl2 := hrC.cellAt hS 0 rfl (codesV_at l i K HX.out).2
              have hl3 := hrC.cellAt hS 0 rfl (codesV_at l k M hy).1
              have hl4 := hrC.cellAt hS 0 rfl (codesV_at l k M hy).2
              clear hy
              by_cases hik : i = k
              · subst hik
                go_wp2_with (first | ((with_reducible refine wp_draw_all (id := 15) mixed ?_ (fun _ _ => ?_)); kernel_rfl) | ((with_reducible refine wpStill_plain ?_ ?_ (fun _ _ => ?_)); rfl; rfl) | ((with_reducible refine wpStill_want ?_ ?_ (fun _ _ => ?_)); (focus (simp [Region.wanted, yielded]; done)); rfl) | ((with_reducible refine wpStill_skip ?_ ?_); (focus (simp [Region.wanted, yielded]; done)); (simp only [Act.put, List.setIfInBounds_toArray, List.set_cons_zero, List.set_cons_succ])) | (with_reducible refine wpStill_nil ?_))
                go_roundg mk
                case measure => omega
                case rel => exact ⟨i + 1, by omega, by go_num, Drew.then _ _⟩
              have q1 : ((i : Int) == (k : Int)) = false := by rw [beq_eq_false_iff_ne]; omega
              by_cases hK : K = 0
              · subst hK
                replace hl2 : _ = some (Value.int .i64 0) := hl2
                go_wp2_with (first | ((with_reducible refine wp_draw_all (id := 15) mixed ?_ (fun _ _ => ?_)); kernel_rfl) | ((with_reducible refine wpStill_plain ?_ ?_ (fun _ _ => ?_)); rfl; rfl) | ((with_reducible refine wpStill_want ?_ ?_ (fun _ _ => ?_)); (focus (simp [Region.wanted, yielded]; done)); rfl) | ((with_reducible refine wpStill_skip ?_ ?_); (focus (simp [Region.wanted, yielded]; done)); (simp only [Act.put, List.setIfInBounds_toArray, List.set_cons_zero, List.set_cons_succ])) | (with_reducible refine wpStill_nil ?_))
                go_roundg mk
                case measure => omega
                case rel => exact ⟨k + 1, by omega, by go_num, Drew.then _ _⟩
              have q2 : ((K : Int) == 0) = false := by rw [beq_eq_false_iff_ne]; omega
              by_cases hMK : M < K
              · have q3 : (M : Int) < (K : Int) := by omega
                go_wp2_with (first | ((with_reducible refine wp_draw_all (id := 15) mixed ?_ (fun _ _ => ?_)); kernel_rfl) | ((with_reducible refine wpStill_plain ?_ ?_ (fun _ _ => ?_)); rfl; rfl) | ((with_reducible refine wpStill_want ?_ ?_ (fun _ _ => ?_)); (focus (simp [Region.wanted, yielded]; done)); rfl) | ((with_reducible refine wpStill_skip ?_ ?_); (focus (simp [Region.wanted, yielded]; done)); (simp only [Act.put, List.setIfInBounds_toArray, List.set_cons_zero, List.set_cons_succ])) | (with_reducible refine wpStill_nil ?_))
                go_roundg mk
                case measure => omega
                case rel => exact ⟨k + 1, by omega, by go_num, Drew.then _ _⟩
              · rw [if_pos (by omega)] at hl1 hl3
                obtain ⟨d, rfl⟩ : ∃ d, M = K + d := ⟨M - K, by omega⟩
                have hsub : ((K + d : Nat) : Int) - (K : Int) = (d : Int) := by omega
                have hsub2 : (K : Int) + (d : Int) - (K : Int) = (d : Int) := by omega
                have hne : ((codeP l k : Int) / 2 ^ d == (codeP l i : Int)) = false := by
                  rw [beq_eq_false_iff_ne]
                  have e1 : ((codeP l k : Int) / 2 ^ d) = ((codeP l k / 2 ^ d : Nat) : Int) := by simp
                  rw [e1]
                  by_cases h0 : d = 0
                  · subst h0
                    have := codeP_inj l i k K HX.out HY.out
                    intro e
                    rw [Nat.pow_zero, Nat.div_one] at e
                    exact hik (this (by omega))
                  · have := (codeP_far l i k K (K + d) HX.out HY.out (by omega) (by omega)).1
                    rw [show K + d - K = d from by omega] at this
                    omega
                have hc1 := fstP_small l hkr (K + d) (by omega)
                have hc2 := codeP_range l k (K + d) HY.out (by omega)
                have b1 : (codeP l k : Int) ≤ 32768 := by omega
                have b2 : (d : Int) ≤ 15 := by omega
                clear hc1 hc2
                go_wp2_with (first | ((with_reducible refine wp_draw_all (id := 15) mixed ?_ (fun _ _ => ?_)); kernel_rfl) | ((with_reducible refine wp_draw_all (id := 16) mixed ?_ (fun _ _ => ?_)); kernel_rfl) | ((with_reducible refine wpStill_plain ?_ ?_ (fun _ _ => ?_)); rfl; rfl) | ((with_reducible refine wpStill_want ?_ ?_ (fun _ _ => ?_)); (focus (simp [Region.wanted, yielded]; done)); rfl) | ((with_reducible refine wpStill_skip ?_ ?_); (focus (simp [Region.wanted, yielded]; done)); (simp only [Act.put, List.setIfInBounds_toArray, List.set_cons_zero, List.set_cons_succ])) | (with_reducible refine wpStill_nil ?_))
                go_roundg mk
                case measure => omega
                case rel => exact ⟨k + 1, by omega, by go_num, Drew.mk _ (n + 2)⟩
end Go.Proofs.Ytdgpbgdpdmikaaa
