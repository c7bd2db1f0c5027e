/-
  The walk of CodesRise.
-/
import Derived.Test.YtdgpbgdpdmikaaaCodesBegun
import Derived.Test.YtdgpbgdpdmikaaaCodesRef
set_option linter.unusedVariables false
set_option linter.unusedSimpArgs false
namespace Go.Proofs.Ytdgpbgdpdmikaaa
open Go.RowKit
set_option maxRecDepth 100000
/-- A code, moved up to fifteen bits. -/
theorem up_lt (l : List Int) (hk : kraftP l ≤ 32768) (s K d : Nat) (h : l[s]? = some (K : Int)) (hK : 1 ≤ K) (hd : K + d = 15) : codeP l s * 2 ^ d ≤ 32768 := by
  have h1 := codeP_range l s K h hK
  have h2 := endP_le l hk K (by omega)
  have h3 : codeP l s * 2 ^ d ≤ 2 ^ K * 2 ^ d := Nat.mul_le_mul_right _ (by omega)
  rw [← Nat.pow_add, hd] at h3
  exact h3
theorem up_rise (l : List Int) (s t K M d e : Nat) (h : l[s]? = some (K : Int)) (h' : l[t]? = some (M : Int)) (hK : 1 ≤ K) (hM : 1 ≤ M) (hd : K + d = 15) (he : M + e = 15) (hst : s < t) (hKM : K ≤ M) : codeP l s * 2 ^ d < codeP l t * 2 ^ e := by
  by_cases hk : K = M
  · subst hk
    obtain rfl : d = e := by omega
    exact Nat.mul_lt_mul_of_pos_right (codeP_step l s t K h h' hst) (Nat.two_pow_pos _)
  · have h1 := (codeP_far l s t K M h h' hK (by omega)).2
    have h2 : (codeP l s + 1) * 2 ^ (M - K) * 2 ^ e ≤ codeP l t * 2 ^ e := Nat.mul_le_mul_right _ h1
    rw [Nat.mul_assoc, ← Nat.pow_add, show M - K + e = d from by omega, Nat.add_mul] at h2
    have := Nat.two_pow_pos d
    omega
theorem up_fall (l : List Int) (s t K M d e : Nat) (h : l[s]? = some (K : Int)) (h' : l[t]? = some (M : Int)) (hK : 1 ≤ K) (hM : 1 ≤ M) (hd : K + d = 15) (he : M + e = 15) (hKM : M < K) : codeP l t * 2 ^ e < codeP l s * 2 ^ d := by
  have h1 := (codeP_far l t s M K h' h hM hKM).2
  have h2 : (codeP l t + 1) * 2 ^ (K - M) * 2 ^ d ≤ codeP l s * 2 ^ d := Nat.mul_le_mul_right _ h1
  rw [Nat.mul_assoc, ← Nat.pow_add, show K - M + d = e from by omega, Nat.add_mul] at h2
  have := Nat.two_pow_pos e
  omega

set_option maxHeartbeats 4000000 in
theorem CodesRise_walk (w : World) (v : Value) (n : Nat) (zs : List Int) (rd : Rd w 1 v n (zs.map (Value.int .i64))) (_wf : ∀ z ∈ zs, (Lit.int .i64 z).wf = true) (sz : n * 8 ≤ 140737488351232) :
    Calls Try.prog 8 #[v] w fun e w' => e = .returned (.bool true) ∧ Below w.heap.size w w' := by
  have hlen := rd.len
  simp only [List.length_map, Nat.mul_one] at hlen
  subst hlen
  replace rd : Rd w 1 v zs.length (iv zs) := rd
  obtain ⟨ao, cap, rfl⟩ := rd.shape
  have hsm := rd.small
  have hcp := rd.cap.1
  have hcp2 := rd.cap.2
  clear sz _wf
  go_enter Try.func8, Try.ntmps8
  go_wp2_with fail
  refine (begun7 _).mono ?_
  rintro e w1 ⟨rfl, hb⟩
  have hS := (St.init w).mono hb
  clear hb
  go_upto_if 17 with (fail)
  go_cut [0] (fun s0 wc => w1 = wc ∧ ∃ l : List Int, Rd w 1 s0 l.length (iv l) ∧ l.length ≤ 60)
  case first =>
    by_cases q : 60 < zs.length
    · have q' : (60 : Int) < zs.length := by omega
      have hcap : ao ≠ none := by
        rintro rfl
        have := rd.none_iff
        omega
      obtain ⟨ad, rfl⟩ : ∃ ad, ao = some ad := by cases ao with | none => exact absurd rfl hcap | some ad => exact ⟨ad, rfl⟩
      clear hcap
      go_wp2_with fail
      go_meet
      case rel =>
        refine ⟨rfl, zs.take 60, ?_, by simp; omega⟩
        have := rd.take 60 (by omega)
        rw [Nat.mul_one] at this
        rw [show (zs.take 60).length = 60 from by simp; omega]
        simpa [iv] using this
    · have q' : ¬ (60 : Int) < zs.length := by omega
      go_wp2_with fail
      go_meet
      case rel => exact ⟨rfl, zs, rd, by omega⟩
  case rest =>
    obtain ⟨rfl, l, h, hl60⟩ := hcut
    clear rd hsm hcp hcp2
    obtain ⟨ao2, cap2, rfl⟩ := h.shape
    cases hok : okLens l with
    | false =>
      go_wp2_with fail
      refine (of_bad _ l w1 (h.keep hS.below) (by omega) hok).mono ?_
      rintro e w3 ⟨rfl, hS3⟩
      replace hS := hS.mono hS3.below
      go_wp2_with fail
      refine (refcodes_bad _ l w3 (h.keep hS.below) (by omega) hok).mono ?_
      rintro e w4 ⟨rfl, rfl⟩
      go_wp2_with fail
      go_ret
      exact ⟨rfl, hS.below⟩
    | true =>
      have hok2 := (okLens_iff l).1 hok
      have hkr := hok2.2.1
      have HALL := Lib.hid hok2.2.2
      clear hok2
      go_wp2_with fail
      refine (of_ok _ l w1 (h.keep hS.below) (by omega) hok).mono ?_
      rintro e w2 ⟨u, cC, rfl, hrC, hS3⟩
      replace hS := hS.join hS3
      replace hS : St w.heap.size w w2 [cC] := hS
      obtain ⟨aoC, capC, rfl⟩ := hrC.shape
      have hnl : (l.length : Int) ≤ 60 := by omega
      have hcp := hrC.cap
      clear hS3
      go_wp2_with fail
      refine (refcodes_ok _ l w2 (h.keep hS.below) (by omega) hok).mono ?_
      rintro e w3 ⟨u4, cU, rfl, hrU, hS4⟩
      replace hS := (hS.join hS4).pick [1] (by decide) [cC] rfl
      clear hS4 hok h hrU
      go_wp2_with fail
      go_loopg [8] l.length (fun m s8 wr => ∃ i : Nat, i + m = l.length ∧ s8 = .int .i64 (i : Int) ∧ Drew w3 wr)
      case atStart => exact ⟨0, by omega, rfl, Drew.refl _⟩
      case round =>
        obtain ⟨i, hi, rfl, hd⟩ := hrel
        obtain ⟨n, rfl⟩ := hd.out
        cases gk with
        | zero =>
          obtain rfl : i = l.length := by omega
          go_wp2_with fail
          go_ret
          exact ⟨rfl, (hS.drewN n).below⟩
        | succ m =>
          have hlt : i < l.length := by omega
          obtain ⟨x, hx⟩ : ∃ x, l[i]? = some x := ⟨_, List.getElem?_eq_getElem hlt⟩
          have hx0 := HALL.out x (List.mem_of_getElem? hx)
          obtain ⟨K, rfl⟩ := Int.eq_ofNat_of_zero_le hx0.1
          obtain ⟨gC, rfl⟩ := hrC.head (by omega)
          have HX := Lib.hid hx
          clear hx
          go_wp2_with fail
          go_loopg [9] (l.length - (i + 1)) (fun mk s9 wr => ∃ k : Nat, k + mk = l.length ∧ i < k ∧ s9 = .int .i64 (k : Int) ∧ Drew w3 wr)
          case atStart => exact ⟨i + 1, by omega, by omega, by go_num, Drew.mk _ _⟩
          case round =>
            obtain ⟨k, hk, hik, rfl, hd⟩ := hrel
            obtain ⟨n, rfl⟩ := hd.out
            cases gk with
            | zero =>
              obtain rfl : k = l.length := by omega
              go_wp2_with fail
              go_roundg m
              case measure => omega
              case rel => exact ⟨i + 1, by omega, by go_num, Drew.mk _ _⟩
            | succ mk =>
              have hlt2 : k < l.length := by omega
              obtain ⟨y, hy⟩ : ∃ y, l[k]? = some y := ⟨_, List.getElem?_eq_getElem hlt2⟩
              have hy0 := HALL.out y (List.mem_of_getElem? hy)
              obtain ⟨M, rfl⟩ := Int.eq_ofNat_of_zero_le hy0.1
              have HY := Lib.hid hy
              have hl1 := hrC.cellAt hS 0 rfl (codesV_at l i K HX.out).1
              have hl2 := hrC.cellAt hS 0 rfl (codesV_at l i K HX.out).2
              have hl3 := hrC.cellAt hS 0 rfl (codesV_at l k M hy).1
              have hl4 := hrC.cellAt hS 0 rfl (codesV_at l k M hy).2
              clear hy
              by_cases hK : K = 0
              · subst hK
                replace hl2 : _ = some (Value.int .i64 0) := hl2
                go_wp2_with fail
                go_roundg mk
                case measure => omega
                case rel => exact ⟨k + 1, by omega, by omega, by go_num, Drew.mk _ _⟩
              have q2 : ((K : Int) == 0) = false := by rw [beq_eq_false_iff_ne]; omega
              by_cases hM : M = 0
              · subst hM
                replace hl4 : _ = some (Value.int .i64 0) := hl4
                go_wp2_with fail
                go_roundg mk
                case measure => omega
                case rel => exact ⟨k + 1, by omega, by omega, by go_num, Drew.mk _ _⟩
              have q3 : ((M : Int) == 0) = false := by rw [beq_eq_false_iff_ne]; omega
              rw [if_pos (by omega)] at hl1 hl3
              obtain ⟨d, hd⟩ : ∃ d, K + d = 15 := ⟨15 - K, by omega⟩
              obtain ⟨f, hf⟩ : ∃ f, M + f = 15 := ⟨15 - M, by omega⟩
              have hs1 : (15 : Int) - (K : Int) = (d : Int) := by omega
              have hs2 : (15 : Int) - (M : Int) = (f : Int) := by omega
              have b1 := up_lt l hkr i K d HX.out (by omega) hd
              have b2 := up_lt l hkr k M f HY.out (by omega) hf
              have hr1 := fun h => up_rise l i k K M d f HX.out HY.out (by omega) (by omega) hd hf hik h
              have hr2 := fun h => up_fall l i k K M d f HX.out HY.out (by omega) (by omega) hd hf h
              have e1 : ((codeP l i : Int) * 2 ^ d) = ((codeP l i * 2 ^ d : Nat) : Int) := by simp
              have e2 : ((codeP l k : Int) * 2 ^ f) = ((codeP l k * 2 ^ f : Nat) : Int) := by simp
              generalize codeP l i * 2 ^ d = A at *
              generalize codeP l k * 2 ^ f = Bv at *
              have b3 : (d : Int) ≤ 15 := by omega
              have b4 : (f : Int) ≤ 15 := by omega
              have b5 : (codeP l i : Int) ≤ 32768 := by have := fstP_small l hkr K (by omega); have := codeP_range l i K HX.out (by omega); omega
              have b6 : (codeP l k : Int) ≤ 32768 := by have := fstP_small l hkr M (by omega); have := codeP_range l k M HY.out (by omega); omega
              have b7 : (A : Int) ≤ 32768 := by omega
              have b8 : (Bv : Int) ≤ 32768 := by omega
              by_cases hKM : K ≤ M
              · have hlt3 := hr1 hKM
                have q5 : ¬ Bv ≤ A := by omega
                have q6 : ¬ M < K := by omega
                clear hr1 hr2 hd hf
                go_wp2_with (first | ((with_reducible refine wp_draw_all (id := 19) mixed ?_ (fun _ _ => ?_)); kernel_rfl) | ((with_reducible refine wp_draw_all (id := 20) mixed ?_ (fun _ _ => ?_)); kernel_rfl) | ((with_reducible refine wpStill_plain ?_ ?_ (fun _ _ => ?_)); rfl; rfl) | ((with_reducible refine wpStill_want ?_ ?_ (fun _ _ => ?_)); (focus (simp [Region.wanted, yielded]; done)); rfl) | ((with_reducible refine wpStill_skip ?_ ?_); (focus (simp [Region.wanted, yielded]; done)); (simp only [Act.put, List.setIfInBounds_toArray, List.set_cons_zero, List.set_cons_succ])) | (with_reducible refine wpStill_nil ?_))
                go_roundg mk
                case measure => omega
                case rel => exact ⟨k + 1, by omega, by omega, by go_num, Drew.mk _ (n + 2)⟩
              · have hlt3 := hr2 (by omega)
                have hKM2 : M < K := by omega
                have q5 : ¬ A ≤ Bv := by omega
                clear hr1 hr2 hd hf
                go_wp2_with (first | ((with_reducible refine wp_draw_all (id := 19) mixed ?_ (fun _ _ => ?_)); kernel_rfl) | ((with_reducible refine wp_draw_all (id := 20) mixed ?_ (fun _ _ => ?_)); kernel_rfl) | ((with_reducible refine wpStill_plain ?_ ?_ (fun _ _ => ?_)); rfl; rfl) | ((with_reducible refine wpStill_want ?_ ?_ (fun _ _ => ?_)); (focus (simp [Region.wanted, yielded]; done)); rfl) | ((with_reducible refine wpStill_skip ?_ ?_); (focus (simp [Region.wanted, yielded]; done)); (simp only [Act.put, List.setIfInBounds_toArray, List.set_cons_zero, List.set_cons_succ])) | (with_reducible refine wpStill_nil ?_))
                go_roundg mk
                case measure => omega
                case rel => exact ⟨k + 1, by omega, by omega, by go_num, Drew.mk _ (n + 2)⟩
end Go.Proofs.Ytdgpbgdpdmikaaa
