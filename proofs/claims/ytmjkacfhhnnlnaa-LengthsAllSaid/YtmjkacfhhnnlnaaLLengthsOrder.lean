/-
  The walk of LengthsOrder.
-/
import Derived.Test.YtmjkacfhhnnlnaaLenLaw
import Derived.Test.YtmjkacfhhnnlnaaRefLeast
set_option linter.unusedVariables false
set_option linter.unusedSimpArgs false
namespace Go.Proofs.Ytmjkacfhhnnlnaa
open Go.RowKit
set_option maxRecDepth 100000
theorem cost_least {f : List Int} (h : badL f = false) : costI f (mkI (fun s => (lenP (fN f) s : Int)) f.length) = ((leastP (fN f) : Nat) : Int) := by
  obtain ⟨g1, g2, g3⟩ := good_small h
  rw [costI_lens g3, cost_lenP (by rw [fN_length]; exact g2)]
theorem order_law {f : List Int} (h : badL f = false) {i k : Nat} {x y : Int} (hx : f[i]? = some x) (hy : f[k]? = some y) (h1 : y < x) (h2 : 0 < y) : ¬ ((lenP (fN f) k : Nat) : Int) < ((lenP (fN f) i : Nat) : Int) := by
  obtain ⟨g1, g2, g3⟩ := good_small h
  have e1 := fN_get f i x hx
  have e2 := fN_get f k y hy
  have := lenP_order (F := fN f) (by rw [fN_length]; exact g2) (i := i) (k := k) (by rw [e1, e2]; omega) (by rw [e2]; omega)
  omega
set_option maxHeartbeats 4000000 in
theorem LengthsOrder_walk (w : World) (v : Value) (n : Nat) (f0 : List Int) (h : Rd w 1 v n (f0.map (Value.int .i64))) (wf : ∀ z ∈ f0, (Lit.int .i64 z).wf = true) (sz : n * 8 ≤ 140737488351232) :
    Calls Try.prog 5 #[v] w fun e w' => e = .returned (.bool true) ∧ Below w.heap.size w w' := by
  have hn : f0.length = n := by have := h.len; simpa using this
  subst hn
  have H1 := Lib.hid h
  clear h wf sz
  go_enter Try.func5, Try.ntmps5
  go_wp2_with fail
  refine (begun6 _).mono ?_
  rintro e w1 ⟨rfl, hb⟩
  have hS := (St.init w).mono hb
  clear hb
  go_wp2_with fail
  refine (cut6_gen v f0 w1 (H1.out.st hS)).mono ?_
  rintro e w2 ⟨v', rfl, hgen, rfl⟩
  have hf : Rd w 1 v' (f0.take 305).length (iv (f0.take 305)) := hgen w H1.out
  have hfl : (f0.take 305).length ≤ 305 := by simp; omega
  generalize f0.take 305 = f at *
  obtain ⟨ao1, cap1, rfl⟩ := hf.shape
  have HF := Lib.hid (And.intro hf hS)
  clear hf hgen hS
  have hfi : (f.length : Int) ≤ 305 := by omega
  go_wp2_with fail
  refine (of_any f _ _ (by omega) (HF.out.1.st HF.out.2)).mono ?_
  rintro e w2 (⟨hbad, rfl, rfl⟩ | ⟨hgood, v6, c6, rfl, hr6, hS6⟩)
  · go_wp2_with fail
    go_ret
    exact ⟨rfl, HF.out.2.below⟩
  obtain ⟨ao6, cap6, rfl⟩ := hr6.shape
  have hS7 := HF.out.2.join hS6
  have H6 := Lib.hid (And.intro hr6 (And.intro hS7 hgood))
  have HA := Lib.hid (HF.out.1.st hS7)
  have HB := Lib.hid (hr6.rd hS7 0 rfl)
  have hq : ((f.length : Int) != (f.length : Int)) = false := by simp
  clear hr6 hS6 hS7 hgood
  go_wp2_with fail
  go_loopg [6, 7] f.length (fun m s6 s7 wx => ∃ i : Nat, i + m = f.length ∧ s6 = .int .i64 (i : Int) ∧ Drew w2 wx)
  case atStart => exact ⟨0, by omega, rfl, Drew.refl _⟩
  case round =>
    obtain ⟨i, hi, rfl, hdr⟩ := hrel
    obtain ⟨nd, rfl⟩ := hdr.out
    clear hdr
    cases gk with
    | succ m =>
      have hif : (i : Int) < (f.length : Int) := by omega
      obtain ⟨x, hx⟩ : ∃ x, f[i]? = some x := ⟨_, List.getElem?_eq_getElem (by omega)⟩
      obtain ⟨ad1, rfl, hc1⟩ := HA.out.at (iv_get f i x hx)
      obtain ⟨ad2, rfl, hc2⟩ := HB.out.at (iv_get _ i _ (mkI_get _ _ i (by omega)))
      have HX := Lib.hid hx
      clear hx
      go_wp2_with fail
      go_loopg [7] f.length (fun m s7 wx => ∃ k : Nat, k + m = f.length ∧ s7 = .int .i64 (k : Int) ∧ Drew w2 wx)
      case atStart => exact ⟨0, by omega, rfl, Drew.mk _ nd⟩
      case round =>
        obtain ⟨k, hk, rfl, hdr⟩ := hrel
        obtain ⟨nd, rfl⟩ := hdr.out
        clear hdr
        cases gk with
        | succ mk =>
          have hkf : (k : Int) < (f.length : Int) := by omega
          obtain ⟨y, hy⟩ : ∃ y, f[k]? = some y := ⟨_, List.getElem?_eq_getElem (by omega)⟩
          obtain ⟨ad3, e3, hc3⟩ := HA.out.at (iv_get f k y hy)
          cases e3
          obtain ⟨ad4, e4, hc4⟩ := HB.out.at (iv_get _ k _ (mkI_get _ _ k (by omega)))
          cases e4
          by_cases qa : y < x
          · by_cases qb : 0 < y
            · have hlaw := order_law H6.out.2.2 HX.out hy qa qb
              clear hy
              generalize ((lenP (fN f) i : Nat) : Int) = li at *
              generalize ((lenP (fN f) k : Nat) : Int) = lk at *
              go_wp2_with (first | ((with_reducible refine wpStill_plain ?_ ?_ (fun _ _ => ?_)); rfl; rfl) | (with_reducible refine wpStill_nil ?_) | ((with_reducible refine wpStill_wantg 9 true ?_ ?_ ?_ (fun _ _ => ?_)); rfl; kernel_rfl; rfl) | ((with_reducible refine wpStill_wantg 16 true ?_ ?_ ?_ (fun _ _ => ?_)); rfl; kernel_rfl; rfl) | ((with_reducible refine wp_draw_all (id := 16) mixed ?_ (fun _ _ => ?_)); kernel_rfl))
              go_roundg mk
              case measure => omega
              case rel => exact ⟨k + 1, by omega, by go_num, Drew.mk _ (nd + 1)⟩
            · clear hy
              go_wp2_with (first | ((with_reducible refine wpStill_plain ?_ ?_ (fun _ _ => ?_)); rfl; rfl) | (with_reducible refine wpStill_nil ?_) | ((with_reducible refine wpStill_wantg 9 true ?_ ?_ ?_ (fun _ _ => ?_)); rfl; kernel_rfl; rfl) | ((with_reducible refine wpStill_skipg 16 true ?_ ?_ (fun _ _ => ?_)); rfl; kernel_rfl) | ((with_reducible refine wp_draw_all (id := 16) mixed ?_ (fun _ _ => ?_)); kernel_rfl))
              go_roundg mk
              case measure => omega
              case rel => exact ⟨k + 1, by omega, by go_num, Drew.mk _ (nd + 1)⟩
          · clear hy
            go_wp2_with (first | ((with_reducible refine wpStill_plain ?_ ?_ (fun _ _ => ?_)); rfl; rfl) | (with_reducible refine wpStill_nil ?_) | ((with_reducible refine wpStill_skipg 9 true ?_ ?_ (fun _ _ => ?_)); rfl; kernel_rfl) | ((with_reducible refine wpStill_skipg 16 true ?_ ?_ (fun _ _ => ?_)); rfl; kernel_rfl) | ((with_reducible refine wp_draw_all (id := 16) mixed ?_ (fun _ _ => ?_)); kernel_rfl))
            go_roundg mk
            case measure => omega
            case rel => exact ⟨k + 1, by omega, by go_num, Drew.mk _ (nd + 1)⟩
        | zero =>
          obtain rfl : k = f.length := by omega
          have hz : ¬ (f.length : Int) < (f.length : Int) := by omega
          go_wp2_with fail
          go_roundg m
          case measure => omega
          case rel => exact ⟨i + 1, by omega, by go_num, Drew.mk _ nd⟩
    | zero =>
      obtain rfl : i = f.length := by omega
      have hz : ¬ (f.length : Int) < (f.length : Int) := by omega
      obtain ⟨g1, g2, g3⟩ := good_small H6.out.2.2
      have HS := Lib.hid (H6.out.2.1.drewN nd)
      have HG := Lib.hid (And.intro g1 (lens_small g2 f.length))
      clear g1 g2 g3 hi
      go_wp2_with fail
      refine (refcost_any _ _ f (mkI (fun s => (lenP (fN f) s : Int)) f.length) _ (HF.out.1.st HS.out) (by rw [mkI_length]; exact H6.out.1.rd HS.out 0 rfl) HG.out.1 HG.out.2).mono ?_
      rintro e w4 ⟨rfl, hd⟩
      have HS4 := Lib.hid (HS.out.Drew hd)
      clear hd
      rw [cost_least H6.out.2.2]
      go_wp2_with fail
      refine (least_any f _ _ H6.out.2.2 (HF.out.1.st HS4.out)).mono ?_
      rintro e w5 ⟨rfl, hb⟩
      have HS5 := Lib.hid (HS4.out.mono hb).below
      generalize ((leastP (fN f) : Nat) : Int) = z at *
      go_wp2_with fail
      go_ret
      exact ⟨by simp, HS5.out⟩
end Go.Proofs.Ytmjkacfhhnnlnaa
