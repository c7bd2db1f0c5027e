/-
  foliolaw1.Ints: two rows of numbers are the same.
-/
import Derived.Test.YtdgpbgdpdmikaaaZeros
set_option linter.unusedVariables false
set_option linter.unusedSimpArgs false
namespace Go.Proofs.Ytdgpbgdpdmikaaa
open Go.RowKit
set_option maxRecDepth 100000
set_option maxHeartbeats 1000000 in
theorem ints_any (v v' : Value) (a b : List Int) (w : World) (h : Rd w 1 v a.length (iv a)) (h' : Rd w 1 v' b.length (iv b)) :
    Calls Try.prog 28 #[v, v'] w fun e w' => e = .returned (.bool (decide (a = b))) ∧ Drew w w' := by
  obtain ⟨ao, cap, rfl⟩ := h.shape
  obtain ⟨ao', cap', rfl⟩ := h'.shape
  have hsm := h.small
  have hsm' := h'.small
  by_cases hl : a.length = b.length
  · have h2 := h'
    rw [← hl] at h2
    obtain ⟨hz1, hz2⟩ := h2.cap
    have hl' : (a.length : Int) ≤ 9223372036854775807 := by omega
    have HL := Lib.hid hl
    have hlc : (b.length : Int) = a.length := by omega
    rw [← hl] at h' ⊢
    clear hl hlc
    go_enter Try.func28, Try.ntmps28
    go_wp2_with fail
    go_loopg [5] a.length (fun m s5 wr => ∃ i : Nat, i + m = a.length ∧ s5 = .int .i64 (i : Int) ∧ Hid (decide (a.drop i = b.drop i) = decide (a = b)) ∧ Drew w wr)
    case atStart => exact ⟨0, by omega, rfl, Lib.hid rfl, Drew.refl _⟩
    case round =>
      obtain ⟨i, hi, rfl, HE, hd⟩ := hrel
      obtain ⟨n, rfl⟩ := hd.out
      cases gk with
      | zero =>
        obtain rfl : i = a.length := by omega
        clear hi
        have he := HE.out
        rw [List.drop_length, HL.out, List.drop_length] at he
        have HQ := Lib.hid he
        clear he
        go_wp2_with fail
        go_ret
        exact ⟨by rw [← HQ.out]; rfl, Drew.mk _ _⟩
      | succ m =>
        have hlt : i < a.length := by omega
        obtain ⟨x, hx⟩ : ∃ x, a[i]? = some x := ⟨_, List.getElem?_eq_getElem hlt⟩
        obtain ⟨y, hy⟩ : ∃ y, b[i]? = some y := ⟨_, List.getElem?_eq_getElem (by have := HL.out; omega)⟩
        obtain ⟨ad, rfl, hcell⟩ := (h.drewN (n + 1)).at (iv_get a i x hx)
        obtain ⟨ad', rfl, hcell'⟩ := (h'.drewN (n + 1)).at (iv_get b i y hy)
        have he := HE.out
        have hda : a.drop i = x :: a.drop (i + 1) := by rw [List.drop_eq_getElem_cons hlt]; congr 1; exact (List.getElem?_eq_some_iff.1 hx).2
        have hdb : b.drop i = y :: b.drop (i + 1) := by rw [List.drop_eq_getElem_cons (by have := HL.out; omega)]; congr 1; exact (List.getElem?_eq_some_iff.1 hy).2
        rw [hda, hdb] at he
        have HQ := Lib.hid he
        clear he hda hdb hx hy
        by_cases hxy : x = y
        · subst hxy
          go_wp2_with (first | ((with_reducible refine wp_draw_all (id := 6) mixed ?_ (fun _ _ => ?_)); kernel_rfl) | ((with_reducible refine wpStill_plain ?_ ?_ (fun _ _ => ?_)); rfl; rfl) | (with_reducible refine wpStill_nil ?_))
          go_roundg m
          case measure => omega
          case rel => exact ⟨i + 1, by omega, by go_num, Lib.hid (by rw [← HQ.out]; simp), Drew.then _ _⟩
        · go_wp2_with (first | ((with_reducible refine wp_draw_all (id := 6) mixed ?_ (fun _ _ => ?_)); kernel_rfl) | ((with_reducible refine wpStill_plain ?_ ?_ (fun _ _ => ?_)); rfl; rfl) | (with_reducible refine wpStill_nil ?_))
          go_ret
          exact ⟨by rw [← HQ.out]; simp [hxy], Drew.then _ _⟩
  · have hl' : ¬ (a.length : Int) = b.length := by omega
    have hne : ¬ a = b := fun e => hl (by rw [e])
    clear hl
    go_enter Try.func28, Try.ntmps28
    go_wp2_with fail
    go_ret
    exact ⟨by simp [hne], Drew.refl _⟩
end Go.Proofs.Ytdgpbgdpdmikaaa
