/-
  Contract of alike: the same records?
-/
import Derived.Test.YthgbkncanoknkaaSg12
set_option linter.unusedVariables false
set_option linter.unusedSimpArgs false
namespace Go.Proofs.Ythgbkncanoknkaa
open Go.RowKit
set_option maxRecDepth 100000
def recEq (a b : Rec) : Bool := a.kind == b.kind && a.seq == b.seq && a.key == b.key && a.val == b.val
theorem recEq_iff {a b : Rec} : recEq a b = true ↔ a = b := by
  obtain ⟨a1, a2, a3, a4⟩ := a
  obtain ⟨b1, b2, b3, b4⟩ := b
  simp only [recEq, Bool.and_eq_true, beq_iff_eq, Rec.mk.injEq]
  exact ⟨fun ⟨⟨⟨h1, h2⟩, h3⟩, h4⟩ => ⟨h1, h2, h3, h4⟩, fun ⟨h1, h2, h3, h4⟩ => ⟨⟨⟨h1, h2⟩, h3⟩, h4⟩⟩
/-- The first i of both are the same. -/
def sameTo (a b : List Rec) (i : Nat) : Prop := a.take i = b.take i
instance (a b : List Rec) : Decidable (a = b) := by
  have : DecidableEq Rec := fun x y => if h : recEq x y = true then isTrue (recEq_iff.1 h) else isFalse fun e => h (recEq_iff.2 e)
  infer_instance
theorem sameTo_snoc {a b : List Rec} {i : Nat} {x y : Rec} (h : sameTo a b i) (hx : a[i]? = some x) (hy : b[i]? = some y) (e : x = y) : sameTo a b (i + 1) := by
  unfold sameTo at *
  rw [List.take_add_one, List.take_add_one, h, hx, hy, e]
theorem ne_at {a b : List Rec} {i : Nat} {x y : Rec} (hx : a[i]? = some x) (hy : b[i]? = some y) (e : x ≠ y) : a ≠ b := by
  rintro rfl
  rw [hx] at hy
  injection hy with hy
  exact e hy
set_option maxHeartbeats 4000000 in
theorem alike_any (v1 v2 : Value) (a b : List Rec) (w : World) (ha : Rd w 4 v1 a.length (rcs a)) (hb : Rd w 4 v2 b.length (rcs b)) (hal : a.length ≤ 100) (hbl : b.length ≤ 100) :
    Calls Try.prog 18 #[v1, v2] w fun e w' => e = .returned (.bool (decide (a = b))) ∧ Drew w w' := by
  obtain ⟨ao1, cap1, rfl⟩ := ha.shape
  obtain ⟨ao2, cap2, rfl⟩ := hb.shape
  have H0 := Lib.hid (And.intro ha hb)
  clear ha hb
  by_cases ql : a.length = b.length
  · have qli : ((a.length : Int) != (b.length : Int)) = false := by rw [ql]; simp
    have HQL := Lib.hid ql
    go_enter Try.func18, Try.ntmps18
    clear ql
    go_wp2_with fail
    go_loopg [5] a.length (fun m s5 wr => ∃ i : Nat, i + m = a.length ∧ s5 = .int .i64 (i : Int) ∧ Hid (sameTo a b i) ∧ Hid (Drew w wr))
    case atStart => exact ⟨0, by omega, rfl, Lib.hid rfl, Lib.hid (Drew.refl _)⟩
    case round =>
      obtain ⟨i, hi, rfl, HS, HD⟩ := hrel
      obtain ⟨nd, rfl⟩ := HD.out
      cases gk with
      | zero =>
        have hz : ¬ (i : Int) < (a.length : Int) := by omega
        have HE : Hid (a = b) := Lib.hid (by
          have h1 := HS.out
          have h2 := HQL.out
          unfold sameTo at h1
          rwa [List.take_of_length_le (by omega), List.take_of_length_le (by omega)] at h1)
        go_wp2_with fail
        go_ret
        exact ⟨by rw [decide_eq_true HE.out]; rfl, Drew.mk _ _⟩
      | succ m =>
        have hif : (i : Int) < (a.length : Int) := by omega
        have hib : (i : Int) < (b.length : Int) := by have := HQL.out; omega
        obtain ⟨x, hx⟩ : ∃ x, a[i]? = some x := ⟨_, List.getElem?_eq_getElem (by omega)⟩
        obtain ⟨y, hy⟩ : ∃ y, b[i]? = some y := ⟨_, List.getElem?_eq_getElem (by omega)⟩
        obtain ⟨ad1, rfl⟩ := H0.out.1.rec_some hx
        obtain ⟨ad2, rfl⟩ := H0.out.2.rec_some hy
        obtain ⟨k0, k1, k2, k3⟩ := H0.out.1.rec hx
        obtain ⟨g0, g1, g2, g3⟩ := H0.out.2.rec hy
        have HNE : Hid (x ≠ y → decide (a = b) = false) := Lib.hid (fun e => decide_eq_false (ne_at hx hy e))
        have HXY := Lib.hid (And.intro hx hy)
        have hwi : IntKind.i64.wrap ((i : Int) + 1) = (i : Int) + 1 := IntWalk.i64_in _ (by omega)
        obtain ⟨xk, xs, xy, xv⟩ := x
        obtain ⟨yk, ys, yy, yv⟩ := y
        dsimp only at k0 k1 k2 k3 g0 g1 g2 g3
        clear hx hy
        by_cases q0 : xk = yk
        · by_cases q1 : xs = ys
          · by_cases q2 : xy = yy
            · by_cases q3 : xv = yv
              · subst q0 q1 q2 q3
                have HS2 := Lib.hid (sameTo_snoc HS.out HXY.out.1 HXY.out.2 rfl)
                have c0 : (xk != xk) = false := by simp
                have c1 : (xs != xs) = false := by simp
                have c2 : (xy == xy) = true := by simp
                have c3 : (xv == xv) = true := by simp
                have c4 : (xy != xy) = false := by simp
                have c5 : (xv != xv) = false := by simp
                clear HNE
                go_wp2_with (first | ((with_reducible refine wpStill_plain ?_ ?_ (fun _ _ => ?_)); rfl; rfl) | (with_reducible refine wpStill_nil ?_) | ((with_reducible refine wpStill_wantg 11 false ?_ ?_ ?_ (fun _ _ => ?_)); rfl; kernel_rfl; rfl) | ((with_reducible refine wpStill_wantg 24 false ?_ ?_ ?_ (fun _ _ => ?_)); rfl; kernel_rfl; rfl) | ((with_reducible refine wpStill_wantg 37 false ?_ ?_ ?_ (fun _ _ => ?_)); rfl; kernel_rfl; rfl) | ((with_reducible refine wp_draw_all (id := 6) mixed ?_ (fun _ _ => ?_)); kernel_rfl))
                go_roundg m
                case measure => omega
                case rel => exact ⟨i + 1, by omega, by go_num, HS2, Lib.hid (Drew.then _ _)⟩
              · subst q0 q1 q2
                have HF : Hid (decide (a = b) = false) := Lib.hid (HNE.out fun e => q3 (by injection e))
                have c0 : (xk != xk) = false := by simp
                have c1 : (xs != xs) = false := by simp
                have c2 : (xy == xy) = true := by simp
                have c3 : (xv == yv) = false := beq_eq_false_iff_ne.2 q3
                have c4 : (xy != xy) = false := by simp
                have c5 : (xv != yv) = true := bne_iff_ne.2 q3
                clear HNE
                go_wp2_with (first | ((with_reducible refine wpStill_plain ?_ ?_ (fun _ _ => ?_)); rfl; rfl) | (with_reducible refine wpStill_nil ?_) | ((with_reducible refine wpStill_wantg 11 false ?_ ?_ ?_ (fun _ _ => ?_)); rfl; kernel_rfl; rfl) | ((with_reducible refine wpStill_wantg 24 false ?_ ?_ ?_ (fun _ _ => ?_)); rfl; kernel_rfl; rfl) | ((with_reducible refine wpStill_wantg 37 false ?_ ?_ ?_ (fun _ _ => ?_)); rfl; kernel_rfl; rfl) | ((with_reducible refine wp_draw_all (id := 6) mixed ?_ (fun _ _ => ?_)); kernel_rfl))
                go_ret
                exact ⟨by rw [HF.out]; rfl, Drew.then _ _⟩
            · subst q0 q1
              have HF : Hid (decide (a = b) = false) := Lib.hid (HNE.out fun e => q2 (by injection e))
              have c0 : (xk != xk) = false := by simp
              have c1 : (xs != xs) = false := by simp
              have c2 : (xy == yy) = false := beq_eq_false_iff_ne.2 q2
              have c4 : (xy != yy) = true := bne_iff_ne.2 q2
              clear HNE
              go_wp2_with (first | ((with_reducible refine wpStill_plain ?_ ?_ (fun _ _ => ?_)); rfl; rfl) | (with_reducible refine wpStill_nil ?_) | ((with_reducible refine wpStill_wantg 11 false ?_ ?_ ?_ (fun _ _ => ?_)); rfl; kernel_rfl; rfl) | ((with_reducible refine wpStill_wantg 24 false ?_ ?_ ?_ (fun _ _ => ?_)); rfl; kernel_rfl; rfl) | ((with_reducible refine wpStill_skipg 37 false ?_ ?_ (fun _ _ => ?_)); rfl; kernel_rfl) | ((with_reducible refine wp_draw_all (id := 6) mixed ?_ (fun _ _ => ?_)); kernel_rfl))
              go_ret
              exact ⟨by rw [HF.out]; rfl, Drew.then _ _⟩
          · subst q0
            have HF : Hid (decide (a = b) = false) := Lib.hid (HNE.out fun e => q1 (by injection e))
            have c0 : (xk != xk) = false := by simp
            have c1 : (xs != ys) = true := bne_iff_ne.2 q1
            clear HNE
            go_wp2_with (first | ((with_reducible refine wpStill_plain ?_ ?_ (fun _ _ => ?_)); rfl; rfl) | (with_reducible refine wpStill_nil ?_) | ((with_reducible refine wpStill_wantg 11 false ?_ ?_ ?_ (fun _ _ => ?_)); rfl; kernel_rfl; rfl) | ((with_reducible refine wpStill_skipg 24 false ?_ ?_ (fun _ _ => ?_)); rfl; kernel_rfl) | ((with_reducible refine wpStill_skipg 37 false ?_ ?_ (fun _ _ => ?_)); rfl; kernel_rfl) | ((with_reducible refine wp_draw_all (id := 6) mixed ?_ (fun _ _ => ?_)); kernel_rfl))
            go_ret
            exact ⟨by rw [HF.out]; rfl, Drew.then _ _⟩
        · have HF : Hid (decide (a = b) = false) := Lib.hid (HNE.out fun e => q0 (by injection e))
          have c0 : (xk != yk) = true := bne_iff_ne.2 q0
          clear HNE
          go_wp2_with (first | ((with_reducible refine wpStill_plain ?_ ?_ (fun _ _ => ?_)); rfl; rfl) | (with_reducible refine wpStill_nil ?_) | ((with_reducible refine wpStill_skipg 11 false ?_ ?_ (fun _ _ => ?_)); rfl; kernel_rfl) | ((with_reducible refine wpStill_skipg 24 false ?_ ?_ (fun _ _ => ?_)); rfl; kernel_rfl) | ((with_reducible refine wpStill_skipg 37 false ?_ ?_ (fun _ _ => ?_)); rfl; kernel_rfl) | ((with_reducible refine wp_draw_all (id := 6) mixed ?_ (fun _ _ => ?_)); kernel_rfl))
          go_ret
          exact ⟨by rw [HF.out]; rfl, Drew.then _ _⟩
  · have qli : ((a.length : Int) != (b.length : Int)) = true := by rw [bne_iff_ne]; omega
    have HF : Hid (decide (a = b) = false) := Lib.hid (decide_eq_false fun e => ql (by rw [e]))
    clear ql
    go_enter Try.func18, Try.ntmps18
    go_wp2_with fail
    go_ret
    exact ⟨by rw [HF.out]; rfl, Drew.refl _⟩
end Go.Proofs.Ythgbkncanoknkaa
