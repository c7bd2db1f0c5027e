/-
  Contracts of lengths.Kraft, lengths.Cost, the reference's Cost; foliolaw6.cut.
-/
import Derived.Test.YtmjkacfhhnnlnaaRefKraft
import Derived.Test.YtmjkacfhhnnlnaaLenOf
set_option linter.unusedVariables false
set_option linter.unusedSimpArgs false
namespace Go.Proofs.Ytmjkacfhhnnlnaa
open Go.RowKit
set_option maxRecDepth 100000
set_option maxHeartbeats 1000000 in
theorem lkraft_any (v : Value) (l : List Int) (w : World) (h : Rd w 1 v l.length (iv l)) (hn : l.length ≤ 1000000) :
    Calls Try.prog 12 #[v] w fun e w' => e = .returned (.int .i64 (kraftP l : Int)) ∧ w = w' := by
  obtain ⟨ao, cap, rfl⟩ := h.shape
  have hnl : (l.length : Int) ≤ 1000000 := by omega
  go_enter Try.func12, Try.ntmps12
  go_wp2_with fail
  go_loopg [3, 8] l.length (fun m s3 s8 wr => ∃ i : Nat, i + m = l.length ∧ s8 = .int .i64 (i : Int) ∧ s3 = .int .i64 (kraftP (l.take i) : Int) ∧ w = wr)
  case atStart => exact ⟨0, by omega, rfl, rfl, rfl⟩
  case round =>
    obtain ⟨i, hi, rfl, rfl, rfl⟩ := hrel
    cases gk with
    | zero =>
      obtain rfl : i = l.length := by omega
      clear hi
      rw [List.take_length] at *
      go_wp2_with fail
      go_ret
      exact ⟨rfl, rfl⟩
    | succ m =>
      have hlt : i < l.length := by omega
      obtain ⟨k, hk⟩ : ∃ k, l[i]? = some k := ⟨_, List.getElem?_eq_getElem hlt⟩
      obtain ⟨ad, rfl, hcell⟩ := h.at (iv_get l i k hk)
      have hkr := kraftP_take_succ l i k hk
      have hkl := kraftP_le (l.take i)
      have hll : (l.take i).length ≤ 1000000 := by rw [List.length_take]; omega
      have hkr16 : kraftP (l.take i) ≤ 16384000000 := by omega
      have HKR := Lib.hid hkr
      clear hkr hk hkl hll
      by_cases q1 : 1 ≤ k
      · by_cases q2 : k ≤ 15
        · obtain ⟨K, rfl⟩ := Int.eq_ofNat_of_zero_le (show 0 ≤ k by omega)
          have hK : 1 ≤ K := by omega
          have hp : 2 ^ (15 - K) ≤ 2 ^ 14 := Nat.pow_le_pow_right (by omega) (by omega)
          have HP := Lib.hid hp
          clear hp
          go_wp2_with fail
          go_roundg m
          case measure => omega
          case rel =>
            refine ⟨i + 1, by omega, by go_num, ?_, rfl⟩
            have e2 := HKR.out
            rw [if_pos ⟨q1, q2⟩, Int.toNat_natCast] at e2
            have e1 : ((2 : Int) ^ (15 - K)) = ((2 ^ (15 - K) : Nat) : Int) := by simp
            rw [e1, e2]
            exact kraft_step _ _ hkr16 HP.out
        · go_wp2_with fail
          go_roundg m
          case measure => omega
          case rel => exact ⟨i + 1, by omega, by go_num, by rw [HKR.out, if_neg (by omega)]; rfl, rfl⟩
      · go_wp2_with fail
        go_roundg m
        case measure => omega
        case rel => exact ⟨i + 1, by omega, by go_num, by rw [HKR.out, if_neg (by omega)]; rfl, rfl⟩
/-- Products, summed up. -/
def costT (f l : List Int) (i : Nat) : Int := (((f.zip l).take i).map fun p => p.1 * p.2).sum
def costI (f l : List Int) : Int := costT f l (min f.length l.length)
theorem costT_succ {f l : List Int} {i : Nat} {x y : Int} (hx : f[i]? = some x) (hy : l[i]? = some y) : costT f l (i + 1) = costT f l i + x * y := by
  unfold costT
  have : (f.zip l)[i]? = some (x, y) := by rw [List.getElem?_zip_eq_some]; exact ⟨hx, hy⟩
  rw [List.take_add_one, this, List.map_append, List.sum_append_int]
  simp
/-- Numbers that are not too great. -/
def SmallF (f : List Int) : Prop := f.length ≤ 400 ∧ ∀ x ∈ f, -4294967296 ≤ x ∧ x ≤ 4294967296
def SmallL (l : List Int) : Prop := ∀ y ∈ l, -100 ≤ y ∧ y ≤ 100
theorem prod_small {x y : Int} (hx : -4294967296 ≤ x ∧ x ≤ 4294967296) (hy : -100 ≤ y ∧ y ≤ 100) : -429496729600 ≤ x * y ∧ x * y ≤ 429496729600 := by
  have h1 : (x * y).natAbs = x.natAbs * y.natAbs := Int.natAbs_mul x y
  have h2 : x.natAbs ≤ 4294967296 := by omega
  have h3 : y.natAbs ≤ 100 := by omega
  have h4 := Nat.mul_le_mul h2 h3
  omega
theorem costT_small {f l : List Int} (hf : SmallF f) (hl : SmallL l) : ∀ i, i ≤ min f.length l.length → -(429496729600 * (i : Int)) ≤ costT f l i ∧ costT f l i ≤ 429496729600 * (i : Int)
  | 0, _ => by simp [costT]
  | i + 1, h => by
    obtain ⟨x, hx⟩ : ∃ x, f[i]? = some x := ⟨_, List.getElem?_eq_getElem (by omega)⟩
    obtain ⟨y, hy⟩ : ∃ y, l[i]? = some y := ⟨_, List.getElem?_eq_getElem (by omega)⟩
    have h1 := prod_small (hf.2 x (List.mem_of_getElem? hx)) (hl y (List.mem_of_getElem? hy))
    have h2 := costT_small hf hl i (by omega)
    rw [costT_succ hx hy]
    generalize x * y = z at *
    push_cast
    omega
set_option maxHeartbeats 1000000 in
theorem lcost_any (v1 v2 : Value) (f l : List Int) (w : World) (h1 : Rd w 1 v1 f.length (iv f)) (h2 : Rd w 1 v2 l.length (iv l)) (hf : SmallF f) (hl : SmallL l) :
    Calls Try.prog 13 #[v1, v2] w fun e w' => e = .returned (.int .i64 (costI f l)) ∧ Drew w w' := by
  obtain ⟨ao1, cap1, rfl⟩ := h1.shape
  obtain ⟨ao2, cap2, rfl⟩ := h2.shape
  have hs2 := h2.small
  have hfl : (f.length : Int) ≤ 400 := by have := hf.1; omega
  have hsm : (l.length : Int) ≤ 9223372036854775807 := by omega
  have H := Lib.hid (And.intro h1 (And.intro h2 (And.intro hf hl)))
  unfold costI
  by_cases hle : f.length ≤ l.length
  · have hM : min f.length l.length = f.length := by omega
    have hMi : min (f.length : Int) (l.length : Int) = (f.length : Int) := by omega
    have hM4 : (f.length : Int) ≤ 400 := by omega
    rw [hM]
    have HM := Lib.hid hM
    clear h1 h2 hf hl hM
    go_enter Try.func13, Try.ntmps13
    go_wp2_with fail
    go_loopg [5, 12] f.length (fun m s5 s12 wr => ∃ i : Nat, i + m = f.length ∧ s12 = .int .i64 (i : Int) ∧ s5 = .int .i64 (costT f l i) ∧ Drew w wr)
    case atStart => exact ⟨0, by omega, rfl, rfl, Drew.refl _⟩
    case round =>
      obtain ⟨i, hi, rfl, rfl, hd⟩ := hrel
      obtain ⟨nd, rfl⟩ := hd.out
      cases gk with
      | zero =>
        have him : i = f.length := by omega
        have hz : ¬ (i : Int) < (f.length : Int) := by omega
        have HI := Lib.hid him
        clear hi him hd
        generalize hc : costT f l i = z at *
        have HC := Lib.hid hc
        clear hc
        go_wp2_with fail
        all_goals
          go_ret
          refine ⟨?_, Drew.mk _ _⟩
          rw [← HI.out, HC.out]
          rfl
      | succ m =>
        have him : (i : Int) < (f.length : Int) := by omega
        have hif : (i : Int) < (f.length : Int) := by omega
        have hil : (i : Int) < (l.length : Int) := by omega
        obtain ⟨x, hx⟩ : ∃ x, f[i]? = some x := ⟨_, List.getElem?_eq_getElem (by omega)⟩
        obtain ⟨y, hy⟩ : ∃ y, l[i]? = some y := ⟨_, List.getElem?_eq_getElem (by omega)⟩
        obtain ⟨ad1, rfl, hc1⟩ := H.out.1.at (iv_get f i x hx)
        obtain ⟨ad2, rfl, hc2⟩ := H.out.2.1.at (iv_get l i y hy)
        obtain ⟨p1, p2⟩ := prod_small (H.out.2.2.1.2 x (List.mem_of_getElem? hx)) (H.out.2.2.2 y (List.mem_of_getElem? hy))
        obtain ⟨p3, p4⟩ := costT_small H.out.2.2.1 H.out.2.2.2 i (by omega)
        have HS := Lib.hid (costT_succ hx hy)
        have q1 : -171798691840000 ≤ costT f l i := by omega
        have q2 : costT f l i ≤ 171798691840000 := by omega
        clear hx hy p3 p4 hd
        generalize costT f l i = z at *
        have r1 : IntKind.i64.wrap (x * y) = x * y := IntWalk.i64_in _ (by omega)
        have r2 : IntKind.i64.wrap (z + x * y) = z + x * y := IntWalk.i64_in _ (by omega)
        go_wp2_with (first | ((with_reducible refine wpStill_plain ?_ ?_ (fun _ _ => ?_)); rfl; rfl) | (with_reducible refine wpStill_nil ?_) | ((with_reducible refine wp_draw_all (id := 5) mixed ?_ (fun _ _ => ?_)); kernel_rfl))
        go_roundg m
        case measure => omega
        case rel => exact ⟨i + 1, by omega, by go_num, by rw [HS.out], Drew.mk _ (nd + 1)⟩
  · have hM : min f.length l.length = l.length := by omega
    have hMi : min (f.length : Int) (l.length : Int) = (l.length : Int) := by omega
    have hM4 : (l.length : Int) ≤ 400 := by omega
    rw [hM]
    have HM := Lib.hid hM
    clear h1 h2 hf hl hM
    go_enter Try.func13, Try.ntmps13
    go_wp2_with fail
    go_loopg [5, 12] l.length (fun m s5 s12 wr => ∃ i : Nat, i + m = l.length ∧ s12 = .int .i64 (i : Int) ∧ s5 = .int .i64 (costT f l i) ∧ Drew w wr)
    case atStart => exact ⟨0, by omega, rfl, rfl, Drew.refl _⟩
    case round =>
      obtain ⟨i, hi, rfl, rfl, hd⟩ := hrel
      obtain ⟨nd, rfl⟩ := hd.out
      cases gk with
      | zero =>
        have him : i = l.length := by omega
        have hz : ¬ (i : Int) < (l.length : Int) := by omega
        have HI := Lib.hid him
        clear hi him hd
        generalize hc : costT f l i = z at *
        have HC := Lib.hid hc
        clear hc
        go_wp2_with fail
        all_goals
          go_ret
          refine ⟨?_, Drew.mk _ _⟩
          rw [← HI.out, HC.out]
          rfl
      | succ m =>
        have him : (i : Int) < (l.length : Int) := by omega
        have hif : (i : Int) < (f.length : Int) := by omega
        have hil : (i : Int) < (l.length : Int) := by omega
        obtain ⟨x, hx⟩ : ∃ x, f[i]? = some x := ⟨_, List.getElem?_eq_getElem (by omega)⟩
        obtain ⟨y, hy⟩ : ∃ y, l[i]? = some y := ⟨_, List.getElem?_eq_getElem (by omega)⟩
        obtain ⟨ad1, rfl, hc1⟩ := H.out.1.at (iv_get f i x hx)
        obtain ⟨ad2, rfl, hc2⟩ := H.out.2.1.at (iv_get l i y hy)
        obtain ⟨p1, p2⟩ := prod_small (H.out.2.2.1.2 x (List.mem_of_getElem? hx)) (H.out.2.2.2 y (List.mem_of_getElem? hy))
        obtain ⟨p3, p4⟩ := costT_small H.out.2.2.1 H.out.2.2.2 i (by omega)
        have HS := Lib.hid (costT_succ hx hy)
        have q1 : -171798691840000 ≤ costT f l i := by omega
        have q2 : costT f l i ≤ 171798691840000 := by omega
        clear hx hy p3 p4 hd
        generalize costT f l i = z at *
        have r1 : IntKind.i64.wrap (x * y) = x * y := IntWalk.i64_in _ (by omega)
        have r2 : IntKind.i64.wrap (z + x * y) = z + x * y := IntWalk.i64_in _ (by omega)
        go_wp2_with (first | ((with_reducible refine wpStill_plain ?_ ?_ (fun _ _ => ?_)); rfl; rfl) | (with_reducible refine wpStill_nil ?_) | ((with_reducible refine wp_draw_all (id := 5) mixed ?_ (fun _ _ => ?_)); kernel_rfl))
        go_roundg m
        case measure => omega
        case rel => exact ⟨i + 1, by omega, by go_num, by rw [HS.out], Drew.mk _ (nd + 1)⟩
set_option maxHeartbeats 1000000 in
theorem refcost_any (v1 v2 : Value) (f l : List Int) (w : World) (h1 : Rd w 1 v1 f.length (iv f)) (h2 : Rd w 1 v2 l.length (iv l)) (hf : SmallF f) (hl : SmallL l) :
    Calls Try.prog 10 #[v1, v2] w fun e w' => e = .returned (.int .i64 (costI f l)) ∧ Drew w w' := by
  obtain ⟨ao1, cap1, rfl⟩ := h1.shape
  obtain ⟨ao2, cap2, rfl⟩ := h2.shape
  have hs2 := h2.small
  have hfl : (f.length : Int) ≤ 400 := by have := hf.1; omega
  have hsm : (l.length : Int) ≤ 9223372036854775807 := by omega
  have H := Lib.hid (And.intro h1 (And.intro h2 (And.intro hf hl)))
  unfold costI
  by_cases hle : f.length ≤ l.length
  · have hM : min f.length l.length = f.length := by omega
    have hMi : min (f.length : Int) (l.length : Int) = (f.length : Int) := by omega
    have hM4 : (f.length : Int) ≤ 400 := by omega
    rw [hM]
    have HM := Lib.hid hM
    clear h1 h2 hf hl hM
    go_enter Try.func10, Try.ntmps10
    go_wp2_with fail
    go_loopg [5, 6] f.length (fun m s5 s6 wr => ∃ i : Nat, i + m = f.length ∧ s6 = .int .i64 (i : Int) ∧ s5 = .int .i64 (costT f l i) ∧ Drew w wr)
    case atStart => exact ⟨0, by omega, rfl, rfl, Drew.refl _⟩
    case round =>
      obtain ⟨i, hi, rfl, rfl, hd⟩ := hrel
      obtain ⟨nd, rfl⟩ := hd.out
      cases gk with
      | zero =>
        have him : i = f.length := by omega
        have hz : ¬ (i : Int) < (f.length : Int) := by omega
        have HI := Lib.hid him
        clear hi him hd
        generalize hc : costT f l i = z at *
        have HC := Lib.hid hc
        clear hc
        go_wp2_with fail
        all_goals
          go_ret
          refine ⟨?_, Drew.mk _ _⟩
          rw [← HI.out, HC.out]
          rfl
      | succ m =>
        have him : (i : Int) < (f.length : Int) := by omega
        have hif : (i : Int) < (f.length : Int) := by omega
        have hil : (i : Int) < (l.length : Int) := by omega
        obtain ⟨x, hx⟩ : ∃ x, f[i]? = some x := ⟨_, List.getElem?_eq_getElem (by omega)⟩
        obtain ⟨y, hy⟩ : ∃ y, l[i]? = some y := ⟨_, List.getElem?_eq_getElem (by omega)⟩
        obtain ⟨ad1, rfl, hc1⟩ := H.out.1.at (iv_get f i x hx)
        obtain ⟨ad2, rfl, hc2⟩ := H.out.2.1.at (iv_get l i y hy)
        obtain ⟨p1, p2⟩ := prod_small (H.out.2.2.1.2 x (List.mem_of_getElem? hx)) (H.out.2.2.2 y (List.mem_of_getElem? hy))
        obtain ⟨p3, p4⟩ := costT_small H.out.2.2.1 H.out.2.2.2 i (by omega)
        have HS := Lib.hid (costT_succ hx hy)
        have q1 : -171798691840000 ≤ costT f l i := by omega
        have q2 : costT f l i ≤ 171798691840000 := by omega
        clear hx hy p3 p4 hd
        generalize costT f l i = z at *
        have r1 : IntKind.i64.wrap (x * y) = x * y := IntWalk.i64_in _ (by omega)
        have r2 : IntKind.i64.wrap (z + x * y) = z + x * y := IntWalk.i64_in _ (by omega)
        go_wp2_with (first | ((with_reducible refine wpStill_plain ?_ ?_ (fun _ _ => ?_)); rfl; rfl) | (with_reducible refine wpStill_nil ?_) | ((with_reducible refine wp_draw_all (id := 5) mixed ?_ (fun _ _ => ?_)); kernel_rfl))
        go_roundg m
        case measure => omega
        case rel => exact ⟨i + 1, by omega, by go_num, by rw [HS.out], Drew.mk _ (nd + 1)⟩
  · have hM : min f.length l.length = l.length := by omega
    have hMi : min (f.length : Int) (l.length : Int) = (l.length : Int) := by omega
    have hM4 : (l.length : Int) ≤ 400 := by omega
    rw [hM]
    have HM := Lib.hid hM
    clear h1 h2 hf hl hM
    go_enter Try.func10, Try.ntmps10
    go_wp2_with fail
    go_loopg [5, 6] l.length (fun m s5 s6 wr => ∃ i : Nat, i + m = l.length ∧ s6 = .int .i64 (i : Int) ∧ s5 = .int .i64 (costT f l i) ∧ Drew w wr)
    case atStart => exact ⟨0, by omega, rfl, rfl, Drew.refl _⟩
    case round =>
      obtain ⟨i, hi, rfl, rfl, hd⟩ := hrel
      obtain ⟨nd, rfl⟩ := hd.out
      cases gk with
      | zero =>
        have him : i = l.length := by omega
        have hz : ¬ (i : Int) < (l.length : Int) := by omega
        have HI := Lib.hid him
        clear hi him hd
        generalize hc : costT f l i = z at *
        have HC := Lib.hid hc
        clear hc
        go_wp2_with fail
        all_goals
          go_ret
          refine ⟨?_, Drew.mk _ _⟩
          rw [← HI.out, HC.out]
          rfl
      | succ m =>
        have him : (i : Int) < (l.length : Int) := by omega
        have hif : (i : Int) < (f.length : Int) := by omega
        have hil : (i : Int) < (l.length : Int) := by omega
        obtain ⟨x, hx⟩ : ∃ x, f[i]? = some x := ⟨_, List.getElem?_eq_getElem (by omega)⟩
        obtain ⟨y, hy⟩ : ∃ y, l[i]? = some y := ⟨_, List.getElem?_eq_getElem (by omega)⟩
        obtain ⟨ad1, rfl, hc1⟩ := H.out.1.at (iv_get f i x hx)
        obtain ⟨ad2, rfl, hc2⟩ := H.out.2.1.at (iv_get l i y hy)
        obtain ⟨p1, p2⟩ := prod_small (H.out.2.2.1.2 x (List.mem_of_getElem? hx)) (H.out.2.2.2 y (List.mem_of_getElem? hy))
        obtain ⟨p3, p4⟩ := costT_small H.out.2.2.1 H.out.2.2.2 i (by omega)
        have HS := Lib.hid (costT_succ hx hy)
        have q1 : -171798691840000 ≤ costT f l i := by omega
        have q2 : costT f l i ≤ 171798691840000 := by omega
        clear hx hy p3 p4 hd
        generalize costT f l i = z at *
        have r1 : IntKind.i64.wrap (x * y) = x * y := IntWalk.i64_in _ (by omega)
        have r2 : IntKind.i64.wrap (z + x * y) = z + x * y := IntWalk.i64_in _ (by omega)
        go_wp2_with (first | ((with_reducible refine wpStill_plain ?_ ?_ (fun _ _ => ?_)); rfl; rfl) | (with_reducible refine wpStill_nil ?_) | ((with_reducible refine wp_draw_all (id := 5) mixed ?_ (fun _ _ => ?_)); kernel_rfl))
        go_roundg m
        case measure => omega
        case rel => exact ⟨i + 1, by omega, by go_num, by rw [HS.out], Drew.mk _ (nd + 1)⟩
end Go.Proofs.Ytmjkacfhhnnlnaa
