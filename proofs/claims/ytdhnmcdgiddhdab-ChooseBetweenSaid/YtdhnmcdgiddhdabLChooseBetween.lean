/-
  The walk of ChooseBetween.
-/
import Derived.Test.YtdhnmcdgiddhdabLChooseMiddle
import Derived.Test.YtdhnmcdgiddhdabLChooseNone
import Derived.Test.YtdhnmcdgiddhdabPureMed
import Derived.Test.YtdhnmcdgiddhdabGuard
set_option linter.unusedVariables false
set_option linter.unusedSimpArgs false
namespace Go.Proofs.Ytdhnmcdgiddhdab
open Go.RowKit Go.ChangeShapes Go.WideShapes
set_option maxRecDepth 100000
def gT (l : List Nat) (i : Nat) : List Nat := (l.take i).filter okB
theorem gT_succ {l : List Nat} {i x : Nat} (h : l[i]? = some x) : gT l (i + 1) = gT l i ++ if okB x then [x] else [] := by
  unfold gT
  rw [List.take_add_one, h, List.filter_append]
  congr 1
  cases hb : okB x <;> simp [hb]
def Bet (G : List Nat) (m lo hi : Nat) (B : Bool) (i : Nat) : Prop := OkF lo ∧ OkF hi ∧ ∀ x ∈ G.take i, Ieee.double.order x x = Ieee.double.order x x ∧ skey lo ≤ skey x ∧ skey x ≤ skey hi ∧ (skey x = skey m → B = true)
theorem Bet.step {G : List Nat} {m lo hi lo2 hi2 x : Nat} {B B2 : Bool} {i : Nat} (h : Bet G m lo hi B i) (hx : G[i]? = some x) (h1 : IsMin lo x lo2) (h2 : IsMax hi x hi2) (h3 : B = true → B2 = true) (h4 : skey x = skey m → B2 = true) : Bet G m lo2 hi2 B2 (i + 1) := by
  refine ⟨h1.1, h2.1, ?_⟩
  intro y hy
  rw [List.take_add_one, hx, List.mem_append] at hy
  rcases hy with hy | hy
  · obtain ⟨_, a1, a2, a3⟩ := h.2.2 y hy
    exact ⟨rfl, Int.le_trans h1.2.1 a1, Int.le_trans a2 h2.2.1, fun e => h3 (a3 e)⟩
  · simp at hy
    subst hy
    exact ⟨rfl, h1.2.2, h2.2.2, h4⟩
set_option maxHeartbeats 8000000 in
theorem ChooseBetween_walk (w : World) (v : Value) (n : Nat) (zs : List Int) (rd : Rd w 1 v n (zs.map (Value.int .u64))) (wf : ∀ z ∈ zs, (Lit.int .u64 z).wf = true) (sz : n * 8 ≤ 140737488351232) :
    Calls Try.prog 7 #[v] w fun e w' => e = .returned (.bool true) ∧ Below w.heap.size w w' := by
  obtain ⟨i0, i0a, i0b, i0c, i0d⟩ := info_parts infoF
  obtain ⟨xs, rfl, hxs⟩ := words_of zs wf
  have hlen := rd.len
  simp only [List.length_map, Nat.mul_one] at hlen
  subst hlen
  have H0 : Hid (Rd w 1 v xs.length (xs.map fun (x : Nat) => Value.int .u64 (x : Int))) := Lib.hid (by have h := rd; rw [List.map_map] at h; exact h)
  obtain ⟨ao, cap, rfl⟩ := rd.shape
  clear rd wf sz
  go_enter Try.func7, Try.ntmps7
  go_wp2_with fail
  refine (begun27 w).mono ?_
  rintro e w1 ⟨rfl, hb⟩
  have hS1 := (St.init w).mono hb
  clear hb
  go_wp2_with fail
  refine (floats27_any _ xs w1 (H0.out.st hS1)).mono ?_
  rintro e w2 ⟨v2, c2, rfl, hr2, hS2⟩
  have hmem : ∀ x ∈ xs.take 40, x < 18446744073709551616 := fun x hx => hxs x (List.mem_of_mem_take hx)
  have hl40 : (xs.take 40).length ≤ 40 := by simp; omega
  generalize xs.take 40 = l at *
  obtain ⟨ao2, cap2, rfl⟩ := hr2.shape
  have hS0 := (hS1.join hS2).one_nil
  have HR2 := Lib.hid (And.intro hr2 hmem)
  have hli : (l.length : Int) ≤ 40 := by omega
  clear hS1 hS2 hr2 hmem hxs
  go_wp2_with fail
  go_loopg [5, 6] l.length (fun m s5 s6 wr => ∃ i : Nat, i + m = l.length ∧ s6 = .int .i64 (i : Int) ∧ ∃ c, RowC 29 1 s5 (gT l i).length (fv (gT l i)) c ∧ St w.heap.size w wr [c, c2] ∧ (gT l i).length ≤ i)
  case atStart => exact ⟨0, by omega, rfl, [], RowC.nil 29 1, hS0, by simp [gT]⟩
  case round =>
    clear hS0
    obtain ⟨i, hi, rfl, c, hr, hS, hgl⟩ := hrel
    obtain ⟨ao5, cap5, rfl⟩ := hr.shape
    cases gk with
    | succ m =>
      have hif : (i : Int) < (l.length : Int) := by omega
      obtain ⟨x, hx⟩ : ∃ x, l[i]? = some x := ⟨_, List.getElem?_eq_getElem (by omega)⟩
      obtain ⟨ad2, rfl, hc⟩ := (HR2.out.1.rd hS 1 rfl).at (fv_get l i x hx)
      have hx64 := HR2.out.2 x (List.mem_of_getElem? hx)
      have HG := Lib.hid (gT_succ hx)
      have hgi : ((gT l i).length : Int) ≤ 40 := by omega
      have e0 : (FloatKind.f64.format.order x x == some .eq) = !nanB x := order_self x
      clear hx
      cases hn : nanB x with
      | true =>
        rw [hn] at e0
        have HOK : Hid (okB x = false) := Lib.hid (by unfold okB; rw [hn]; rfl)
        have HS := Lib.hid (And.intro hr hS)
        simp only [Bool.not_true] at e0
        clear hn hr hS
        go_wp2_with (first | ((with_reducible refine wpStill_plain ?_ ?_ (fun _ _ => ?_)); rfl; rfl) | (with_reducible refine wpStill_nil ?_) | ((with_reducible refine wpStill_skipg 9 true ?_ ?_ (fun _ _ => ?_)); rfl; kernel_rfl) | ((with_reducible refine wpStill_skipg 16 true ?_ ?_ (fun _ _ => ?_)); rfl; kernel_rfl) | ((with_reducible refine wp_draw_all (id := 9) mixed ?_ (fun _ _ => ?_)); kernel_rfl))
        go_roundg m
        case measure => omega
        case rel =>
          have e : gT l (i + 1) = gT l i := by rw [HG.out, HOK.out]; simp
          exact ⟨i + 1, by omega, by go_num, c, by rw [e]; exact HS.out.1, HS.out.2.drew, by rw [e]; omega⟩
      | false =>
        rw [hn] at e0
        simp only [Bool.not_false] at e0
        cases h1 : (FloatKind.f64.format.order x 9094988921128908188 == some .lt) with
        | false =>
          have HOK : Hid (okB x = false) := Lib.hid (by
            unfold okB
            have h1' : (Ieee.double.order x 9094988921128908188 == some .lt) = false := h1
            rw [hn, h1']
            rfl)
          have HS := Lib.hid (And.intro hr hS)
          clear hn hr hS
          go_wp2_with (first | ((with_reducible refine wpStill_plain ?_ ?_ (fun _ _ => ?_)); rfl; rfl) | (with_reducible refine wpStill_nil ?_) | ((with_reducible refine wpStill_wantg 9 true ?_ ?_ ?_ (fun _ _ => ?_)); rfl; kernel_rfl; rfl) | ((with_reducible refine wpStill_skipg 16 true ?_ ?_ (fun _ _ => ?_)); rfl; kernel_rfl) | ((with_reducible refine wp_draw_all (id := 9) mixed ?_ (fun _ _ => ?_)); kernel_rfl))
          go_roundg m
          case measure => omega
          case rel =>
            have e : gT l (i + 1) = gT l i := by rw [HG.out, HOK.out]; simp
            exact ⟨i + 1, by omega, by go_num, c, by rw [e]; exact HS.out.1, HS.out.2.drew, by rw [e]; omega⟩
        | true =>
          cases h2 : (FloatKind.f64.format.order x 18318360957983683996 == some .gt) with
          | false =>
            have HOK : Hid (okB x = false) := Lib.hid (by
              unfold okB
              have h1' : (Ieee.double.order x 9094988921128908188 == some .lt) = true := h1
              have h2' : (Ieee.double.order x 18318360957983683996 == some .gt) = false := h2
              rw [hn, h1', h2']
              rfl)
            have HS := Lib.hid (And.intro hr hS)
            clear hn hr hS
            go_wp2_with (first | ((with_reducible refine wpStill_plain ?_ ?_ (fun _ _ => ?_)); rfl; rfl) | (with_reducible refine wpStill_nil ?_) | ((with_reducible refine wpStill_wantg 9 true ?_ ?_ ?_ (fun _ _ => ?_)); rfl; kernel_rfl; rfl) | ((with_reducible refine wpStill_wantg 16 true ?_ ?_ ?_ (fun _ _ => ?_)); rfl; kernel_rfl; rfl) | ((with_reducible refine wp_draw_all (id := 9) mixed ?_ (fun _ _ => ?_)); kernel_rfl))
            go_roundg m
            case measure => omega
            case rel =>
              have e : gT l (i + 1) = gT l i := by rw [HG.out, HOK.out]; simp
              exact ⟨i + 1, by omega, by go_num, c, by rw [e]; exact HS.out.1, HS.out.2.drew, by rw [e]; omega⟩
          | true =>
            have HOK : Hid (okB x = true) := Lib.hid (by
              unfold okB
              have h1' : (Ieee.double.order x 9094988921128908188 == some .lt) = true := h1
              have h2' : (Ieee.double.order x 18318360957983683996 == some .gt) = true := h2
              rw [hn, h1', h2']
              rfl)
            have hSd := hS.drew
            clear hn hS
            go_wp2_with (first | ((with_reducible refine wpStill_plain ?_ ?_ (fun _ _ => ?_)); rfl; rfl) | (with_reducible refine wpStill_nil ?_) | ((with_reducible refine wpStill_wantg 9 true ?_ ?_ ?_ (fun _ _ => ?_)); rfl; kernel_rfl; rfl) | ((with_reducible refine wpStill_wantg 16 true ?_ ?_ ?_ (fun _ _ => ?_)); rfl; kernel_rfl; rfl) | (at_builtin; (refine wpList_app1 (w := wr.drew) 0 31 i0 (.float .f64 0) _ _ _ rfl rfl rfl rfl Try.underlying31 i0a i0b i0c i0d rfl hSd rfl hr rfl ?_ ?_ ?_); (unfold maxLen; omega); omega; intro v1 c1 w5 hr1 hS5) | ((with_reducible refine wp_draw_all (id := 9) mixed ?_ (fun _ _ => ?_)); kernel_rfl))
            go_roundg m
            case measure => omega
            case rel =>
              have e : gT l (i + 1) = gT l i ++ [x] := by rw [HG.out, HOK.out]; simp
              rw [fvs_snoc, fvs_len, ← e] at hr1
              exact ⟨i + 1, by omega, by go_num, c1, hr1, hS5, by rw [e]; simp; omega⟩
    | zero =>
      obtain rfl : i = l.length := by omega
      have hz : ¬ (l.length : Int) < (l.length : Int) := by omega
      have hok : ∀ x ∈ gT l l.length, OkF x := by
        intro x hx
        unfold gT at hx
        rw [List.mem_filter] at hx
        exact okB_ok (HR2.out.2 x (List.mem_of_mem_take hx.1)) hx.2
      generalize gT l l.length = G at *
      have HOK := Lib.hid hok
      have HS := Lib.hid (And.intro hr hS)
      have hGi : (G.length : Int) ≤ 40 := by omega
      clear hr hS hok hi
      go_wp2_with fail
      refine (median_any _ G wr (HS.out.1.rd HS.out.2 0 rfl) (fun x hx => (HOK.out x hx).1) (by omega)).mono ?_
      rintro e w4 ⟨m0, rfl, hm, hb⟩
      have hS4 := HS.out.2.mono hb
      by_cases q0 : G.length = 0
      · have q0i : ((G.length : Int) == 0) = true := by simp [q0]
        have hG : G = [] := List.eq_nil_of_length_eq_zero q0
        have hnm : nanB m0 = true := by rw [hG] at hm; exact hm.2
        have hne := ne_self m0
        rw [hnm] at hne
        have HB := Lib.hid hS4.below
        clear hm hb hS4 q0 hG hnm
        go_wp2_with fail
        go_ret
        exact ⟨rfl, HB.out⟩
      have q0i : ((G.length : Int) == 0) = false := by simp; intro e; rw [e] at q0; exact q0 rfl
      obtain ⟨mm, hmv, hmn, ⟨a, b, ha, hbb, k1, k2⟩, hodd⟩ := med_law (by omega) HOK.out
      rw [hmv] at hm
      obtain ⟨_, rfl⟩ := hm
      obtain ⟨x0, hx0⟩ : ∃ x, G[0]? = some x := ⟨_, List.getElem?_eq_getElem (by omega)⟩
      obtain ⟨ad5, rfl, hc0⟩ := (HS.out.1.rd hS4 0 rfl).at (fv_get G 0 x0 hx0)
      have hx0k := HOK.out x0 (List.mem_of_getElem? hx0)
      have HLAW := Lib.hid (And.intro hmn (And.intro (show ∃ a b, a ∈ G ∧ b ∈ G ∧ skey a ≤ skey m0 ∧ skey m0 ≤ skey b from ⟨a, b, ha, hbb, k1, k2⟩) hodd))
      have HS4 := Lib.hid hS4
      have HST : Hid (Bet G m0 x0 x0 false 0) := Lib.hid ⟨hx0k, hx0k, by simp⟩
      have hg0 : (0 : Int) < (G.length : Int) := by omega
      clear hmv hmn ha hbb k1 k2 hodd hx0 hx0k hb q0 hS4
      have hc0' : w4.cell? ad5 = some (.float .f64 x0) := hc0
      clear hc0
      go_wp2_with (first | ((with_reducible refine wpStill_plain ?_ ?_ (fun _ _ => ?_)); rfl; rfl) | (with_reducible refine wpStill_nil ?_) | ((with_reducible refine wp_draw_all (id := 14) mixed ?_ (fun _ _ => ?_)); kernel_rfl))
      go_loopg [8, 9, 10, 11] G.length (fun m s8 s9 s10 s11 wx => ∃ (i lo hi : Nat) (B : Bool), i + m = G.length ∧ s11 = .int .i64 (i : Int) ∧ s8 = .bool B ∧ s9 = .float .f64 lo ∧ s10 = .float .f64 hi ∧ Hid (Bet G m0 lo hi B i) ∧ Drew w4 wx)
      case atStart => exact ⟨0, x0, x0, false, by omega, rfl, rfl, rfl, rfl, HST, Drew.mk _ 1⟩
      case round =>
        clear HST hc0'
        obtain ⟨i, lo, hi', B, hi, rfl, rfl, rfl, rfl, HB, hd⟩ := hrel
        have hS := HS4.out.Drew hd
        cases gk with
        | succ m =>
          have hif : (i : Int) < (G.length : Int) := by omega
          obtain ⟨x, hx⟩ : ∃ x, G[i]? = some x := ⟨_, List.getElem?_eq_getElem (by omega)⟩
          obtain ⟨adx, ex, hcx⟩ := (HS.out.1.rd hS 0 rfl).at (fv_get G i x hx)
          cases ex
          have hxk := HOK.out x (List.mem_of_getElem? hx)
          have hlo := HB.out.1
          have hhi := HB.out.2.1
          have HX := Lib.hid hx
          have HD := Lib.hid hd
          have heq : (FloatKind.f64.format.order x m0 == some .eq) = decide (skey x = skey m0) := order_eq_iff x m0 hxk.2.1 HLAW.out.1
          clear hx hS hd
          cases B with
          | true =>
            clear heq
            go_wp2_with fail
            refine (min_any lo x wr hlo hxk).mono ?_
            rintro e w5 ⟨lo2, rfl, hlo2, rfl⟩
            go_wp2_with fail
            refine (max_any hi' x wr hhi hxk).mono ?_
            rintro e w5 ⟨hi2, rfl, hhi2, rfl⟩
            have HB2 := Lib.hid (HB.out.step (B2 := true) HX.out hlo2 hhi2 (fun h => h) (fun _ => rfl))
            clear hlo2 hhi2
            go_wp2_with fail
            go_roundg m
            case measure => omega
            case rel => exact ⟨i + 1, lo2, hi2, true, by omega, by go_num, rfl, rfl, rfl, HB2, HD.out⟩
          | false =>
            obtain ⟨B2, hB2⟩ : ∃ B2, decide (skey x = skey m0) = B2 := ⟨_, rfl⟩
            rw [hB2] at heq
            have HBB : Hid (skey x = skey m0 → B2 = true) := Lib.hid (fun h => by rw [← hB2]; exact decide_eq_true h)
            clear hB2
            go_wp2_with fail
            refine (min_any lo x wr hlo hxk).mono ?_
            rintro e w5 ⟨lo2, rfl, hlo2, rfl⟩
            go_wp2_with fail
            refine (max_any hi' x wr hhi hxk).mono ?_
            rintro e w5 ⟨hi2, rfl, hhi2, rfl⟩
            have HB2 := Lib.hid (HB.out.step (B2 := B2) HX.out hlo2 hhi2 (fun h => by cases h) HBB.out)
            clear hlo2 hhi2
            go_wp2_with fail
            go_roundg m
            case measure => omega
            case rel => exact ⟨i + 1, lo2, hi2, B2, by omega, by go_num, rfl, rfl, rfl, HB2, HD.out⟩
        | zero =>
          obtain rfl : i = G.length := by omega
          have hz : ¬ (G.length : Int) < (G.length : Int) := by omega
          have HBL := Lib.hid hS.below
          obtain ⟨b1, b2, b3⟩ := HB.out
          rw [List.take_length] at b3
          obtain ⟨hmn, ⟨a, b, ha, hbb, k1, k2⟩, hodd⟩ := HLAW.out
          have hlo : skey lo ≤ skey m0 := Int.le_trans (b3 a ha).2.1 k1
          have hhi : skey m0 ≤ skey hi' := Int.le_trans k2 (b3 b hbb).2.2.1
          have o1 : (FloatKind.f64.format.order m0 lo == some .gt || FloatKind.f64.format.order m0 lo == some .eq) = true := by
            have g1 := gt_iff m0 lo hmn b1.2.1
            have g2 := order_eq_iff m0 lo hmn b1.2.1
            show (Ieee.double.order m0 lo == some .gt || Ieee.double.order m0 lo == some .eq) = true
            rw [g1, g2, Bool.or_eq_true, decide_eq_true_eq, decide_eq_true_eq]
            omega
          have o2 : (FloatKind.f64.format.order m0 hi' == some .lt || FloatKind.f64.format.order m0 hi' == some .eq) = true := by
            have g1 := order_lt_iff m0 hi' hmn b2.2.1
            have g2 := order_eq_iff m0 hi' hmn b2.2.1
            show (Ieee.double.order m0 hi' == some .lt || Ieee.double.order m0 hi' == some .eq) = true
            rw [g1, g2, Bool.or_eq_true, decide_eq_true_eq, decide_eq_true_eq]
            omega
          have hBo : B = false → G.length % 2 = 0 := fun h => by
            by_cases q : G.length % 2 = 1
            · have := (b3 m0 (hodd q)).2.2.2 rfl
              rw [h] at this
              cases this
            · omega
          have htm : Int.tmod (G.length : Int) 2 = ((G.length % 2 : Nat) : Int) := by rw [Int.tmod_eq_emod_of_nonneg (by omega)]; omega
          clear hS hd hi b1 b2 b3 hmn ha hbb k1 k2 hodd hlo hhi
          cases B with
          | true =>
            clear hBo htm
            go_wp2_with fail
            go_ret
            exact ⟨by simp [o1, o2], HBL.out⟩
          | false =>
            have hev : ((G.length % 2 : Nat) : Int) = 0 := by rw [hBo rfl]; rfl
            rw [hev] at htm
            clear hBo hev
            go_wp2_with fail
            go_ret
            exact ⟨by simp [o1, o2], HBL.out⟩
end Go.Proofs.Ytdhnmcdgiddhdab
