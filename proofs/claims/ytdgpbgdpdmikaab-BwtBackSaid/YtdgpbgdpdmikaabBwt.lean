/-
  Contracts of the package bwt: next.
-/
import Derived.Test.YtdgpbgdpdmikaabArr
import Derived.Test.YtdgpbgdpdmikaabSufSort
import Derived.Test.YtdgpbgdpdmikaabPureBwt
set_option linter.unusedVariables false
set_option linter.unusedSimpArgs false
namespace Go.Proofs.Ytdgpbgdpdmikaab
open Go.RowKit
set_option maxRecDepth 100000
theorem zero_arr {t : TypeId} {v : Value} (h : (Try.prog.info? t).bind (·.zero) = some v) (w : World) : (zeroValue t).run Try.prog w = .ok v w := by
  cases hi : Try.prog.info? t with
  | none => rw [hi] at h; cases h
  | some i =>
    rw [hi] at h
    simp only [Option.bind_some] at h
    unfold zeroValue typeInfo
    simp [hi, h]
@[go_sem] theorem zero257 (w : World) : (zeroValue 64).run Try.prog w = .ok (.agg (arrN 257 fun _ => 0)) w := zero_arr (by kernel_rfl) w
theorem countP_bound (p : Nat → Bool) (l : List Nat) (n : Nat) (h : l.length ≤ n) : l.countP p ≤ n := Nat.le_trans List.countP_le_length h
theorem count_bound (x : Nat) (l : List Nat) (n : Nat) (h : l.length ≤ n) : l.count x ≤ n := Nat.le_trans List.count_le_length h
/-- The counts, place by place. -/
def nx1 (s : List Nat) (k : Nat) : Int := (s.countP fun x => x + 1 == k : Nat)
def nx2 (s : List Nat) (c k : Nat) : Int := if k ≤ c then (s.countP (fun x => decide (x < k)) : Nat) else nx1 s k
def nx3 (s : List Nat) (j k : Nat) : Int := ((s.countP (fun x => decide (x < k)) + (s.take j).count k : Nat) : Int)
theorem nx1_step (s : List Nat) (i : Nat) (h : i < s.length) : (fun j => if j = ch s i + 1 then nx1 (s.take i) (ch s i + 1) + 1 else nx1 (s.take i) j) = nx1 (s.take (i + 1)) := by
  funext j
  unfold nx1
  rw [take_succ_ch s i h, List.countP_append, List.countP_cons, List.countP_nil]
  by_cases e : j = ch s i + 1
  · subst e; simp
  · have : (ch s i + 1 == j) = false := by simp; omega
    rw [if_neg e, this]
    simp
theorem nx2_zero (s : List Nat) : nx2 s 0 = nx1 s := by
  funext k
  unfold nx2
  split
  · have : k = 0 := by omega
    subst this
    unfold nx1
    simp
  · rfl
theorem countP_succ (s : List Nat) (c : Nat) : s.countP (fun x => decide (x < c + 1)) = (s.countP fun x => x + 1 == c + 1) + s.countP (fun x => decide (x < c)) := by
  induction s with
  | nil => rfl
  | cons x s ih =>
    rw [List.countP_cons, List.countP_cons, List.countP_cons, ih]
    by_cases h1 : x < c
    · have h2 : ¬ x = c := by omega
      have h3 : x < c + 1 := by omega
      simp [h1, h2, h3]
      omega
    · by_cases h2 : x = c
      · subst h2; simp; omega
      · have h3 : ¬ x < c + 1 := by omega
        simp [h1, h2, h3]
theorem nx2_step (s : List Nat) (c : Nat) : (fun j => if j = c + 1 then nx2 s c (c + 1) + nx2 s c c else nx2 s c j) = nx2 s (c + 1) := by
  funext j
  unfold nx2
  by_cases e : j = c + 1
  · subst e
    rw [if_pos rfl, if_neg (by omega), if_pos (Nat.le_refl _), if_pos (Nat.le_refl _)]
    unfold nx1
    rw [countP_succ]
    omega
  · rw [if_neg e]
    by_cases h : j ≤ c
    · rw [if_pos h, if_pos (by omega)]
    · rw [if_neg h, if_neg (by omega)]
theorem nx3_zero (s : List Nat) (k : Nat) (hk : k ≤ 256) : nx2 s 256 k = nx3 s 0 k := by
  unfold nx2 nx3
  rw [if_pos hk]
  simp
theorem nx3_step (s : List Nat) (j : Nat) (h : j < s.length) : (fun k => if k = ch s j then nx3 s j (ch s j) + 1 else nx3 s j k) = nx3 s (j + 1) := by
  funext k
  unfold nx3
  rw [take_succ_ch s j h, List.count_append]
  by_cases e : k = ch s j
  · subst e; simp; omega
  · have : [ch s j].count k = 0 := by rw [List.count_eq_zero]; simpa using e
    rw [if_neg e, this]
    simp
theorem idxR_succ (at_ r : Nat) (h : r ≠ at_) : idxR at_ (r + 1) = idxR at_ r + 1 := by unfold idxR; split <;> split <;> omega
theorem idxR_same (at_ : Nat) : idxR at_ (at_ + 1) = idxR at_ at_ := by unfold idxR; split <;> split <;> omega
def NextOut (s : List Nat) (at_ n : Nat) (w : World) (e : Ending) (w' : World) : Prop :=
  ∃ v c, e = .returned v ∧ RowC 3 1 v (n + 1) (iv (mkI (fun r => if r = at_ then -1 else (toP s at_ r : Int)) (n + 1))) c ∧ St w.heap.size w w' [c]
set_option maxHeartbeats 4000000 in
theorem next_any (l : List UInt8) (v : Value) (at_ : Nat) (w : World) (hn : l.length ≤ 1000000) (ha : at_ ≤ l.length) (hb : Rd w 1 v l.length (bv l)) :
    Calls Try.prog 31 #[v, .int .i64 (at_ : Int)] w (NextOut (nb l) at_ l.length w) := by
  obtain ⟨i0, i0a, i0b, i0c, i0d⟩ := info_parts infoInt
  obtain ⟨ao, cap, rfl⟩ := hb.shape
  have hnl : (l.length : Int) ≤ 1000000 := by omega
  have hS := (St.init w).alloc (.cells (arrN 257 fun _ => 0) 64)
  have HB := Lib.hid hb
  have hat : ∀ wx, Below w.heap.size w wx → ∀ i, i < l.length → ∃ ad, ao = some ad ∧ wx.cell? (ad.add i) = some (.int .u8 (ch (nb l) i : Int)) := by
    intro wx hwx i hi
    have := (hb.keep hwx).at (bv_get l i _ (List.getElem?_eq_getElem hi))
    rw [nb_at l i _ (List.getElem?_eq_getElem hi)]
    exact this
  have HAT := Lib.hid hat
  have hle : ∀ i, ch (nb l) i ≤ 255 := by
    intro i
    rcases Nat.lt_or_ge i (nb l).length with q | q
    · exact nb_le l _ (ch_mem _ i q)
    · unfold ch; rw [List.getD_eq_getElem?_getD, List.getElem?_eq_none q]; simp
  have HLE := Lib.hid hle
  have hsl : (nb l).length = l.length := nb_length l
  generalize hs : nb l = s at *
  have HSL := Lib.hid hsl
  have hai : (at_ : Int) ≤ (l.length : Int) := by omega
  clear hb hat hle hsl hs
  go_enter Try.func31, Try.ntmps31
  go_wp2_with fail
  go_loopg [14] l.length (fun m s14 wr => ∃ i : Nat, i + m = l.length ∧ s14 = .int .i64 (i : Int) ∧ St w.heap.size w wr [[(w.heap.size, .cells (arrN 257 (nx1 (s.take i))) 64 (0, 0))]])
  case atStart => exact ⟨0, by omega, rfl, hS⟩
  case round =>
    clear hS
    obtain ⟨i, hi, rfl, hS⟩ := hrel
    cases gk with
    | succ m =>
      have hil : i < l.length := by omega
      have hii : (i : Int) < (l.length : Int) := by omega
      obtain ⟨ad, rfl, hc⟩ := HAT.out wr hS.below i hil
      have hx := HLE.out i
      have hxi : ((ch s i : Nat) : Int) + 1 < 257 := by omega
      have hld := hS.cell 0 rfl (List.mem_singleton.2 rfl) (ch s i + 1)
      rw [arrN_get _ _ _ (by omega)] at hld
      have hfr := hS.free 0 rfl (List.mem_singleton.2 rfl) (ch s i + 1)
      have hbd : nx1 (s.take i) (ch s i + 1) ≤ 1000000 := by
        unfold nx1
        have := countP_bound (fun x => x + 1 == ch s i + 1) (s.take i) 1000000 (by rw [List.length_take, HSL.out]; omega)
        omega
      have hb0 : 0 ≤ nx1 (s.take i) (ch s i + 1) := by unfold nx1; omega
      have HST := Lib.hid (hS.store 0 rfl (ch s i + 1) (.int .i64 (nx1 (s.take i) (ch s i + 1) + 1)))
      rw [arrN_set, nx1_step s i (by rw [HSL.out]; exact hil)] at HST
      generalize nx1 (s.take i) (ch s i + 1) = z at *
      go_wp2_with fail
      go_roundg m
      case measure => omega
      case rel => exact ⟨i + 1, by omega, by go_num, HST.out⟩
    | zero =>
      obtain rfl : i = l.length := by omega
      have hz : ¬ (l.length : Int) < (l.length : Int) := by omega
      rw [List.take_of_length_le (by rw [HSL.out]; exact Nat.le_refl _), ← nx2_zero] at hS
      clear hi
      go_wp2_with fail
      go_loopg [26] 256 (fun m s26 wr => ∃ c : Nat, c + m = 256 ∧ s26 = .int .i64 (c : Int) ∧ St w.heap.size w wr [[(w.heap.size, .cells (arrN 257 (nx2 s c)) 64 (0, 0))]])
      case atStart => exact ⟨0, by omega, rfl, hS⟩
      case round =>
        clear hS
        obtain ⟨c, hc, rfl, hS⟩ := hrel
        cases gk with
        | succ m =>
          have hci : (c : Int) < 256 := by omega
          have hb2 : ∀ k, 0 ≤ nx2 s c k ∧ nx2 s c k ≤ 1000000 := by
            intro k
            unfold nx2 nx1
            have := countP_bound (fun x => x + 1 == k) s 1000000 (by rw [HSL.out]; exact hn)
            have := countP_bound (fun x => decide (x < k)) s 1000000 (by rw [HSL.out]; exact hn)
            split <;> omega
          obtain ⟨b1, b2⟩ := hb2 c
          obtain ⟨b3, b4⟩ := hb2 (c + 1)
          have hl1 := hS.cell 0 rfl (List.mem_singleton.2 rfl) (c + 1)
          rw [arrN_get _ _ _ (by omega)] at hl1
          have hl2 := hS.cell 0 rfl (List.mem_singleton.2 rfl) c
          rw [arrN_get _ _ _ (by omega)] at hl2
          have hfr := hS.free 0 rfl (List.mem_singleton.2 rfl) (c + 1)
          have HST := Lib.hid (hS.drew.store 0 rfl (c + 1) (.int .i64 (nx2 s c (c + 1) + nx2 s c c)))
          rw [arrN_set, nx2_step s c] at HST
          generalize nx2 s c c = z at *
          generalize nx2 s c (c + 1) = y at *
          clear hb2
          go_wp2_with (first | ((with_reducible refine wpStill_plain ?_ ?_ (fun _ _ => ?_)); rfl; rfl) | (with_reducible refine wpStill_nil ?_) | ((with_reducible refine wp_draw_tail (id := 10) 9 mixed ?_ (fun _ hK => ?_)); kernel_rfl; simp only [List.take_succ_cons, List.take_zero, List.drop_succ_cons, List.drop_zero] at hK ⊢))
          go_roundg m
          case measure => omega
          case rel => exact ⟨c + 1, by omega, by go_num, HST.out⟩
        | zero =>
          obtain rfl : c = 256 := by omega
          have hz : ¬ (256 : Int) < 256 := by omega
          rw [arrN_congr (g := nx3 s (idxR at_ 0)) (fun k hk => by rw [nx3_zero s k (by omega)]; unfold idxR; rw [if_neg (Nat.not_lt_zero _)])] at hS
          clear hc
          go_wp2_with (at_make; (refine wpList_mk (n := (l.length + 1)) 37 i0 (.int .i64 0) _ _ rfl rfl _ _ _ _ rfl rfl Try.underlying37 i0a i0b i0c i0d rfl ?_ ?_ ?_ ?_ hS ?_); omega; omega; omega; (unfold maxLen; omega); intro g cl w1 hr hS1)
          have HQ : Hid (RowC 3 1 (.slice (some ⟨g, 0, none⟩) (l.length + 1) (l.length + 1)) (l.length + 1) (iv (mkI (fun q => if q < 0 then (if q = at_ then -1 else (toP s at_ q : Int)) else 0) (l.length + 1))) cl ∧ St w.heap.size w w1 [cl, [(w.heap.size, .cells (arrN 257 (nx3 s (idxR at_ 0))) 64 (0, 0))]]) := Lib.hid ⟨by
            rw [mkI_congr _ (fun _ => 0) _ (fun j _ => if_neg (by omega)), mkI_const, iv_replicate]
            exact hr, hS1⟩
          clear hr hS1 hS
          go_wp2_with fail
          go_loopg [45] (l.length + 1) (fun m s45 wr => ∃ r : Nat, r + m = l.length + 1 ∧ s45 = .int .i64 (r : Int) ∧ ∃ c, Hid (RowC 3 1 (.slice (some ⟨g, 0, none⟩) (l.length + 1) (l.length + 1)) (l.length + 1) (iv (mkI (fun q => if q < r then (if q = at_ then -1 else (toP s at_ q : Int)) else 0) (l.length + 1))) c ∧ St w.heap.size w wr [c, [(w.heap.size, .cells (arrN 257 (nx3 s (idxR at_ r))) 64 (0, 0))]]))
          case atStart => exact ⟨0, by omega, rfl, cl, HQ⟩
          case round =>
            clear HQ
            obtain ⟨r, hr0, rfl, c, HQ⟩ := hrel
            have hro := HQ.out.1
            have hS := HQ.out.2
            cases gk with
            | zero =>
              have hrl : r = l.length + 1 := by omega
              have hz : ¬ (r : Int) < (l.length : Int) + 1 := by omega
              rw [hrl, mkI_congr _ (fun q => if q = at_ then -1 else (toP s at_ q : Int)) _ (fun q hq => if_pos hq)] at hro
              have HE := Lib.hid (And.intro hro (hS.pick [0] (by decide) [c] rfl))
              clear hro hS hr0 hrl
              go_wp2_with fail
              go_ret
              exact ⟨_, c, rfl, HE.out⟩
            | succ m =>
              have hri : (r : Int) < (l.length : Int) + 1 := by omega
              have hlr := hro.cellAt hS 0 rfl (iv_get _ r _ (mkI_get _ _ r (by omega)))
              have hfr := hro.freeAt hS 0 rfl r
              rw [if_neg (Nat.lt_irrefl r)] at hlr
              have NEW : ∀ z : Int, (if r = at_ then -1 else (toP s at_ r : Int)) = z → (mkI (fun q => if q < r then (if q = at_ then -1 else (toP s at_ q : Int)) else 0) (l.length + 1)).set r z = mkI (fun q => if q < r + 1 then (if q = at_ then -1 else (toP s at_ q : Int)) else 0) (l.length + 1) := by
                intro z hz
                rw [mkI_set]
                refine mkI_congr _ _ _ fun q hq => ?_
                by_cases e : q = r
                · subst e; rw [if_pos rfl, if_pos (Nat.lt_succ_self _), hz]
                · rw [if_neg e]
                  by_cases h2 : q < r
                  · rw [if_pos h2, if_pos (show q < r + 1 by omega)]
                  · rw [if_neg h2, if_neg (show ¬ q < r + 1 by omega)]
              by_cases hra : r = at_
              · have HF : Hid (∃ c', RowC 3 1 (.slice (some ⟨g, 0, none⟩) (l.length + 1) (l.length + 1)) (l.length + 1) (iv (mkI (fun q => if q < r + 1 then (if q = at_ then -1 else (toP s at_ q : Int)) else 0) (l.length + 1))) c' ∧ St w.heap.size w (wr.setCell ⟨g, r, none⟩ (.int .i64 (-1))) [c', [(w.heap.size, .cells (arrN 257 (nx3 s (idxR at_ (r + 1)))) 64 (0, 0))]]) := Lib.hid (by
                  obtain ⟨c', h1, h2⟩ := hro.store hS 0 rfl rfl r (.int .i64 (-1))
                  rw [iv_set, NEW (-1) (if_pos hra)] at h1
                  refine ⟨c', h1, ?_⟩
                  rw [show idxR at_ (r + 1) = idxR at_ r from by rw [hra]; exact idxR_same at_]
                  exact h2)
                have q1 : ¬ at_ < r := by omega
                have q2 : ((r : Int) == (at_ : Int)) = true := by rw [hra]; simp
                clear NEW HQ hro hS hra
                go_wp2_with fail
                go_roundg m
                case measure => omega
                case rel =>
                  obtain ⟨c', hx⟩ := HF.out
                  exact ⟨r + 1, by omega, by go_num, c', Lib.hid hx⟩
              · have q2 : ((r : Int) == (at_ : Int)) = false := by simp; omega
                have hkl : idxR at_ r < l.length := by
                  have := idxR_lt (l := s) (at_ := at_) (r := r) (by rw [HSL.out]; omega) (by rw [HSL.out]; exact ha) hra
                  rwa [HSL.out] at this
                have hx := HLE.out (idxR at_ r)
                have hb3 : 0 ≤ nx3 s (idxR at_ r) (ch s (idxR at_ r)) ∧ nx3 s (idxR at_ r) (ch s (idxR at_ r)) ≤ 2000000 := by
                  unfold nx3
                  have := countP_bound (fun x => decide (x < ch s (idxR at_ r))) s 1000000 (by rw [HSL.out]; exact hn)
                  have := count_bound (ch s (idxR at_ r)) (s.take (idxR at_ r)) 1000000 (by rw [List.length_take, HSL.out]; omega)
                  omega
                obtain ⟨b1, b2⟩ := hb3
                have hld := hS.cell 1 rfl (List.mem_singleton.2 rfl) (ch s (idxR at_ r))
                rw [arrN_get _ _ _ (by omega)] at hld
                have hfa := hS.free 1 rfl (List.mem_singleton.2 rfl) (ch s (idxR at_ r))
                have htp : (if r = at_ then -1 else (toP s at_ r : Int)) = 1 + nx3 s (idxR at_ r) (ch s (idxR at_ r)) := by
                  rw [if_neg hra]
                  unfold toP nx3
                  omega
                have hne : ¬ g = w.heap.size ∧ ¬ w.heap.size = g := hro.apart hS 0 1 rfl rfl (by omega)
                have HF : Hid (∃ c', RowC 3 1 (.slice (some ⟨g, 0, none⟩) (l.length + 1) (l.length + 1)) (l.length + 1) (iv (mkI (fun q => if q < r + 1 then (if q = at_ then -1 else (toP s at_ q : Int)) else 0) (l.length + 1))) c' ∧ St w.heap.size w ((wr.setCell ⟨g, r, none⟩ (.int .i64 (1 + nx3 s (idxR at_ r) (ch s (idxR at_ r))))).setCell ⟨w.heap.size, ch s (idxR at_ r), none⟩ (.int .i64 (nx3 s (idxR at_ r) (ch s (idxR at_ r)) + 1))) [c', [(w.heap.size, .cells (arrN 257 (nx3 s (idxR at_ (r + 1)))) 64 (0, 0))]]) := Lib.hid (by
                  obtain ⟨c', h1, h2⟩ := hro.store hS 0 rfl rfl r (.int .i64 (1 + nx3 s (idxR at_ r) (ch s (idxR at_ r))))
                  rw [iv_set, NEW _ htp] at h1
                  refine ⟨c', h1, ?_⟩
                  have h3 := h2.store 1 rfl (ch s (idxR at_ r)) (.int .i64 (nx3 s (idxR at_ r) (ch s (idxR at_ r)) + 1))
                  rw [arrN_set, nx3_step s _ (by rw [HSL.out]; exact hkl), ← idxR_succ at_ r hra] at h3
                  exact h3)
                obtain ⟨c2, _, hS2⟩ := hro.store hS 0 rfl rfl r (.int .i64 (1 + nx3 s (idxR at_ r) (ch s (idxR at_ r))))
                obtain ⟨ad, rfl, hc⟩ := HAT.out wr hS.below (idxR at_ r) hkl
                obtain ⟨ad2, e2, hc2⟩ := HAT.out _ hS2.below (idxR at_ r) hkl
                cases e2
                have hid : (at_ < r ∧ idxR at_ r = r - 1) ∨ (¬ at_ < r ∧ idxR at_ r = r) := by unfold idxR; split <;> omega
                have hki : ((ch s (idxR at_ r) : Nat) : Int) < 257 := by omega
                clear NEW HQ hro hS hS2 hra htp
                generalize nx3 s (idxR at_ r) (ch s (idxR at_ r)) = z at *
                rcases hid with ⟨q1, q3⟩ | ⟨q1, q3⟩
                · rw [q3] at hc hc2 hld hfa hki hx HF
                  have hkl2 : (r : Int) - 1 < (l.length : Int) := by omega
                  clear q3 hkl
                  go_wp2_with fail
                  go_roundg m
                  case measure => omega
                  case rel =>
                    obtain ⟨c', hx⟩ := HF.out
                    exact ⟨r + 1, by omega, by go_num, c', Lib.hid hx⟩
                · rw [q3] at hc hc2 hld hfa hki hx HF
                  have hkl2 : (r : Int) < (l.length : Int) := by omega
                  clear q3 hkl
                  go_wp2_with fail
                  go_roundg m
                  case measure => omega
                  case rel =>
                    obtain ⟨c', hx⟩ := HF.out
                    exact ⟨r + 1, by omega, by go_num, c', Lib.hid hx⟩
end Go.Proofs.Ytdgpbgdpdmikaab
