/-
  Contract of the reference's Inverse.
-/
import Derived.Test.YtdgpbgdpdmikaabBwtFwd
import Derived.Test.YtdgpbgdpdmikaabCnt256
import Derived.Test.YtdgpbgdpdmikaabBwtBegun
import Derived.Test.YtdgpbgdpdmikaabBytesStr
import Derived.Laws.Strings
set_option linter.unusedVariables false
set_option linter.unusedSimpArgs false
namespace Go.Proofs.Ytdgpbgdpdmikaab
open Go.RowKit
set_option maxRecDepth 100000
def InvOut (l : List UInt8) (a : Int) (w : World) (e : Ending) (w' : World) : Prop :=
  (goodI (nb l) a ∧ ∃ v c x, e = .returned (.tuple #[v, .bool true]) ∧ RowC 5 1 v x.length (bv x) c ∧ nb x = invP (nb l) a.toNat ∧ St w.heap.size w w' [c]) ∨
  (¬ goodI (nb l) a ∧ ∃ v, e = .returned (.tuple #[v, .bool false]) ∧ St w.heap.size w w' [])
def fst1 (s : List Nat) (c k : Nat) : Int := if k < c then ((1 + s.countP (fun x => decide (x < k)) : Nat) : Int) else 0
theorem fst1_step (s : List Nat) (c : Nat) : (fun j => if j = c then ((1 + s.countP (fun x => decide (x < c)) : Nat) : Int) else fst1 s c j) = fst1 s (c + 1) := by
  funext j
  unfold fst1
  by_cases e : j = c
  · subst e; rw [if_pos rfl, if_pos (Nat.lt_succ_self _)]
  · rw [if_neg e]
    by_cases h : j < c
    · rw [if_pos h, if_pos (show j < c + 1 by omega)]
    · rw [if_neg h, if_neg (show ¬ j < c + 1 by omega)]
theorem sum_step (s : List Nat) (c : Nat) : s.countP (fun x => decide (x < c + 1)) = s.countP (fun x => decide (x < c)) + s.count c := by
  induction s with
  | nil => rfl
  | cons x s ih =>
    rw [List.countP_cons, List.countP_cons, List.count_cons, ih]
    by_cases h1 : x < c
    · have h2 : (x == c) = false := beq_eq_false_iff_ne.2 (by omega)
      have h3 : x < c + 1 := by omega
      simp [h1, h2, h3]
      omega
    · by_cases h2 : x = c
      · subst h2; simp; omega
      · have h3 : ¬ x < c + 1 := by omega
        simp [h1, h2, h3]
def seen1 (s : List Nat) (j k : Nat) : Int := ((s.take j).count k : Nat)
theorem seen1_step (s : List Nat) (j : Nat) (h : j < s.length) : (fun k => if k = ch s j then seen1 s j (ch s j) + 1 else seen1 s j k) = seen1 s (j + 1) := by
  funext k
  unfold seen1
  rw [take_succ_ch s j h, List.count_append]
  by_cases e : k = ch s j
  · subst e; simp
  · have : [ch s j].count k = 0 := by rw [List.count_eq_zero]; simpa using e
    rw [if_neg e, this]
    simp
set_option maxHeartbeats 8000000 in
theorem refinverse_any (l : List UInt8) (v : Value) (a : Int) (w : World) (hn : l.length ≤ 100000) (hb : Rd w 1 v l.length (bv l)) :
    Calls Try.prog 20 #[v, .int .i64 a] w (InvOut l a w) := by
  obtain ⟨i0, i0a, i0b, i0c, i0d⟩ := info_parts infoInt
  obtain ⟨j0, j0a, j0b, j0c, j0d⟩ := info_parts infoU8
  obtain ⟨ao, cap, rfl⟩ := hb.shape
  have hnl : (l.length : Int) ≤ 100000 := by omega
  have HB := Lib.hid hb
  have hS0 := St.init w
  clear hb
  by_cases h0 : l.length = 0
  · have hl0 : l = [] := List.eq_nil_of_length_eq_zero h0
    subst hl0
    by_cases ha : a = 0
    · subst ha
      go_enter Try.func20, Try.ntmps20
      go_wp2_with fail
      go_ret2
      exact .inl ⟨⟨Int.le_refl _, Nat.le_refl _, by intro j hj; simp [nb] at hj, rfl⟩, _, [], [], rfl, RowC.nil _ _, rfl, hS0.one_nil⟩
    · have hbad : ¬ goodI (nb []) a := by
        rintro ⟨h1, h2, _⟩
        simp [nb] at h2
        omega
      have ha1 : (a == 0) = false := by simpa using ha
      have HBAD := Lib.hid hbad
      clear hbad ha h0
      go_enter Try.func20, Try.ntmps20
      go_wp2_with fail
      go_ret2
      exact .inr ⟨HBAD.out, _, rfl, hS0⟩
  · have hl1 : ((l.length : Int) == 0) = false := by simp; exact fun e => h0 (by rw [e]; rfl)
    have hsl := nb_length l
    by_cases hlt : a < 1
    · have hbad : ¬ goodI (nb l) a := by
        rintro ⟨h1, h2, h3, _⟩
        exact h3 0 (by omega) (by rw [rowP]; omega)
      have HBAD := Lib.hid hbad
      clear hbad hsl h0
      go_enter Try.func20, Try.ntmps20
      go_wp2_with fail
      go_ret2
      exact .inr ⟨HBAD.out, _, rfl, hS0⟩
    · by_cases hgt : (l.length : Int) < a
      · have hbad : ¬ goodI (nb l) a := by
          rintro ⟨h1, h2, _⟩
          omega
        have HBAD := Lib.hid hbad
        clear hbad hsl h0
        go_enter Try.func20, Try.ntmps20
        go_wp2_with fail
        go_ret2
        exact .inr ⟨HBAD.out, _, rfl, hS0⟩
      · obtain ⟨at_, rfl⟩ : ∃ k : Nat, a = (k : Int) := ⟨a.toNat, by omega⟩
        have hal : at_ ≤ l.length := by omega
        have ha1 : 1 ≤ at_ := by omega
        have hle : ∀ i, ch (nb l) i ≤ 255 := by
          intro i
          rcases Nat.lt_or_ge i (nb l).length with q | q
          · exact nb_le l _ (ch_mem _ i q)
          · unfold ch; rw [List.getD_eq_getElem?_getD, List.getElem?_eq_none q]; simp
        have HLE := Lib.hid hle
        have HSL := Lib.hid hsl
        have HAT : Hid (∀ wx, Below w.heap.size w wx → ∀ i, i < l.length → ∃ ad, ao = some ad ∧ wx.cell? (ad.add i) = some (.int .u8 (ch (nb l) i : Int))) := Lib.hid (by
          intro wx hwx i hi
          have := (HB.out.keep hwx).at (bv_get l i _ (List.getElem?_eq_getElem hi))
          rw [nb_at l i _ (List.getElem?_eq_getElem hi)]
          exact this)
        have hS1 := hS0.alloc (.cells (arrN 256 fun _ => 0) 34)
        clear hle hsl h0 hS0
        go_enter Try.func20, Try.ntmps20
        go_wp2_with fail
        go_loopg [7] l.length (fun m s7 wr => ∃ i : Nat, i + m = l.length ∧ s7 = .int .i64 (i : Int) ∧ St w.heap.size w wr [[(w.heap.size, .cells (arrN 256 (sm1 ((nb l).take i))) 34 (0, 0))]])
        case atStart => exact ⟨0, by omega, rfl, hS1⟩
        case round =>
          clear hS1
          obtain ⟨i, hi, rfl, hS⟩ := hrel
          cases gk with
          | succ m =>
            have hil : i < l.length := by omega
            have hii : (i : Int) < (l.length : Int) := by omega
            obtain ⟨ad, rfl, hc⟩ := HAT.out wr hS.below i hil
            have hx := HLE.out i
            have hxi : ((ch (nb l) i : Nat) : Int) < 256 := by omega
            have hld := hS.cell 0 rfl (List.mem_singleton.2 rfl) (ch (nb l) i)
            rw [arrN_get _ _ _ (by omega)] at hld
            have hfr := hS.free 0 rfl (List.mem_singleton.2 rfl) (ch (nb l) i)
            obtain ⟨b1, b2⟩ := sm_bound ((nb l).take i) 100000 (ch (nb l) i) (by have := HSL.out; rw [List.length_take]; omega)
            have HST := Lib.hid (hS.store 0 rfl (ch (nb l) i) (.int .i64 (sm1 ((nb l).take i) (ch (nb l) i) + 1)))
            rw [arrN_set, sm1_step (nb l) i (by rw [HSL.out]; exact hil)] at HST
            generalize sm1 ((nb l).take i) (ch (nb l) i) = z at *
            go_wp2_with fail
            go_roundg m
            case measure => omega
            case rel => exact ⟨i + 1, by omega, by go_num, HST.out⟩
          | zero =>
            obtain rfl : i = l.length := by omega
            have hz : ¬ (l.length : Int) < (l.length : Int) := by omega
            rw [List.take_of_length_le (by rw [HSL.out]; exact Nat.le_refl _)] at hS
            clear hi
            have hS2 := hS.alloc (.cells (arrN 256 fun _ => 0) 34)
            have HW : Hid (¬ wr.heap.size = w.heap.size ∧ ¬ w.heap.size = wr.heap.size) := Lib.hid (by have := hS.lt (List.mem_singleton.2 rfl) (List.mem_singleton.2 rfl); omega)
            generalize hfb : wr.heap.size = fb at *
            clear hS
            go_wp2_with fail
            go_loopg [9, 10] 256 (fun m s9 s10 wr => ∃ c : Nat, c + m = 256 ∧ s10 = .int .i64 (c : Int) ∧ s9 = .int .i64 (1 + (((nb l).countP (fun x => decide (x < c)) : Nat) : Int)) ∧ St w.heap.size w wr [[(fb, .cells (arrN 256 (fst1 (nb l) c)) 34 (0, 0))], [(w.heap.size, .cells (arrN 256 (sm1 (nb l))) 34 (0, 0))]])
            case atStart => exact ⟨0, by omega, rfl, by simp, by rw [show fst1 (nb l) 0 = fun _ => 0 from by funext k; unfold fst1; rw [if_neg (Nat.not_lt_zero _)]]; exact hS2⟩
            case round =>
              clear hS2
              obtain ⟨c, hc, rfl, rfl, hS⟩ := hrel
              obtain ⟨hw1, hw2⟩ := HW.out
              cases gk with
              | succ m =>
                have hci : (c : Int) < 256 := by omega
                have hcn : c < 256 := by omega
                have hbd := countP_bound (fun x => decide (x < c)) (nb l) 100000 (by rw [HSL.out]; exact hn)
                obtain ⟨b1, b2⟩ := sm_bound (nb l) 100000 c (by rw [HSL.out]; exact hn)
                have hl1 := hS.cell 1 rfl (List.mem_singleton.2 rfl) c
                rw [arrN_get _ _ _ hcn] at hl1
                have hl0 := hS.cell 0 rfl (List.mem_singleton.2 rfl) c
                rw [arrN_get _ _ _ hcn] at hl0
                have hfr := hS.free 0 rfl (List.mem_singleton.2 rfl) c
                have HSU := Lib.hid (sum_step (nb l) c)
                have HST := Lib.hid (hS.store 0 rfl c (.int .i64 (1 + (((nb l).countP (fun x => decide (x < c)) : Nat) : Int))))
                rw [show (1 + (((nb l).countP (fun x => decide (x < c)) : Nat) : Int)) = ((1 + (nb l).countP (fun x => decide (x < c)) : Nat) : Int) from by omega, arrN_set, fst1_step (nb l) c] at HST
                have HSM : Hid (sm1 (nb l) c = (((nb l).count c : Nat) : Int)) := Lib.hid rfl
                generalize sm1 (nb l) c = y at *
                generalize hz : (nb l).countP (fun x => decide (x < c)) = z at *
                have HZ := Lib.hid hz
                clear hz
                go_wp2_with fail
                go_roundg m
                case measure => omega
                case rel =>
                  exact ⟨c + 1, by omega, by go_num, by have h1 := HSU.out; have h2 := HSM.out; rw [h1]; congr 1; omega, HST.out⟩
              | zero =>
                obtain rfl : c = 256 := by omega
                have hz : ¬ (256 : Int) < 256 := by omega
                clear hc
                have hS3 := hS.alloc (.cells (arrN 256 fun _ => 0) 34)
                have HW2 : Hid (¬ wr.heap.size = fb ∧ ¬ fb = wr.heap.size) := Lib.hid (by have := hS.lt (c := [(fb, .cells (arrN 256 (fst1 (nb l) 256)) 34 (0, 0))]) (List.mem_cons_self ..) (List.mem_singleton.2 rfl); omega)
                generalize hsb : wr.heap.size = sb at *
                clear hS hw1 hw2
                go_wp2_with (at_make; (refine wpList_mk (n := (l.length + 1)) 37 i0 (.int .i64 0) _ _ rfl rfl _ _ _ _ rfl rfl Try.underlying37 i0a i0b i0c i0d rfl ?_ ?_ ?_ ?_ hS3 ?_); omega; omega; omega; (unfold maxLen; omega); intro g cl w1 hr hS4)
                have HQ : Hid (RowC 3 1 (.slice (some ⟨g, 0, none⟩) (l.length + 1) (l.length + 1)) (l.length + 1) (iv (mkI (fun q => if q < 0 then (if q = at_ then 0 else (toP (nb l) at_ q : Int)) else 0) (l.length + 1))) cl ∧ St w.heap.size w w1 [cl, [(sb, .cells (arrN 256 (seen1 (nb l) (idxR at_ 0))) 34 (0, 0))], [(fb, .cells (arrN 256 (fst1 (nb l) 256)) 34 (0, 0))]]) := Lib.hid ⟨by
                  rw [mkI_congr _ (fun _ => 0) _ (fun j _ => if_neg (by omega)), mkI_const, iv_replicate]
                  exact hr, by
                  rw [show seen1 (nb l) (idxR at_ 0) = fun _ => 0 from by funext k; unfold seen1 idxR; rw [if_neg (Nat.not_lt_zero _)]; simp]
                  exact hS4.pick [0, 1, 2] (by decide) _ rfl⟩
                clear hr hS4 hS3
                go_wp2_with fail
                go_loopg [13] (l.length + 1) (fun m s13 wr => ∃ r : Nat, r + m = l.length + 1 ∧ s13 = .int .i64 (r : Int) ∧ ∃ c, Hid (RowC 3 1 (.slice (some ⟨g, 0, none⟩) (l.length + 1) (l.length + 1)) (l.length + 1) (iv (mkI (fun q => if q < r then (if q = at_ then 0 else (toP (nb l) at_ q : Int)) else 0) (l.length + 1))) c ∧ St w.heap.size w wr [c, [(sb, .cells (arrN 256 (seen1 (nb l) (idxR at_ r))) 34 (0, 0))], [(fb, .cells (arrN 256 (fst1 (nb l) 256)) 34 (0, 0))]]))
                case atStart => exact ⟨0, by omega, rfl, cl, HQ⟩
                case round =>
                  clear HQ
                  obtain ⟨r, hr0, rfl, cn, HQ⟩ := hrel
                  have hro := HQ.out.1
                  have hS := HQ.out.2
                  cases gk with
                  | succ m =>
                    have hri : (r : Int) ≤ (l.length : Int) := by omega
                    have hlr := hro.cellAt hS 0 rfl (iv_get _ r _ (mkI_get _ _ r (by omega)))
                    have hfr := hro.freeAt hS 0 rfl r
                    rw [if_neg (Nat.lt_irrefl r)] at hlr
                    have NEW : ∀ z : Int, (if r = at_ then 0 else (toP (nb l) at_ r : Int)) = z → (mkI (fun q => if q < r then (if q = at_ then 0 else (toP (nb l) at_ q : Int)) else 0) (l.length + 1)).set r z = mkI (fun q => if q < r + 1 then (if q = at_ then 0 else (toP (nb l) at_ q : Int)) else 0) (l.length + 1) := by
                      intro z hz
                      rw [mkI_set]
                      refine mkI_congr _ _ _ fun q hq => ?_
                      by_cases e : q = r
                      · subst e; rw [if_pos rfl, if_pos (Nat.lt_succ_self _), hz]
                      · rw [if_neg e]
                        by_cases h2 : q < r
                        · rw [if_pos h2, if_pos (show q < r + 1 by omega)]
                        · rw [if_neg h2, if_neg (show ¬ q < r + 1 by omega)]
                    by_cases hra : r = at_
                    · have HF : Hid (∃ c', RowC 3 1 (.slice (some ⟨g, 0, none⟩) (l.length + 1) (l.length + 1)) (l.length + 1) (iv (mkI (fun q => if q < r + 1 then (if q = at_ then 0 else (toP (nb l) at_ q : Int)) else 0) (l.length + 1))) c' ∧ St w.heap.size w wr [c', [(sb, .cells (arrN 256 (seen1 (nb l) (idxR at_ (r + 1)))) 34 (0, 0))], [(fb, .cells (arrN 256 (fst1 (nb l) 256)) 34 (0, 0))]]) := Lib.hid (by
                        refine ⟨cn, ?_, ?_⟩
                        · rw [mkI_congr _ (fun q => if q < r then (if q = at_ then 0 else (toP (nb l) at_ q : Int)) else 0) _ (fun q hq => by
                            by_cases e : q = r
                            · subst e; rw [if_pos (Nat.lt_succ_self _), if_pos hra, if_neg (Nat.lt_irrefl _)]
                            · by_cases h2 : q < r
                              · rw [if_pos h2, if_pos (show q < r + 1 by omega)]
                              · rw [if_neg h2, if_neg (show ¬ q < r + 1 by omega)])]
                          exact hro
                        · rw [show idxR at_ (r + 1) = idxR at_ r from by rw [hra]; exact idxR_same at_]
                          exact hS)
                      have q2 : ((r : Int) == (at_ : Int)) = true := by rw [hra]; simp
                      clear NEW HQ hro hS hra
                      go_wp2_with fail
                      go_roundg m
                      case measure => omega
                      case rel =>
                        obtain ⟨c', hx⟩ := HF.out
                        exact ⟨r + 1, by omega, by go_num, c', Lib.hid hx⟩
                    · have q2 : ((r : Int) == (at_ : Int)) = false := by simp; omega
                      have hkl : idxR at_ r < l.length := by
                        have := idxR_lt (l := nb l) (at_ := at_) (r := r) (by rw [HSL.out]; omega) (by rw [HSL.out]; exact hal) hra
                        rwa [HSL.out] at this
                      have hx := HLE.out (idxR at_ r)
                      have hb3 : 0 ≤ seen1 (nb l) (idxR at_ r) (ch (nb l) (idxR at_ r)) ∧ seen1 (nb l) (idxR at_ r) (ch (nb l) (idxR at_ r)) ≤ 100000 := by
                        unfold seen1
                        have := count_bound (ch (nb l) (idxR at_ r)) ((nb l).take (idxR at_ r)) 100000 (by rw [List.length_take, HSL.out]; omega)
                        omega
                      have hb4 : 0 ≤ fst1 (nb l) 256 (ch (nb l) (idxR at_ r)) ∧ fst1 (nb l) 256 (ch (nb l) (idxR at_ r)) ≤ 100001 := by
                        unfold fst1
                        have := countP_bound (fun x => decide (x < ch (nb l) (idxR at_ r))) (nb l) 100000 (by rw [HSL.out]; exact hn)
                        split <;> omega
                      obtain ⟨b1, b2⟩ := hb3
                      obtain ⟨b3, b4⟩ := hb4
                      have hld := hS.cell 1 rfl (List.mem_singleton.2 rfl) (ch (nb l) (idxR at_ r))
                      rw [arrN_get _ _ _ (by omega)] at hld
                      have hlf := hS.cell 2 rfl (List.mem_singleton.2 rfl) (ch (nb l) (idxR at_ r))
                      rw [arrN_get _ _ _ (by omega)] at hlf
                      have hfa := hS.free 1 rfl (List.mem_singleton.2 rfl) (ch (nb l) (idxR at_ r))
                      have htp : (if r = at_ then 0 else (toP (nb l) at_ r : Int)) = fst1 (nb l) 256 (ch (nb l) (idxR at_ r)) + seen1 (nb l) (idxR at_ r) (ch (nb l) (idxR at_ r)) := by
                        rw [if_neg hra]
                        unfold toP fst1 seen1
                        rw [if_pos (show ch (nb l) (idxR at_ r) < 256 by omega)]
                        omega
                      have hne : ¬ g = sb ∧ ¬ sb = g := hro.apart hS 0 1 rfl rfl (by omega)
                      have hne2 : ¬ g = fb ∧ ¬ fb = g := hro.apart hS 0 2 rfl rfl (by omega)
                      have hne3 : ¬ sb = fb := hS.ne 1 2 rfl rfl (by omega) (List.mem_singleton.2 rfl) (List.mem_singleton.2 rfl)
                      obtain ⟨c2, hr2, hS2⟩ := hro.store hS 0 rfl rfl r (.int .i64 (fst1 (nb l) 256 (ch (nb l) (idxR at_ r)) + seen1 (nb l) (idxR at_ r) (ch (nb l) (idxR at_ r))))
                      have hld2 := hS2.cell 1 rfl (List.mem_singleton.2 rfl) (ch (nb l) (idxR at_ r))
                      rw [arrN_get _ _ _ (by omega)] at hld2
                      have HF : Hid (∃ c', RowC 3 1 (.slice (some ⟨g, 0, none⟩) (l.length + 1) (l.length + 1)) (l.length + 1) (iv (mkI (fun q => if q < r + 1 then (if q = at_ then 0 else (toP (nb l) at_ q : Int)) else 0) (l.length + 1))) c' ∧ St w.heap.size w ((wr.setCell ⟨g, r, none⟩ (.int .i64 (fst1 (nb l) 256 (ch (nb l) (idxR at_ r)) + seen1 (nb l) (idxR at_ r) (ch (nb l) (idxR at_ r))))).setCell ⟨sb, ch (nb l) (idxR at_ r), none⟩ (.int .i64 (seen1 (nb l) (idxR at_ r) (ch (nb l) (idxR at_ r)) + 1))) [c', [(sb, .cells (arrN 256 (seen1 (nb l) (idxR at_ (r + 1)))) 34 (0, 0))], [(fb, .cells (arrN 256 (fst1 (nb l) 256)) 34 (0, 0))]]) := Lib.hid (by
                        rw [iv_set, NEW _ htp] at hr2
                        refine ⟨c2, hr2, ?_⟩
                        have h3 := hS2.store 1 rfl (ch (nb l) (idxR at_ r)) (.int .i64 (seen1 (nb l) (idxR at_ r) (ch (nb l) (idxR at_ r)) + 1))
                        rw [arrN_set, seen1_step (nb l) _ (by rw [HSL.out]; exact hkl), ← idxR_succ at_ r hra] at h3
                        exact h3)
                      obtain ⟨ad, rfl, hc⟩ := HAT.out wr hS.below (idxR at_ r) hkl
                      have hid : (at_ < r ∧ idxR at_ r = r - 1) ∨ (¬ at_ < r ∧ idxR at_ r = r) := by unfold idxR; split <;> omega
                      have hki : ((ch (nb l) (idxR at_ r) : Nat) : Int) < 256 := by omega
                      clear NEW HQ hro hS hS2 hr2 hra htp
                      generalize seen1 (nb l) (idxR at_ r) (ch (nb l) (idxR at_ r)) = z at *
                      generalize fst1 (nb l) 256 (ch (nb l) (idxR at_ r)) = y at *
                      rcases hid with ⟨q1, q3⟩ | ⟨q1, q3⟩
                      · rw [q3] at hc hld hld2 hlf hfa hki hx HF
                        have hkl2 : (r : Int) - 1 < (l.length : Int) := by omega
                        clear q3 hkl
                        go_wp2_with (first | ((with_reducible refine wpStill_plain ?_ ?_ (fun _ _ => ?_)); rfl; rfl) | (with_reducible refine wpStill_nil ?_) | ((with_reducible refine wp_draw_tail (id := 27) 10 mixed ?_ (fun _ hK => ?_)); kernel_rfl; simp only [List.take_succ_cons, List.take_zero, List.drop_succ_cons, List.drop_zero] at hK ⊢))
                        go_roundg m
                        case measure => omega
                        case rel =>
                          obtain ⟨c', hx⟩ := HF.out
                          exact ⟨r + 1, by omega, by go_num, c', Lib.hid ⟨hx.1, hx.2.drew⟩⟩
                      · rw [q3] at hc hld hld2 hlf hfa hki hx HF
                        have hkl2 : (r : Int) < (l.length : Int) := by omega
                        clear q3 hkl
                        go_wp2_with (first | ((with_reducible refine wpStill_plain ?_ ?_ (fun _ _ => ?_)); rfl; rfl) | (with_reducible refine wpStill_nil ?_) | ((with_reducible refine wp_draw_tail (id := 27) 10 mixed ?_ (fun _ hK => ?_)); kernel_rfl; simp only [List.take_succ_cons, List.take_zero, List.drop_succ_cons, List.drop_zero] at hK ⊢))
                        go_roundg m
                        case measure => omega
                        case rel =>
                          obtain ⟨c', hx⟩ := HF.out
                          exact ⟨r + 1, by omega, by go_num, c', Lib.hid ⟨hx.1, hx.2.drew⟩⟩
                  | zero =>
                    have hrl : r = l.length + 1 := by omega
                    have hz : ¬ (r : Int) ≤ (l.length : Int) := by omega
                    rw [hrl, mkI_congr _ (fun q => if q = at_ then 0 else (toP (nb l) at_ q : Int)) _ (fun q hq => if_pos hq)] at hro
                    have hS5 := hS.pick [0] (by decide) [cn] rfl
                    have HN := Lib.hid hro
                    clear hro hS HQ hr0 hrl
                    go_wp2_with (at_make; (refine wpList_mk (n := l.length) 22 j0 (.int .u8 0) _ _ rfl rfl _ _ _ _ rfl rfl Try.underlying22 j0a j0b j0c j0d rfl ?_ ?_ ?_ ?_ hS5 ?_); omega; omega; omega; (unfold maxLen; omega); intro g2 cl2 w2 hr2 hS6)
                    have HQ : Hid (RowC 5 1 (.slice (some ⟨g2, 0, none⟩) l.length l.length) l.length (bv (mkU (fun i => if l.length ≤ i then invU l at_ i else 0) l.length)) cl2 ∧ St w.heap.size w w2 [cl2, cn] ∧ ∀ j, j < l.length - l.length → rowP (nb l) at_ j ≠ at_) := Lib.hid ⟨by
                      rw [mkU_congr _ (fun _ => 0) _ (fun j h => if_neg (by omega)), mkU_const]
                      simpa [bv] using hr2, hS6, fun j h => by omega⟩
                    clear hr2 hS6 hS5
                    go_wp2_with fail
                    go_loopg [17, 18] l.length (fun m s17 s18 wr => m ≤ l.length ∧ s18 = .int .i64 ((m : Int) - 1) ∧ ∃ row : Nat, Hid (row = rowP (nb l) at_ (l.length - m)) ∧ s17 = .int .i64 (row : Int) ∧ ∃ c, Hid (RowC 5 1 (.slice (some ⟨g2, 0, none⟩) l.length l.length) l.length (bv (mkU (fun i => if m ≤ i then invU l at_ i else 0) l.length)) c ∧ St w.heap.size w wr [c, cn] ∧ ∀ j, j < l.length - m → rowP (nb l) at_ j ≠ at_))
                    case atStart => exact ⟨Nat.le_refl _, rfl, 0, Lib.hid (by rw [Nat.sub_self]; rfl), rfl, cl2, HQ⟩
                    case round =>
                      clear HQ
                      obtain ⟨hm, rfl, row, HR, rfl, c, HQ⟩ := hrel
                      have hS := HQ.out.2.1
                      cases gk with
                      | zero =>
                        have hz : ¬ (0 : Int) ≤ ((0 : Nat) : Int) - 1 := by omega
                        have hrow := HR.out
                        rw [Nat.sub_zero] at hrow
                        have hro := HQ.out.1
                        rw [mkU_congr _ (invU l at_) _ (fun i _ => if_pos (Nat.zero_le _))] at hro
                        have hnear := HQ.out.2.2
                        rw [Nat.sub_zero] at hnear
                        have HO := Lib.hid (And.intro hrow hnear)
                        have HRO : Hid (RowC 5 1 (.slice (some ⟨g2, 0, none⟩) (mkU (invU l at_) l.length).length l.length) (mkU (invU l at_) l.length).length (bv (mkU (invU l at_) l.length)) c) := Lib.hid (by rw [mkU_length]; exact hro)
                        have HX : Hid (nb (mkU (invU l at_) l.length) = invP (nb l) at_ ∧ (mkU (invU l at_) l.length).length = l.length) := Lib.hid ⟨nb_invU l at_, mkU_length _ _⟩
                        have HE : Hid ((.slice (some ⟨g2, 0, none⟩) l.length l.length : Value) = .slice (some ⟨g2, 0, none⟩) (mkU (invU l at_) l.length).length l.length) := Lib.hid (by rw [mkU_length])
                        rw [HE.out]
                        clear hro HQ hrow hnear
                        generalize mkU (invU l at_) l.length = x at *
                        have HSX := Lib.hid hS
                        clear hS
                        go_wp2_with fail
                        refine (refforward_any x _ wr (by have := HX.out.2; omega) (HRO.out.rd HSX.out 0 rfl)).mono ?_
                        rintro e w3 ⟨T, v3, c3, M, hsa, rfl, hr3, hM, hS7⟩
                        obtain ⟨ao3, cap3, rfl⟩ := hr3.shape
                        have hS8 := HSX.out.join hS7
                        have hc1 := conv_str (hr3.rd hS8 0 rfl)
                        have hc2 := conv_str (HB.out.st hS8)
                        have hsa1 := hsa.one
                        have hg := FwdOut.good hsa hM
                        have HF : Hid (goodI (nb l) (at_ : Int) ↔ (M = l ∧ atF x.length T = at_)) := Lib.hid (by
                          constructor
                          · rintro ⟨_, h2⟩
                            rw [Int.toNat_natCast] at h2
                            rw [HX.out.1] at hsa1 hM
                            have h3 := h2.fwd (A := x.length :: T) (by
                              have e : (invP (nb l) at_).length = x.length := by rw [invP_length, HSL.out, HX.out.2]
                              rw [e] at hsa1
                              exact hsa1)
                            exact ⟨nb_inj (hM.trans h3.1), h3.2⟩
                          · rintro ⟨h1, h2⟩
                            have h3 := hg.1
                            rw [h1, h2] at h3
                            exact h3)
                        have HFIN := Lib.hid (And.intro HRO.out hS8)
                        clear hr3 hS7 hsa hsa1 hM hg hS8
                        by_cases hgood : goodI (nb l) (at_ : Int)
                        · obtain ⟨rfl, h2⟩ := HF.out.1 hgood
                          have q1 : ((atF x.length T : Int) == (at_ : Int)) = true := by rw [h2]; simp
                          have HG := Lib.hid hgood
                          clear hgood h2
                          generalize atF x.length T = A at *
                          go_wp2_with fail
                          go_ret2
                          exact .inl ⟨HG.out, _, c, x, by simp, HFIN.out.1, HX.out.1, HFIN.out.2.pick [1] (by decide) [c] rfl⟩
                        · have HG := Lib.hid hgood
                          cases hq : (M == l) with
                          | false =>
                            clear hgood
                            generalize atF x.length T = A at *
                            go_wp2_with fail
                            go_ret2
                            exact .inr ⟨HG.out, .slice (some ⟨g2, 0, none⟩) x.length l.length, by simp, HFIN.out.2.pick [] (by simp) [] rfl⟩
                          | true =>
                            have q1 : ((atF x.length T : Int) == (at_ : Int)) = false := by
                              rw [beq_eq_false_iff_ne]
                              intro e
                              exact hgood (HF.out.2 ⟨by simpa using hq, by omega⟩)
                            clear hgood
                            generalize atF x.length T = A at *
                            go_wp2_with fail
                            go_ret2
                            exact .inr ⟨HG.out, .slice (some ⟨g2, 0, none⟩) x.length l.length, by simp, HFIN.out.2.pick [] (by simp) [] rfl⟩
                      | succ m =>
                        have e1 : ((m + 1 : Nat) : Int) - 1 = (m : Int) := by omega
                        rw [e1]
                        clear e1
                        have hml : m < l.length := by omega
                        have hm0 : (0 : Int) ≤ (m : Int) := by omega
                        have hmi : (m : Int) < (l.length : Int) := by omega
                        have hrow := HR.out
                        have hrle : row ≤ l.length := by
                          rw [hrow, ← HSL.out]
                          refine row_le (by rw [HSL.out]; exact hal) _ (fun i hi => HQ.out.2.2 i ?_)
                          rw [HSL.out] at hi
                          omega
                        by_cases hra : row = at_
                        · have hbad : ¬ goodI (nb l) (at_ : Int) := by
                            rintro ⟨_, _, h3, _⟩
                            rw [Int.toNat_natCast, HSL.out] at h3
                            exact h3 (l.length - (m + 1)) (by omega) (by rw [← hrow]; exact hra)
                          have HG := Lib.hid hbad
                          have q1 : ((row : Int) == (at_ : Int)) = true := by rw [hra]; simp
                          clear hbad hra hrow
                          go_wp2_with fail
                          go_ret2
                          exact .inr ⟨HG.out, _, rfl, hS.pick [] (by simp) [] rfl⟩
                        · have q1 : ((row : Int) == (at_ : Int)) = false := by simp; omega
                          have hkl : idxR at_ row < l.length := by
                            have := idxR_lt (l := nb l) (at_ := at_) (r := row) (by rw [HSL.out]; exact hrle) (by rw [HSL.out]; exact hal) hra
                            rwa [HSL.out] at this
                          have hro := HQ.out.1
                          have hfr := hro.freeAt hS 0 rfl m
                          have hlr := hro.cellAt hS 0 rfl (bv_get _ m _ (mkU_get _ _ m hml))
                          rw [if_neg (by omega)] at hlr
                          obtain ⟨ad, rfl, hc⟩ := (HB.out.keep hS.below).at (bv_get l (idxR at_ row) _ (List.getElem?_eq_getElem hkl))
                          have hx : l[idxR at_ row]'hkl = invU l at_ m := by
                            unfold invU
                            rw [show l.length - 1 - m = l.length - (m + 1) from by omega, ← hrow, List.getD_eq_getElem?_getD, List.getElem?_eq_getElem hkl]
                            rfl
                          rw [hx] at hc
                          obtain ⟨c', h1, h2⟩ := hro.store hS 0 rfl rfl m (.int .u8 ((invU l at_ m).toNat : Int))
                          have hnx := HN.out.cellAt h2 1 rfl (iv_get _ row _ (mkI_get _ _ row (by omega)))
                          rw [if_neg hra] at hnx
                          have htl : toP (nb l) at_ row ≤ l.length := by rw [← HSL.out]; exact toP_le (by rw [HSL.out]; exact hal) (by rw [HSL.out]; exact hrle) hra
                          have HF : Hid (toP (nb l) at_ row = rowP (nb l) at_ (l.length - m) ∧ ∃ c', RowC 5 1 (.slice (some ⟨g2, 0, none⟩) l.length l.length) l.length (bv (mkU (fun i => if m ≤ i then invU l at_ i else 0) l.length)) c' ∧ St w.heap.size w (wr.setCell ⟨g2, m, none⟩ (.int .u8 ((invU l at_ m).toNat : Int))) [c', cn] ∧ ∀ j, j < l.length - m → rowP (nb l) at_ j ≠ at_) := Lib.hid (by
                            refine ⟨by rw [show l.length - m = (l.length - (m + 1)) + 1 from by omega, rowP, ← hrow], c', ?_, h2, fun j hj => ?_⟩
                            · rw [← bv_set, mkU_set] at h1
                              rw [mkU_congr _ _ _ (fun i hi => ?_)]
                              · exact h1
                              · by_cases e : i = m
                                · subst e; rw [if_pos rfl, if_pos (Nat.le_refl _)]
                                · rw [if_neg e]
                                  by_cases h3 : m + 1 ≤ i
                                  · rw [if_pos h3, if_pos (show m ≤ i by omega)]
                                  · rw [if_neg h3, if_neg (show ¬ m ≤ i by omega)]
                            · by_cases e : j = l.length - (m + 1)
                              · rw [e, ← hrow]; exact hra
                              · exact HQ.out.2.2 j (by omega))
                          have hid : (at_ < row ∧ idxR at_ row = row - 1) ∨ (¬ at_ < row ∧ idxR at_ row = row) := by unfold idxR; split <;> omega
                          have hri : (row : Int) < (l.length : Int) + 1 := by omega
                          clear h1 h2 hro hS HQ hrow hra hx HR
                          generalize toP (nb l) at_ row = tp at *
                          generalize invU l at_ m = ux at *
                          rcases hid with ⟨q2, q3⟩ | ⟨q2, q3⟩
                          · rw [q3] at hc
                            have hkl2 : (row : Int) - 1 < (l.length : Int) := by omega
                            clear q3 hkl
                            go_wp2_with fail
                            go_roundg m
                            case measure => omega
                            case rel =>
                              obtain ⟨ht, c'', hx⟩ := HF.out
                              exact ⟨by omega, by go_num, tp, Lib.hid ht, rfl, c'', Lib.hid hx⟩
                          · rw [q3] at hc
                            have hkl2 : (row : Int) < (l.length : Int) := by omega
                            clear q3 hkl
                            go_wp2_with fail
                            go_roundg m
                            case measure => omega
                            case rel =>
                              obtain ⟨ht, c'', hx⟩ := HF.out
                              exact ⟨by omega, by go_num, tp, Lib.hid ht, rfl, c'', Lib.hid hx⟩
end Go.Proofs.Ytdgpbgdpdmikaab
