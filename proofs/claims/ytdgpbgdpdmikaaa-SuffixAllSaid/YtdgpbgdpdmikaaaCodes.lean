/-
  Contracts of the package codes: counts, firsts.
-/
import Derived.Test.YtdgpbgdpdmikaaaZeros
import Derived.Test.YtdgpbgdpdmikaaaPureCodes
import Derived.Test.YtdgpbgdpdmikaaaArr
set_option linter.unusedVariables false
set_option linter.unusedSimpArgs false
namespace Go.Proofs.Ytdgpbgdpdmikaaa
open Go.RowKit
set_option maxRecDepth 100000
/-- An array of sixteen numbers. -/
def arrI (f : Nat → Int) : Array Value := ((List.range 16).map fun k => Value.int .i64 (f k)).toArray
theorem arrI_size (f : Nat → Int) : (arrI f).size = 16 := by simp [arrI]
theorem arrI_get (f : Nat → Int) (k : Nat) (h : k < 16) : (arrI f)[k]? = some (.int .i64 (f k)) := by simp [arrI, h]
theorem arrI_set (f : Nat → Int) (k : Nat) (v : Int) : (arrI f).setIfInBounds k (.int .i64 v) = arrI (fun j => if j = k then v else f j) := by
  apply Array.ext_getElem?
  intro j
  rw [Array.getElem?_setIfInBounds]
  by_cases h : k = j
  · subst h
    by_cases hk : k < 16
    · rw [if_pos rfl, if_pos (by rw [arrI_size]; exact hk), arrI_get _ _ hk]; simp
    · rw [if_pos rfl, if_neg (by rw [arrI_size]; exact hk)]
      simp [arrI, hk]
  · rw [if_neg h]
    by_cases hj : j < 16
    · rw [arrI_get _ _ hj, arrI_get _ _ hj, if_neg (fun e => h e.symm)]
    · simp [arrI, hj]
theorem arrI_congr {f g : Nat → Int} (h : ∀ k, k < 16 → f k = g k) : arrI f = arrI g := by
  apply Array.ext_getElem?
  intro j
  by_cases hj : j < 16
  · rw [arrI_get _ _ hj, arrI_get _ _ hj, h j hj]
  · simp [arrI, hj]
theorem arrI_all (f : Nat → Int) : (arrI f).all (·.oneCell') = true := by
  simp [arrI, Value.oneCell']
theorem h16 (f : Nat → Int) : (Try.prog.info? 70).map (·.size) = some (arrI f).size := by
  rw [arrI_size]
  kernel_rfl
theorem room_step (r p : Nat) (h : r ≤ 16384000000) (hp : p ≤ 2 ^ 14) : Value.int .i64 (wrap64 (32768 - (r : Int) - wrap64 (p : Int))) = .int .i64 (32768 - ((r + p : Nat) : Int)) := by
  rw [IntWalk.wrap64_in (p : Int) (by omega), IntWalk.wrap64_in _ (by omega)]
  congr 1
  omega
set_option maxHeartbeats 2000000 in
theorem counts_any (v : Value) (l : List Int) (w : World) (h : Rd w 1 v l.length (iv l)) (hn : l.length ≤ 1000000) :
    Calls Try.prog 39 #[v] w fun e w' => ∃ f, e = .returned (.tuple #[.agg (arrI f), .bool (okLens l)]) ∧ (okLens l = true → arrI f = arrI fun k => (cntP l k : Int)) ∧ St w.heap.size w w' [] := by
  obtain ⟨ao, cap, rfl⟩ := h.shape
  have hnl : (l.length : Int) ≤ 1000000 := by omega
  have hz : (#[.int .i64 0, .int .i64 0, .int .i64 0, .int .i64 0, .int .i64 0, .int .i64 0, .int .i64 0, .int .i64 0, .int .i64 0, .int .i64 0, .int .i64 0, .int .i64 0, .int .i64 0, .int .i64 0, .int .i64 0, .int .i64 0] : Array Value) = arrI (fun _ => 0) := rfl
  have hS := ((St.init w).alloc (.cells (arrI fun _ => 0) 70)).alloc (.cells (arrI fun _ => 0) 70)
  go_enter Try.func39, Try.ntmps39
  go_wp2_with fail
  clear hz
  go_loopg [5, 10] l.length (fun m s5 s10 wr => ∃ i : Nat, i + m = l.length ∧ s10 = .int .i64 (i : Int) ∧ s5 = .int .i64 (32768 - (kraftP (l.take i) : Int)) ∧ Hid ((l.take i).all (fun k => decide (0 ≤ k ∧ k ≤ 15)) = true) ∧ St w.heap.size w wr [[(w.heap.size + 1, .cells (arrI fun k => ((l.take i).count (k : Int) : Int)) 70 (0, 0))], [(w.heap.size, .cells (arrI fun _ => 0) 70 (0, 0))]])
  case atStart => exact ⟨0, by omega, rfl, rfl, Lib.hid rfl, by simpa using hS⟩
  case round =>
    clear hS
    obtain ⟨i, hi, rfl, rfl, HV, hS⟩ := hrel
    cases gk with
    | zero =>
      obtain rfl : i = l.length := by omega
      clear hi
      have hkl := kraftP_le l
      rw [List.take_length] at *
      have hfr := hS.free 0 rfl (List.mem_singleton.2 rfl) 0
      have hld := hS.cell 0 rfl (List.mem_singleton.2 rfl) 0
      rw [arrI_get _ _ (by omega)] at hld
      have hst := hS.store 0 rfl 0 (.int .i64 0)
      rw [arrI_set] at hst
      have hcnt : arrI (fun j => if j = 0 then 0 else (l.count (j : Int) : Int)) = arrI (fun j => (cntP l j : Int)) := by
        refine arrI_congr fun j hj => ?_
        unfold cntP
        split <;> rfl
      rw [hcnt] at hst
      clear hcnt
      have hok : okLens l = (decide ((0 : Int) ≤ 32768 - (kraftP l : Int)) && decide ((l.length : Int) ≤ 300)) := by
        have e1 : decide ((0 : Int) ≤ 32768 - (kraftP l : Int)) = decide (kraftP l ≤ 32768) := by rw [decide_eq_decide]; omega
        have e2 : decide ((l.length : Int) ≤ 300) = decide (l.length ≤ 300) := by rw [decide_eq_decide]; omega
        unfold okLens
        rw [HV.out, Bool.and_true, e1, e2, Bool.and_comm]
      have HB := Lib.hid hok
      clear hok
      replace hst : St w.heap.size w (wr.setCell ⟨w.heap.size + 1, 0, none⟩ (.int .i64 0)) [[(w.heap.size + 1, .cells (arrI fun j => (cntP l j : Int)) 70 (0, 0))], [(w.heap.size, .cells (arrI fun _ => 0) 70 (0, 0))]] := hst
      have hroom : (32768 - (kraftP l : Int)) ≤ 32768 := by omega
      by_cases q1 : (0 : Int) ≤ 32768 - (kraftP l : Int)
      · go_wp2_with (first | (refine wpList_loadRow 0 70 _ rfl rfl rfl Try.underlying70 rfl (h16 _) hst rfl ?_) | (refine wpList_storeRow 1 70 _ _ rfl rfl rfl rfl (h16 _) (by rw [arrI_size, arrI_size]) (arrI_all _) hst rfl ?_; intro w2 hS2))
        ((try simp only [Exit.inBlock, Exit.then]); refine bodyPost_ret (results_cell_two rfl _ _ _ _ _ 1 rfl hS2 rfl Try.underlying70 rfl (h16 _)) rfl ?_)
        rw [HB.out]
        exact ⟨fun j => (cntP l j : Int), by simp [q1]; omega, fun _ => rfl, hS2.pick [] (by simp) [] rfl⟩
      · go_wp2_with (first | (refine wpList_loadRow 0 70 _ rfl rfl rfl Try.underlying70 rfl (h16 _) hst rfl ?_) | (refine wpList_storeRow 1 70 _ _ rfl rfl rfl rfl (h16 _) (by rw [arrI_size, arrI_size]) (arrI_all _) hst rfl ?_; intro w2 hS2))
        ((try simp only [Exit.inBlock, Exit.then]); refine bodyPost_ret (results_cell_two rfl _ _ _ _ _ 1 rfl hS2 rfl Try.underlying70 rfl (h16 _)) rfl ?_)
        rw [HB.out]
        exact ⟨fun j => (cntP l j : Int), by simp [q1]; omega, fun _ => rfl, hS2.pick [] (by simp) [] rfl⟩
    | succ m =>
      have hlt : i < l.length := by omega
      obtain ⟨k, hk⟩ : ∃ k, l[i]? = some k := ⟨_, List.getElem?_eq_getElem hlt⟩
      obtain ⟨ad, rfl, hcell⟩ := (h.keep hS.below).at (iv_get l i k hk)
      have hkr := kraftP_take_succ l i k hk
      have hkl := kraftP_le (l.take i)
      have hcl : ∀ j : Int, (l.take i).count j ≤ 1000000 := fun j => Nat.le_trans List.count_le_length (by rw [List.length_take]; omega)
      have htk : l.take (i + 1) = l.take i ++ [k] := by rw [List.take_add_one, hk]; rfl
      have HT := Lib.hid htk
      have hmem : k ∈ l := List.mem_of_getElem? hk
      have hll : (l.take i).length ≤ 1000000 := by rw [List.length_take]; omega
      clear htk hk
      by_cases q1 : k < 0
      · have hbad : okLens l = false := by
          simp only [okLens, Bool.and_eq_false_iff]
          right
          rw [List.all_eq_false]
          exact ⟨k, hmem, by simp; omega⟩
        have HB := Lib.hid hbad
        clear hbad hkr hkl hcl HT hll
        go_wp2_with (first | (refine wpList_loadRow 0 70 _ rfl rfl rfl Try.underlying70 rfl (h16 _) hS rfl ?_) | (refine wpList_storeRow 1 70 _ _ rfl rfl rfl rfl (h16 _) (by rw [arrI_size, arrI_size]) (arrI_all _) hS rfl ?_; intro w2 hS2))
        ((try simp only [Exit.inBlock, Exit.then]); refine bodyPost_ret (results_cell_two rfl _ _ _ _ _ 1 rfl hS2 rfl Try.underlying70 rfl (h16 _)) rfl ?_)
        rw [HB.out]
        exact ⟨_, rfl, fun e => (by cases e), hS2.pick [] (by simp) [] rfl⟩
      by_cases q2 : 15 < k
      · have hbad : okLens l = false := by
          simp only [okLens, Bool.and_eq_false_iff]
          right
          rw [List.all_eq_false]
          exact ⟨k, hmem, by simp; omega⟩
        have HB := Lib.hid hbad
        clear hbad hkr hkl hcl HT hll
        go_wp2_with (first | (refine wpList_loadRow 0 70 _ rfl rfl rfl Try.underlying70 rfl (h16 _) hS rfl ?_) | (refine wpList_storeRow 1 70 _ _ rfl rfl rfl rfl (h16 _) (by rw [arrI_size, arrI_size]) (arrI_all _) hS rfl ?_; intro w2 hS2))
        ((try simp only [Exit.inBlock, Exit.then]); refine bodyPost_ret (results_cell_two rfl _ _ _ _ _ 1 rfl hS2 rfl Try.underlying70 rfl (h16 _)) rfl ?_)
        rw [HB.out]
        exact ⟨_, rfl, fun e => (by cases e), hS2.pick [] (by simp) [] rfl⟩
      obtain ⟨K, rfl⟩ := Int.eq_ofNat_of_zero_le (show 0 ≤ k by omega)
      have hK : K < 16 := by omega
      have hcK := hcl (K : Int)
      have hld := hS.cell 0 rfl (List.mem_singleton.2 rfl) K
      rw [arrI_get _ _ hK] at hld
      have hfr := hS.free 0 rfl (List.mem_singleton.2 rfl) K
      have hst := hS.store 0 rfl K (.int .i64 (((l.take i).count (K : Int) : Int) + 1))
      rw [arrI_set] at hst
      have hcnt : arrI (fun j => if j = K then (((l.take i).count (K : Int) : Int) + 1) else ((l.take i).count (j : Int) : Int)) = arrI (fun j => ((l.take (i + 1)).count (j : Int) : Int)) := by
        refine arrI_congr fun j hj => ?_
        rw [HT.out, List.count_append]
        by_cases hjk : j = K
        · subst hjk; simp
        · have : ((K : Int) == (j : Int)) = false := by simp; omega
          rw [if_neg hjk]
          simp [List.count_cons, this]
      rw [hcnt] at hst
      have hcK' : ((l.take i).count (K : Int) : Int) ≤ 1000000 := by omega
      have HV2 : Hid ((l.take (i + 1)).all (fun k => decide (0 ≤ k ∧ k ≤ 15)) = true) := Lib.hid (by
        rw [HT.out, List.all_append, HV.out]
        simp
        omega)
      clear hcnt hcK hcl
      generalize (l.take i).count (K : Int) = c at *
      have hc0 : (0 : Int) ≤ c := by omega
      have HH := Lib.hid hst
      clear hst
      have hkr16 : kraftP (l.take i) ≤ 16384000000 := by omega
      have HKR := Lib.hid hkr
      clear hkr hkl
      by_cases q3 : K = 0
      · subst q3
        go_wp2_with fail
        go_roundg m
        case measure => omega
        case rel => exact ⟨i + 1, by omega, by go_num, by rw [HKR.out]; simp, HV2, HH.out⟩
      · have q4 : (0 : Int) < (K : Int) := by omega
        have hp : 2 ^ (15 - K) ≤ 2 ^ 14 := Nat.pow_le_pow_right (by omega) (by omega)
        have HP := Lib.hid hp
        clear hp
        go_wp2_with fail
        go_roundg m
        case measure => omega
        case rel =>
          refine ⟨i + 1, by omega, by go_num, ?_, HV2, HH.out⟩
          have e1 : ((2 : Int) ^ (15 - K)) = ((2 ^ (15 - K) : Nat) : Int) := by simp
          have e2 := HKR.out
          rw [if_pos (by omega), Int.toNat_natCast] at e2
          have e3 := HP.out
          rw [e1, e2]
          exact room_step _ _ hkr16 e3
end Go.Proofs.Ytdgpbgdpdmikaaa
