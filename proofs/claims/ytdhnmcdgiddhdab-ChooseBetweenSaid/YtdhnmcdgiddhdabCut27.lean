/-
  foliolaw27.cut, foliolaw27.floats.
-/
import Derived.Test.YtdhnmcdgiddhdabOpenUse
import Derived.Test.YtdhnmcdgiddhdabRefOrd
import Derived.Test.YtdhnmcdgiddhdabMakes
set_option linter.unusedVariables false
set_option linter.unusedSimpArgs false
namespace Go.Proofs.Ytdhnmcdgiddhdab
open Go.RowKit Go.ChangeShapes Go.WideShapes
set_option maxRecDepth 100000
theorem infoUC : (Try.prog.info? 51).map (fun i => (i.zero, i.size, i.bytes)) = some (some (.agg #[.int .i64 0, .int .i64 0, .int .i64 0, .float .f64 0]), 4, 32) := by kernel_rfl
theorem words_of (zs : List Int) (wf : ∀ z ∈ zs, (Lit.int .u64 z).wf = true) : ∃ xs : List Nat, zs = xs.map (fun x : Nat => (x : Int)) ∧ ∀ x ∈ xs, x < 18446744073709551616 := by
  induction zs with
  | nil => exact ⟨[], rfl, by simp⟩
  | cons z zs ih =>
    obtain ⟨xs, h1, h2⟩ := ih fun y hy => wf y (by simp [hy])
    have hb := bounds_u64 (wf z (by simp))
    refine ⟨z.toNat :: xs, by rw [List.map_cons, ← h1]; congr 1; omega, fun x hx => ?_⟩
    rcases List.mem_cons.1 hx with rfl | hx
    · omega
    · exact h2 x hx
def FlOut (xs : List Nat) (w : World) (e : Ending) (w' : World) : Prop := ∃ v c, e = .returned v ∧ RowC 29 1 v xs.length (fv xs) c ∧ St w.heap.size w w' [c]
set_option maxHeartbeats 4000000 in
theorem floats27_any (v : Value) (xs : List Nat) (w : World) (h : Rd w 1 v xs.length (xs.map fun (x : Nat) => Value.int .u64 (x : Int))) :
    Calls Try.prog 19 #[v] w (FlOut (xs.take 40) w) := by
  obtain ⟨i0, i0a, i0b, i0c, i0d⟩ := info_parts infoF
  obtain ⟨ao, cap, rfl⟩ := h.shape
  have H0 := Lib.hid h
  have hsm := h.small
  have hS0 := (St.init w).one_nil
  clear h
  go_enter Try.func19, Try.ntmps19
  go_wp2_with fail
  go_loopg [3, 4] (min xs.length 40) (fun m s3 s4 wr => ∃ i : Nat, i + m = min xs.length 40 ∧ s4 = .int .i64 (i : Int) ∧ ∃ c, RowC 29 1 s3 i (fv (xs.take i)) c ∧ St w.heap.size w wr [c])
  case atStart => exact ⟨0, by omega, rfl, [], RowC.nil _ _, hS0⟩
  case round =>
    clear hS0
    obtain ⟨i, hi, rfl, c, hr, hS⟩ := hrel
    obtain ⟨ao3, cap3, rfl⟩ := hr.shape
    cases gk with
    | succ m =>
      have hlt : (i : Int) < (xs.length : Int) := by omega
      have hlt2 : (i : Int) < 40 := by omega
      obtain ⟨x, hx⟩ : ∃ x, xs[i]? = some x := ⟨_, List.getElem?_eq_getElem (by omega)⟩
      obtain ⟨ad, rfl, hcell⟩ := (H0.out.st hS).at (j := i) (u := .int .u64 (x : Int)) (by simp [hx])
      have HT : Hid (fv (xs.take i) ++ [.float .f64 x] = fv (xs.take (i + 1))) := Lib.hid (by rw [fvs_snoc, List.take_add_one, hx]; rfl)
      have hx64' : ((x : Int).toNat) = x := by simp
      clear hx
      go_wp2_with (at_builtin; (refine wpList_app1 0 31 i0 (.float .f64 0) _ _ _ rfl rfl rfl rfl Try.underlying31 i0a i0b i0c i0d rfl hS rfl hr rfl ?_ ?_ ?_); (unfold maxLen; omega); omega; intro v1 c1 w5 hr1 hS5)
      rw [HT.out] at hr1
      go_roundg m
      case measure => omega
      case rel => exact ⟨i + 1, by omega, by go_num, c1, hr1, hS5⟩
    | zero =>
      have HF : Hid (FlOut (xs.take 40) w (.returned (.slice ao3 i cap3)) wr) := Lib.hid (by
        refine ⟨_, c, rfl, ?_, hS⟩
        have e1 : (xs.take 40).length = i := by rw [List.length_take]; omega
        have e2 : xs.take 40 = xs.take i := by
          by_cases q : xs.length ≤ 40
          · rw [List.take_of_length_le (by omega), List.take_of_length_le (by omega)]
          · rw [show i = 40 from by omega]
        rw [e1, e2]
        exact hr)
      by_cases q : i < xs.length
      · have hq1 : (i : Int) < (xs.length : Int) := by omega
        have hq2 : ¬ (i : Int) < 40 := by omega
        clear hr hS
        go_wp2_with fail
        go_ret
        exact HF.out
      · have hq1 : ¬ (i : Int) < (xs.length : Int) := by omega
        clear hr hS
        go_wp2_with fail
        go_ret
        exact HF.out
def CutOut (us : List UseP) (w : World) (e : Ending) (w' : World) : Prop := ∃ va vb ca cb, e = .returned (.tuple #[va, vb]) ∧ RowC 51 4 va us.length (uv us) ca ∧ RowC 36 4 vb us.length (uv us) cb ∧ St w.heap.size w w' [ca, cb]
theorem useC_one (u : UseP) : ∀ z ∈ useC u, z.oneCell' = true := fun z hz => uv_one [u] z (by simpa [uv] using hz)
theorem uvL_use {w : World} {n cap : Nat} {ad : Addr} {us : List UseP} (h : Rd w 4 (.slice (some ad) n cap) n (uvL us)) {i : Nat} {u : UseP} (hu : us[i]? = some u) :
    w.cell? (ad.add (i * 4)) = some (.int .i64 u.num) ∧ w.cell? ⟨(ad.add (i * 4)).block, (ad.add (i * 4)).off + 1, none⟩ = some (.int .i64 u.dead) ∧ w.cell? ⟨(ad.add (i * 4)).block, (ad.add (i * 4)).off + 2, none⟩ = some (.int .i64 u.all) ∧ w.cell? ⟨(ad.add (i * 4)).block, (ad.add (i * 4)).off + 3, none⟩ = some (.int .u64 (u.age : Int)) := by
  have key : ∀ j x, j < 4 → (useL u)[j]? = some x → w.cell? (ad.add (i * 4 + j)) = some x := by
    intro j x hj hx
    obtain ⟨ad', e, hc⟩ := h.at (j := i * 4 + j) (u := x) (by rw [uvL_get us i j u hu hj]; exact hx)
    cases e
    exact hc
  have hadd : ∀ j, 0 < j → ad.add (i * 4 + j) = ⟨(ad.add (i * 4)).block, (ad.add (i * 4)).off + j, none⟩ := by
    intro j hj
    unfold Addr.add
    rw [if_neg (by omega)]
    by_cases hi : i * 4 = 0
    · rw [if_pos hi, hi, Nat.zero_add]
    · rw [if_neg hi]
      simp only [Addr.mk.injEq, and_true, true_and]
      omega
  refine ⟨key 0 _ (by omega) rfl, ?_, ?_, ?_⟩
  · rw [← hadd 1 (by omega)]; exact key 1 _ (by omega) rfl
  · rw [← hadd 2 (by omega)]; exact key 2 _ (by omega) rfl
  · rw [← hadd 3 (by omega)]; exact key 3 _ (by omega) rfl
set_option maxHeartbeats 8000000 in
theorem cut27_any (v : Value) (us : List UseP) (w : World) (h : Rd w 4 v us.length (uvL us)) :
    Calls Try.prog 9 #[v] w (CutOut (us.take 30) w) := by
  obtain ⟨i0, i0a, i0b, i0c, i0d⟩ := info_parts infoUC
  obtain ⟨j0, j0a, j0b, j0c, j0d⟩ := info_parts infoUR
  obtain ⟨ao, cap, rfl⟩ := h.shape
  have H0 := Lib.hid h
  have hsm := h.small
  have hS0 := (St.init w).one_nil.one_nil
  clear h
  go_enter Try.func9, Try.ntmps9
  go_wp2_with fail
  go_loopg [4, 5, 6] (min us.length 30) (fun m s4 s5 s6 wr => ∃ i : Nat, i + m = min us.length 30 ∧ s6 = .int .i64 (i : Int) ∧ ∃ ca cb, RowC 51 4 s4 i (uv (us.take i)) ca ∧ RowC 36 4 s5 i (uv (us.take i)) cb ∧ St w.heap.size w wr [ca, cb])
  case atStart => exact ⟨0, by omega, rfl, [], [], RowC.nil _ _, RowC.nil _ _, hS0⟩
  case round =>
    clear hS0
    obtain ⟨i, hi, rfl, ca, cb, ha, hb, hS⟩ := hrel
    obtain ⟨ao4, cap4, rfl⟩ := ha.shape
    obtain ⟨ao5, cap5, rfl⟩ := hb.shape
    cases gk with
    | succ m =>
      have hlt : (i : Int) < (us.length : Int) := by omega
      have hlt2 : (i : Int) < 30 := by omega
      obtain ⟨u, hu⟩ : ∃ u, us[i]? = some u := ⟨_, List.getElem?_eq_getElem (by omega)⟩
      obtain ⟨ad, rfl⟩ : ∃ ad, ao = some ad := by
        obtain ⟨ad, e, _⟩ := H0.out.at (j := i * 4 + 0) (by rw [uvL_get us i 0 u hu (by omega)]; rfl)
        exact ⟨ad, e⟩
      obtain ⟨k0, k1, k2, k3⟩ := uvL_use (H0.out.st hS) hu
      have HT : Hid (uv (us.take i) ++ useC u = uv (us.take (i + 1))) := Lib.hid (by rw [List.take_add_one, hu, uv_append]; simp [uv])
      have HU := Lib.hid hu
      have hx64' : ((u.age : Int).toNat) = u.age := by simp
      clear hu
      go_wp2_with fail
      have HCELL := Lib.hid (fun w' (hw' : Below w.heap.size w w') => uvL_use (H0.out.keep hw') HU.out)
      refine wp_region_held_drew (S := fun w' => Below w.heap.size w w') mixed hS.below.drew (fun hSS => ?_)
      refine take_d (i := 0) 24 (.slice ao4 i cap4) rfl rfl (by kernel_rfl) (by kernel_rfl) (by kernel_rfl) (fun _ _ _ h => h) (Or.inl ⟨by rfl, ?_⟩) hSS ?_
      (focus (intro w' hw'; have hb1 := HCELL.out w' hw'; obtain ⟨hb1, hb2, hb3, hb4⟩ := hb1; first | (go_simp; done) | (go_simp; simp [hj0, hj1, hj2, hj3, htn, htn1, hwr1, hwr2]; done)))
      simp only [Act.put, List.setIfInBounds_toArray, List.set_cons_zero, List.set_cons_succ]
      refine take_d (i := 1) 25 (.slice (some ad) us.length cap) rfl rfl (by kernel_rfl) (by kernel_rfl) (by kernel_rfl) (fun _ _ _ h => h) (Or.inl ⟨by rfl, ?_⟩) hSS ?_
      (focus (intro w' hw'; have hb1 := HCELL.out w' hw'; obtain ⟨hb1, hb2, hb3, hb4⟩ := hb1; first | (go_simp; done) | (go_simp; simp [hj0, hj1, hj2, hj3, htn, htn1, hwr1, hwr2]; done)))
      simp only [Act.put, List.setIfInBounds_toArray, List.set_cons_zero, List.set_cons_succ]
      refine take_d (i := 2) 26 (.int .i64 (i : Int)) rfl rfl (by kernel_rfl) (by kernel_rfl) (by kernel_rfl) (fun _ _ _ h => h) (Or.inl ⟨by rfl, ?_⟩) hSS ?_
      (focus (intro w' hw'; have hb1 := HCELL.out w' hw'; obtain ⟨hb1, hb2, hb3, hb4⟩ := hb1; first | (go_simp; done) | (go_simp; simp [hj0, hj1, hj2, hj3, htn, htn1, hwr1, hwr2]; done)))
      simp only [Act.put, List.setIfInBounds_toArray, List.set_cons_zero, List.set_cons_succ]
      refine take_d (i := 3) 27 (.pointer (some (ad.add (i * 4)))) rfl rfl (by kernel_rfl) (by kernel_rfl) (by kernel_rfl) (fun _ _ _ h => h) (Or.inl ⟨by rfl, ?_⟩) hSS ?_
      (focus (intro w' hw'; have hb1 := HCELL.out w' hw'; obtain ⟨hb1, hb2, hb3, hb4⟩ := hb1; first | (go_simp; done) | (go_simp; simp [hj0, hj1, hj2, hj3, htn, htn1, hwr1, hwr2]; done)))
      simp only [Act.put, List.setIfInBounds_toArray, List.set_cons_zero, List.set_cons_succ]
      refine take_d (i := 4) 28 (.pointer (some (ad.add (i * 4)))) rfl rfl (by kernel_rfl) (by kernel_rfl) (by kernel_rfl) (fun _ _ _ h => h) (Or.inl ⟨by rfl, ?_⟩) hSS ?_
      (focus (intro w' hw'; have hb1 := HCELL.out w' hw'; obtain ⟨hb1, hb2, hb3, hb4⟩ := hb1; first | (go_simp; done) | (go_simp; simp [hj0, hj1, hj2, hj3, htn, htn1, hwr1, hwr2]; done)))
      simp only [Act.put, List.setIfInBounds_toArray, List.set_cons_zero, List.set_cons_succ]
      refine take_d (i := 5) 29 (.int .i64 u.num) rfl rfl (by kernel_rfl) (by kernel_rfl) (by kernel_rfl) (fun _ _ _ h => h) (Or.inl ⟨by rfl, ?_⟩) hSS ?_
      (focus (intro w' hw'; have hb1 := HCELL.out w' hw'; obtain ⟨hb1, hb2, hb3, hb4⟩ := hb1; first | (go_simp; done) | (go_simp; simp [hj0, hj1, hj2, hj3, htn, htn1, hwr1, hwr2]; done)))
      simp only [Act.put, List.setIfInBounds_toArray, List.set_cons_zero, List.set_cons_succ]
      refine take_d (i := 6) 30 (.slice (some ad) us.length cap) rfl rfl (by kernel_rfl) (by kernel_rfl) (by kernel_rfl) (fun _ _ _ h => h) (Or.inl ⟨by rfl, ?_⟩) hSS ?_
      (focus (intro w' hw'; have hb1 := HCELL.out w' hw'; obtain ⟨hb1, hb2, hb3, hb4⟩ := hb1; first | (go_simp; done) | (go_simp; simp [hj0, hj1, hj2, hj3, htn, htn1, hwr1, hwr2]; done)))
      simp only [Act.put, List.setIfInBounds_toArray, List.set_cons_zero, List.set_cons_succ]
      refine take_d (i := 7) 31 (.int .i64 (i : Int)) rfl rfl (by kernel_rfl) (by kernel_rfl) (by kernel_rfl) (fun _ _ _ h => h) (Or.inl ⟨by rfl, ?_⟩) hSS ?_
      (focus (intro w' hw'; have hb1 := HCELL.out w' hw'; obtain ⟨hb1, hb2, hb3, hb4⟩ := hb1; first | (go_simp; done) | (go_simp; simp [hj0, hj1, hj2, hj3, htn, htn1, hwr1, hwr2]; done)))
      simp only [Act.put, List.setIfInBounds_toArray, List.set_cons_zero, List.set_cons_succ]
      refine take_d (i := 8) 32 (.pointer (some (ad.add (i * 4)))) rfl rfl (by kernel_rfl) (by kernel_rfl) (by kernel_rfl) (fun _ _ _ h => h) (Or.inl ⟨by rfl, ?_⟩) hSS ?_
      (focus (intro w' hw'; have hb1 := HCELL.out w' hw'; obtain ⟨hb1, hb2, hb3, hb4⟩ := hb1; first | (go_simp; done) | (go_simp; simp [hj0, hj1, hj2, hj3, htn, htn1, hwr1, hwr2]; done)))
      simp only [Act.put, List.setIfInBounds_toArray, List.set_cons_zero, List.set_cons_succ]
      refine take_d (i := 9) 33 (.pointer (some ⟨(ad.add (i * 4)).block, (ad.add (i * 4)).off + 1, none⟩)) rfl rfl (by kernel_rfl) (by kernel_rfl) (by kernel_rfl) (fun _ _ _ h => h) (Or.inl ⟨by rfl, ?_⟩) hSS ?_
      (focus (intro w' hw'; have hb1 := HCELL.out w' hw'; obtain ⟨hb1, hb2, hb3, hb4⟩ := hb1; first | (go_simp; done) | (go_simp; simp [hj0, hj1, hj2, hj3, htn, htn1, hwr1, hwr2]; done)))
      simp only [Act.put, List.setIfInBounds_toArray, List.set_cons_zero, List.set_cons_succ]
      refine take_d (i := 10) 34 (.int .i64 u.dead) rfl rfl (by kernel_rfl) (by kernel_rfl) (by kernel_rfl) (fun _ _ _ h => h) (Or.inl ⟨by rfl, ?_⟩) hSS ?_
      (focus (intro w' hw'; have hb1 := HCELL.out w' hw'; obtain ⟨hb1, hb2, hb3, hb4⟩ := hb1; first | (go_simp; done) | (go_simp; simp [hj0, hj1, hj2, hj3, htn, htn1, hwr1, hwr2]; done)))
      simp only [Act.put, List.setIfInBounds_toArray, List.set_cons_zero, List.set_cons_succ]
      refine take_d (i := 11) 35 (.slice (some ad) us.length cap) rfl rfl (by kernel_rfl) (by kernel_rfl) (by kernel_rfl) (fun _ _ _ h => h) (Or.inl ⟨by rfl, ?_⟩) hSS ?_
      (focus (intro w' hw'; have hb1 := HCELL.out w' hw'; obtain ⟨hb1, hb2, hb3, hb4⟩ := hb1; first | (go_simp; done) | (go_simp; simp [hj0, hj1, hj2, hj3, htn, htn1, hwr1, hwr2]; done)))
      simp only [Act.put, List.setIfInBounds_toArray, List.set_cons_zero, List.set_cons_succ]
      refine take_d (i := 12) 36 (.int .i64 (i : Int)) rfl rfl (by kernel_rfl) (by kernel_rfl) (by kernel_rfl) (fun _ _ _ h => h) (Or.inl ⟨by rfl, ?_⟩) hSS ?_
      (focus (intro w' hw'; have hb1 := HCELL.out w' hw'; obtain ⟨hb1, hb2, hb3, hb4⟩ := hb1; first | (go_simp; done) | (go_simp; simp [hj0, hj1, hj2, hj3, htn, htn1, hwr1, hwr2]; done)))
      simp only [Act.put, List.setIfInBounds_toArray, List.set_cons_zero, List.set_cons_succ]
      refine take_d (i := 13) 37 (.pointer (some (ad.add (i * 4)))) rfl rfl (by kernel_rfl) (by kernel_rfl) (by kernel_rfl) (fun _ _ _ h => h) (Or.inl ⟨by rfl, ?_⟩) hSS ?_
      (focus (intro w' hw'; have hb1 := HCELL.out w' hw'; obtain ⟨hb1, hb2, hb3, hb4⟩ := hb1; first | (go_simp; done) | (go_simp; simp [hj0, hj1, hj2, hj3, htn, htn1, hwr1, hwr2]; done)))
      simp only [Act.put, List.setIfInBounds_toArray, List.set_cons_zero, List.set_cons_succ]
      refine take_d (i := 14) 38 (.pointer (some ⟨(ad.add (i * 4)).block, (ad.add (i * 4)).off + 2, none⟩)) rfl rfl (by kernel_rfl) (by kernel_rfl) (by kernel_rfl) (fun _ _ _ h => h) (Or.inl ⟨by rfl, ?_⟩) hSS ?_
      (focus (intro w' hw'; have hb1 := HCELL.out w' hw'; obtain ⟨hb1, hb2, hb3, hb4⟩ := hb1; first | (go_simp; done) | (go_simp; simp [hj0, hj1, hj2, hj3, htn, htn1, hwr1, hwr2]; done)))
      simp only [Act.put, List.setIfInBounds_toArray, List.set_cons_zero, List.set_cons_succ]
      refine take_d (i := 15) 39 (.int .i64 u.all) rfl rfl (by kernel_rfl) (by kernel_rfl) (by kernel_rfl) (fun _ _ _ h => h) (Or.inl ⟨by rfl, ?_⟩) hSS ?_
      (focus (intro w' hw'; have hb1 := HCELL.out w' hw'; obtain ⟨hb1, hb2, hb3, hb4⟩ := hb1; first | (go_simp; done) | (go_simp; simp [hj0, hj1, hj2, hj3, htn, htn1, hwr1, hwr2]; done)))
      simp only [Act.put, List.setIfInBounds_toArray, List.set_cons_zero, List.set_cons_succ]
      refine take_d (i := 16) 40 (.float .f64 u.age) rfl rfl (by kernel_rfl) (by kernel_rfl) (by kernel_rfl) (fun _ _ _ h => h) (Or.inl ⟨by rfl, ?_⟩) hSS ?_
      (focus (intro w' hw'; have hb1 := HCELL.out w' hw'; obtain ⟨hb1, hb2, hb3, hb4⟩ := hb1; first | (go_simp; done) | (go_simp; simp [hj0, hj1, hj2, hj3, htn, htn1, hwr1, hwr2]; done)))
      simp only [Act.put, List.setIfInBounds_toArray, List.set_cons_zero, List.set_cons_succ]
      refine take_d (i := 17) 41 (.agg #[.int .i64 u.num, .int .i64 u.dead, .int .i64 u.all, .float .f64 u.age]) rfl rfl (by kernel_rfl) (by kernel_rfl) (by kernel_rfl) (fun _ _ _ h => h) (Or.inl ⟨by rfl, ?_⟩) hSS ?_
      (focus (intro w' hw'; have hb1 := HCELL.out w' hw'; obtain ⟨hb1, hb2, hb3, hb4⟩ := hb1; first | (go_simp; done) | (go_simp; simp [hj0, hj1, hj2, hj3, htn, htn1, hwr1, hwr2]; done)))
      simp only [Act.put, List.setIfInBounds_toArray, List.set_cons_zero, List.set_cons_succ]
      refine wpAnyH_ready (rs := [18]) (by kernel_rfl) (by simp) (AllReadyH.cons rfl (fun K2 hK2 => ?_) AllReadyH.nil)
      rw [if_pos (by rfl)]
      go_simp
      have hS6 := hS.drew.alloc' (.cells #[.int .i64 u.num, .int .i64 u.dead, .int .i64 u.all, .float .f64 u.age] 51)
      refine hK2.out _ _ hS6.below (fun _ => ?_)
      refine wpAnyH_ready (rs := [19]) (by kernel_rfl) (by simp) (AllReadyH.cons rfl (fun K4 hK4 => ?_) AllReadyH.nil)
      refine step_app (sz := 4) (n := i) (m := 1) (xs := uv (us.take i)) (news := useC u) 0 25 i0 (.agg #[.int .i64 0, .int .i64 0, .int .i64 0, .float .f64 0]) _ _ rfl rfl rfl rfl Try.underlying25 i0a i0b i0c i0d rfl (by decide) hS6 rfl ha (Rd.lits4 wr.drew _ 51 rfl) (useC_one u) (by unfold maxLen; omega) (by omega) (fun v1 c1 w5 hr1 hS5 => ?_)
      refine hK4.out _ _ hS5.below (fun _ => ?_)
      simp only [Act.put, List.setIfInBounds_toArray, List.set_cons_zero, List.set_cons_succ]
      refine wpAnyH_ready (rs := [20]) (by kernel_rfl) (by simp) (AllReadyH.cons rfl (fun K5 hK5 => ?_) AllReadyH.nil)
      rw [if_pos (by rfl)]
      go_simp
      refine hK5.out _ _ hS5.below (fun _ => ?_)
      refine wpAnyH_done (by kernel_rfl) ?_ _
      clear hS6
      go_wp2_with fail
      refine wp_region_held_drew (S := fun w' => Below w.heap.size w w') mixed hS5.below.drew (fun hSS => ?_)
      refine take_d (i := 0) 44 (.slice ao5 i cap5) rfl rfl (by kernel_rfl) (by kernel_rfl) (by kernel_rfl) (fun _ _ _ h => h) (Or.inl ⟨by rfl, ?_⟩) hSS ?_
      (focus (intro w' hw'; have hb1 := HCELL.out w' hw'; obtain ⟨hb1, hb2, hb3, hb4⟩ := hb1; first | (go_simp; done) | (go_simp; simp [hj0, hj1, hj2, hj3, htn, htn1, hwr1, hwr2]; done)))
      simp only [Act.put, List.setIfInBounds_toArray, List.set_cons_zero, List.set_cons_succ]
      refine take_d (i := 1) 45 (.slice (some ad) us.length cap) rfl rfl (by kernel_rfl) (by kernel_rfl) (by kernel_rfl) (fun _ _ _ h => h) (Or.inl ⟨by rfl, ?_⟩) hSS ?_
      (focus (intro w' hw'; have hb1 := HCELL.out w' hw'; obtain ⟨hb1, hb2, hb3, hb4⟩ := hb1; first | (go_simp; done) | (go_simp; simp [hj0, hj1, hj2, hj3, htn, htn1, hwr1, hwr2]; done)))
      simp only [Act.put, List.setIfInBounds_toArray, List.set_cons_zero, List.set_cons_succ]
      refine take_d (i := 2) 46 (.int .i64 (i : Int)) rfl rfl (by kernel_rfl) (by kernel_rfl) (by kernel_rfl) (fun _ _ _ h => h) (Or.inl ⟨by rfl, ?_⟩) hSS ?_
      (focus (intro w' hw'; have hb1 := HCELL.out w' hw'; obtain ⟨hb1, hb2, hb3, hb4⟩ := hb1; first | (go_simp; done) | (go_simp; simp [hj0, hj1, hj2, hj3, htn, htn1, hwr1, hwr2]; done)))
      simp only [Act.put, List.setIfInBounds_toArray, List.set_cons_zero, List.set_cons_succ]
      refine take_d (i := 3) 47 (.pointer (some (ad.add (i * 4)))) rfl rfl (by kernel_rfl) (by kernel_rfl) (by kernel_rfl) (fun _ _ _ h => h) (Or.inl ⟨by rfl, ?_⟩) hSS ?_
      (focus (intro w' hw'; have hb1 := HCELL.out w' hw'; obtain ⟨hb1, hb2, hb3, hb4⟩ := hb1; first | (go_simp; done) | (go_simp; simp [hj0, hj1, hj2, hj3, htn, htn1, hwr1, hwr2]; done)))
      simp only [Act.put, List.setIfInBounds_toArray, List.set_cons_zero, List.set_cons_succ]
      refine take_d (i := 4) 48 (.pointer (some (ad.add (i * 4)))) rfl rfl (by kernel_rfl) (by kernel_rfl) (by kernel_rfl) (fun _ _ _ h => h) (Or.inl ⟨by rfl, ?_⟩) hSS ?_
      (focus (intro w' hw'; have hb1 := HCELL.out w' hw'; obtain ⟨hb1, hb2, hb3, hb4⟩ := hb1; first | (go_simp; done) | (go_simp; simp [hj0, hj1, hj2, hj3, htn, htn1, hwr1, hwr2]; done)))
      simp only [Act.put, List.setIfInBounds_toArray, List.set_cons_zero, List.set_cons_succ]
      refine take_d (i := 5) 49 (.int .i64 u.num) rfl rfl (by kernel_rfl) (by kernel_rfl) (by kernel_rfl) (fun _ _ _ h => h) (Or.inl ⟨by rfl, ?_⟩) hSS ?_
      (focus (intro w' hw'; have hb1 := HCELL.out w' hw'; obtain ⟨hb1, hb2, hb3, hb4⟩ := hb1; first | (go_simp; done) | (go_simp; simp [hj0, hj1, hj2, hj3, htn, htn1, hwr1, hwr2]; done)))
      simp only [Act.put, List.setIfInBounds_toArray, List.set_cons_zero, List.set_cons_succ]
      refine take_d (i := 6) 50 (.slice (some ad) us.length cap) rfl rfl (by kernel_rfl) (by kernel_rfl) (by kernel_rfl) (fun _ _ _ h => h) (Or.inl ⟨by rfl, ?_⟩) hSS ?_
      (focus (intro w' hw'; have hb1 := HCELL.out w' hw'; obtain ⟨hb1, hb2, hb3, hb4⟩ := hb1; first | (go_simp; done) | (go_simp; simp [hj0, hj1, hj2, hj3, htn, htn1, hwr1, hwr2]; done)))
      simp only [Act.put, List.setIfInBounds_toArray, List.set_cons_zero, List.set_cons_succ]
      refine take_d (i := 7) 51 (.int .i64 (i : Int)) rfl rfl (by kernel_rfl) (by kernel_rfl) (by kernel_rfl) (fun _ _ _ h => h) (Or.inl ⟨by rfl, ?_⟩) hSS ?_
      (focus (intro w' hw'; have hb1 := HCELL.out w' hw'; obtain ⟨hb1, hb2, hb3, hb4⟩ := hb1; first | (go_simp; done) | (go_simp; simp [hj0, hj1, hj2, hj3, htn, htn1, hwr1, hwr2]; done)))
      simp only [Act.put, List.setIfInBounds_toArray, List.set_cons_zero, List.set_cons_succ]
      refine take_d (i := 8) 52 (.pointer (some (ad.add (i * 4)))) rfl rfl (by kernel_rfl) (by kernel_rfl) (by kernel_rfl) (fun _ _ _ h => h) (Or.inl ⟨by rfl, ?_⟩) hSS ?_
      (focus (intro w' hw'; have hb1 := HCELL.out w' hw'; obtain ⟨hb1, hb2, hb3, hb4⟩ := hb1; first | (go_simp; done) | (go_simp; simp [hj0, hj1, hj2, hj3, htn, htn1, hwr1, hwr2]; done)))
      simp only [Act.put, List.setIfInBounds_toArray, List.set_cons_zero, List.set_cons_succ]
      refine take_d (i := 9) 53 (.pointer (some ⟨(ad.add (i * 4)).block, (ad.add (i * 4)).off + 1, none⟩)) rfl rfl (by kernel_rfl) (by kernel_rfl) (by kernel_rfl) (fun _ _ _ h => h) (Or.inl ⟨by rfl, ?_⟩) hSS ?_
      (focus (intro w' hw'; have hb1 := HCELL.out w' hw'; obtain ⟨hb1, hb2, hb3, hb4⟩ := hb1; first | (go_simp; done) | (go_simp; simp [hj0, hj1, hj2, hj3, htn, htn1, hwr1, hwr2]; done)))
      simp only [Act.put, List.setIfInBounds_toArray, List.set_cons_zero, List.set_cons_succ]
      refine take_d (i := 10) 54 (.int .i64 u.dead) rfl rfl (by kernel_rfl) (by kernel_rfl) (by kernel_rfl) (fun _ _ _ h => h) (Or.inl ⟨by rfl, ?_⟩) hSS ?_
      (focus (intro w' hw'; have hb1 := HCELL.out w' hw'; obtain ⟨hb1, hb2, hb3, hb4⟩ := hb1; first | (go_simp; done) | (go_simp; simp [hj0, hj1, hj2, hj3, htn, htn1, hwr1, hwr2]; done)))
      simp only [Act.put, List.setIfInBounds_toArray, List.set_cons_zero, List.set_cons_succ]
      refine take_d (i := 11) 55 (.slice (some ad) us.length cap) rfl rfl (by kernel_rfl) (by kernel_rfl) (by kernel_rfl) (fun _ _ _ h => h) (Or.inl ⟨by rfl, ?_⟩) hSS ?_
      (focus (intro w' hw'; have hb1 := HCELL.out w' hw'; obtain ⟨hb1, hb2, hb3, hb4⟩ := hb1; first | (go_simp; done) | (go_simp; simp [hj0, hj1, hj2, hj3, htn, htn1, hwr1, hwr2]; done)))
      simp only [Act.put, List.setIfInBounds_toArray, List.set_cons_zero, List.set_cons_succ]
      refine take_d (i := 12) 56 (.int .i64 (i : Int)) rfl rfl (by kernel_rfl) (by kernel_rfl) (by kernel_rfl) (fun _ _ _ h => h) (Or.inl ⟨by rfl, ?_⟩) hSS ?_
      (focus (intro w' hw'; have hb1 := HCELL.out w' hw'; obtain ⟨hb1, hb2, hb3, hb4⟩ := hb1; first | (go_simp; done) | (go_simp; simp [hj0, hj1, hj2, hj3, htn, htn1, hwr1, hwr2]; done)))
      simp only [Act.put, List.setIfInBounds_toArray, List.set_cons_zero, List.set_cons_succ]
      refine take_d (i := 13) 57 (.pointer (some (ad.add (i * 4)))) rfl rfl (by kernel_rfl) (by kernel_rfl) (by kernel_rfl) (fun _ _ _ h => h) (Or.inl ⟨by rfl, ?_⟩) hSS ?_
      (focus (intro w' hw'; have hb1 := HCELL.out w' hw'; obtain ⟨hb1, hb2, hb3, hb4⟩ := hb1; first | (go_simp; done) | (go_simp; simp [hj0, hj1, hj2, hj3, htn, htn1, hwr1, hwr2]; done)))
      simp only [Act.put, List.setIfInBounds_toArray, List.set_cons_zero, List.set_cons_succ]
      refine take_d (i := 14) 58 (.pointer (some ⟨(ad.add (i * 4)).block, (ad.add (i * 4)).off + 2, none⟩)) rfl rfl (by kernel_rfl) (by kernel_rfl) (by kernel_rfl) (fun _ _ _ h => h) (Or.inl ⟨by rfl, ?_⟩) hSS ?_
      (focus (intro w' hw'; have hb1 := HCELL.out w' hw'; obtain ⟨hb1, hb2, hb3, hb4⟩ := hb1; first | (go_simp; done) | (go_simp; simp [hj0, hj1, hj2, hj3, htn, htn1, hwr1, hwr2]; done)))
      simp only [Act.put, List.setIfInBounds_toArray, List.set_cons_zero, List.set_cons_succ]
      refine take_d (i := 15) 59 (.int .i64 u.all) rfl rfl (by kernel_rfl) (by kernel_rfl) (by kernel_rfl) (fun _ _ _ h => h) (Or.inl ⟨by rfl, ?_⟩) hSS ?_
      (focus (intro w' hw'; have hb1 := HCELL.out w' hw'; obtain ⟨hb1, hb2, hb3, hb4⟩ := hb1; first | (go_simp; done) | (go_simp; simp [hj0, hj1, hj2, hj3, htn, htn1, hwr1, hwr2]; done)))
      simp only [Act.put, List.setIfInBounds_toArray, List.set_cons_zero, List.set_cons_succ]
      refine take_d (i := 16) 60 (.float .f64 u.age) rfl rfl (by kernel_rfl) (by kernel_rfl) (by kernel_rfl) (fun _ _ _ h => h) (Or.inl ⟨by rfl, ?_⟩) hSS ?_
      (focus (intro w' hw'; have hb1 := HCELL.out w' hw'; obtain ⟨hb1, hb2, hb3, hb4⟩ := hb1; first | (go_simp; done) | (go_simp; simp [hj0, hj1, hj2, hj3, htn, htn1, hwr1, hwr2]; done)))
      simp only [Act.put, List.setIfInBounds_toArray, List.set_cons_zero, List.set_cons_succ]
      refine take_d (i := 17) 61 (.agg #[.int .i64 u.num, .int .i64 u.dead, .int .i64 u.all, .float .f64 u.age]) rfl rfl (by kernel_rfl) (by kernel_rfl) (by kernel_rfl) (fun _ _ _ h => h) (Or.inl ⟨by rfl, ?_⟩) hSS ?_
      (focus (intro w' hw'; have hb1 := HCELL.out w' hw'; obtain ⟨hb1, hb2, hb3, hb4⟩ := hb1; first | (go_simp; done) | (go_simp; simp [hj0, hj1, hj2, hj3, htn, htn1, hwr1, hwr2]; done)))
      simp only [Act.put, List.setIfInBounds_toArray, List.set_cons_zero, List.set_cons_succ]
      refine wpAnyH_ready (rs := [18]) (by kernel_rfl) (by simp) (AllReadyH.cons rfl (fun K2 hK2 => ?_) AllReadyH.nil)
      rw [if_pos (by rfl)]
      go_simp
      have hS6 := hS5.drew.alloc' (.cells #[.int .i64 u.num, .int .i64 u.dead, .int .i64 u.all, .float .f64 u.age] 36)
      refine hK2.out _ _ hS6.below (fun _ => ?_)
      refine wpAnyH_ready (rs := [19]) (by kernel_rfl) (by simp) (AllReadyH.cons rfl (fun K4 hK4 => ?_) AllReadyH.nil)
      refine step_app (sz := 4) (n := i) (m := 1) (xs := uv (us.take i)) (news := useC u) 1 26 j0 (.agg #[.int .i64 0, .int .i64 0, .int .i64 0, .float .f64 0]) _ _ rfl rfl rfl rfl Try.underlying26 j0a j0b j0c j0d rfl (by decide) hS6 rfl hb (Rd.lits4 w5.drew _ 36 rfl) (useC_one u) (by unfold maxLen; omega) (by omega) (fun v2 c2 w6 hr2 hS7 => ?_)
      refine hK4.out _ _ hS7.below (fun _ => ?_)
      simp only [Act.put, List.setIfInBounds_toArray, List.set_cons_zero, List.set_cons_succ]
      refine wpAnyH_ready (rs := [20]) (by kernel_rfl) (by simp) (AllReadyH.cons rfl (fun K5 hK5 => ?_) AllReadyH.nil)
      rw [if_pos (by rfl)]
      go_simp
      refine hK5.out _ _ hS7.below (fun _ => ?_)
      refine wpAnyH_done (by kernel_rfl) ?_ _
      clear hS6
      rw [HT.out] at hr1 hr2
      go_wp2_with fail
      go_roundg m
      case measure => omega
      case rel => exact ⟨i + 1, by omega, by go_num, c1, c2, hr1, hr2, hS7⟩
    | zero =>
      have HF : Hid (CutOut (us.take 30) w (.returned (.tuple #[.slice ao4 i cap4, .slice ao5 i cap5])) wr) := Lib.hid (by
        have e1 : (us.take 30).length = i := by rw [List.length_take]; omega
        have e2 : us.take 30 = us.take i := by
          by_cases q : us.length ≤ 30
          · rw [List.take_of_length_le (by omega), List.take_of_length_le (by omega)]
          · rw [show i = 30 from by omega]
        refine ⟨_, _, ca, cb, rfl, ?_, ?_, hS⟩
        · rw [e1, e2]; exact ha
        · rw [e1, e2]; exact hb)
      by_cases q : i < us.length
      · have hq1 : (i : Int) < (us.length : Int) := by omega
        have hq2 : ¬ (i : Int) < 30 := by omega
        clear ha hb hS
        go_wp2_with fail
        go_ret2
        exact HF.out
      · have hq1 : ¬ (i : Int) < (us.length : Int) := by omega
        clear ha hb hS
        go_wp2_with fail
        go_ret2
        exact HF.out
end Go.Proofs.Ytdhnmcdgiddhdab
