/-
  The walk of ChooseOrder.
-/
import Derived.Test.YtdhnmcdgiddhdabLChooseMiddle
set_option linter.unusedVariables false
set_option linter.unusedSimpArgs false
namespace Go.Proofs.Ytdhnmcdgiddhdab
open Go.RowKit Go.ChangeShapes Go.WideShapes
set_option maxRecDepth 100000
theorem Drew.more {a b c : World} (h : Drew a b) (h2 : Drew b c) : Drew a c := by
  obtain ⟨k, rfl⟩ := h.out
  obtain ⟨m, rfl⟩ := h2.out
  rw [World.drewN_drewN]
  exact Drew.mk _ _
set_option maxHeartbeats 8000000 in
theorem ChooseOrder_walk (w : World) (v : Value) (n : Nat) (os : List UseP) (rd : Rd w 4 v n (uvL os) ∧ os.length = n ∧ ∀ o ∈ os, o.age < 18446744073709551616 ∧ (Lit.int .i64 o.num).wf = true ∧ (Lit.int .i64 o.dead).wf = true ∧ (Lit.int .i64 o.all).wf = true) (sz : n * 32 ≤ 140737488351232) (wt : Int) (wf : (Lit.int .u64 wt).wf = true) :
    Calls Try.prog 3 #[v, .int .u64 wt] w fun e w' => e = .returned (.bool true) ∧ Below w.heap.size w w' := by
  obtain ⟨hrd, rfl, hos⟩ := rd
  have hwb := bounds_u64 wf
  obtain ⟨W, rfl⟩ := Int.eq_ofNat_of_zero_le hwb.1
  have hW : W < 18446744073709551616 := by omega
  have hWn : ((W : Int).toNat) = W := by simp
  have H0 := Lib.hid hrd
  obtain ⟨ao, cap, rfl⟩ := hrd.shape
  clear hrd wf sz hwb
  go_enter Try.func3, Try.ntmps3
  go_wp2_with fail
  refine (begun27 w).mono ?_
  rintro e w1 ⟨rfl, hb⟩
  have hS1 := (St.init w).mono hb
  clear hb
  go_wp2_with fail
  refine (cut27_any _ os w1 (H0.out.st hS1)).mono ?_
  rintro e w2 ⟨va, vb, ca, cb, rfl, ha, hb, hS2⟩
  have hage : ∀ u ∈ os.take 30, u.age < 18446744073709551616 := fun u hu => (hos u (List.mem_of_mem_take hu)).1
  have hul : (os.take 30).length ≤ 30 := by simp; omega
  generalize os.take 30 = us at *
  obtain ⟨aoa, capa, rfl⟩ := ha.shape
  obtain ⟨aob, capb, rfl⟩ := hb.shape
  have HS2 := Lib.hid (And.intro (hS1.join hS2) (And.intro ha hb))
  have HAGE := Lib.hid hage
  have hui : (us.length : Int) ≤ 30 := by omega
  clear hS1 hS2 ha hb hage hos
  go_wp2_with fail
  refine (gains_any _ us W w2 (HS2.out.2.1.rd HS2.out.1 0 rfl) hW HAGE.out (by omega)).mono ?_
  rintro e w3 ⟨vg, xs, cg, rfl, hg, hgp, hx64, hS3⟩
  obtain ⟨aog, capg, rfl⟩ := hg.shape
  have hlen : (xs.length : Int) = (us.length : Int) := by have := hgp.1; omega
  have hne : ((xs.length : Int) != (us.length : Int)) = false := by simp [hlen]
  have HG := Lib.hid (And.intro (HS2.out.1.join hS3) (And.intro hg (And.intro hgp hx64)))
  clear hS3 hg hgp hx64 hlen
  go_wp2_with fail
  go_loopg [10] xs.length (fun m s10 wr => ∃ i : Nat, i + m = xs.length ∧ s10 = .int .i64 (i : Int) ∧ Drew w3 wr)
  case atStart => exact ⟨0, by omega, rfl, Drew.refl _⟩
  case round =>
    obtain ⟨i, hi, rfl, hd⟩ := hrel
    have hS := HG.out.1.Drew hd
    cases gk with
    | succ m =>
      have hif : (i : Int) < (xs.length : Int) := by omega
      have hxu := HG.out.2.2.1.1
      have hif2 : (i : Int) < (us.length : Int) := by omega
      obtain ⟨x, hx⟩ : ∃ x, xs[i]? = some x := ⟨_, List.getElem?_eq_getElem (by omega)⟩
      obtain ⟨u, hu⟩ : ∃ u, us[i]? = some u := ⟨_, List.getElem?_eq_getElem (by omega)⟩
      obtain ⟨adg, rfl, hcg⟩ := (HG.out.2.1.rd hS 0 rfl).at (fv_get xs i x hx)
      have hrb := HS2.out.2.2.rd hS 2 rfl
      obtain ⟨ad, rfl⟩ : ∃ ad, aob = some ad := by
        obtain ⟨ad, e, _⟩ := hrb.at (j := i * 4 + 0) (by rw [uv_get us i 0 u hu (by omega)]; rfl)
        exact ⟨ad, e⟩
      obtain ⟨k0, k1, k2, k3⟩ := hrb.use hu
      have hua := HAGE.out u (List.mem_of_getElem? hu)
      have HIS := Lib.hid (HG.out.2.2.1.2 i u x hu hx)
      have HCELL : Hid (∀ w', Drew wr w' → w'.cell? (adg.add i) = some (.float .f64 x) ∧ w'.cell? ⟨(ad.add (i * 4)).block, (ad.add (i * 4)).off + 1, none⟩ = some (.int .i64 u.dead) ∧ w'.cell? ⟨(ad.add (i * 4)).block, (ad.add (i * 4)).off + 2, none⟩ = some (.int .i64 u.all) ∧ w'.cell? ⟨(ad.add (i * 4)).block, (ad.add (i * 4)).off + 3, none⟩ = some (.float .f64 u.age)) := Lib.hid (by
        intro w' hw'
        obtain ⟨k, rfl⟩ := hw'.out
        exact ⟨hcg, k1, k2, k3⟩)
      have HD := Lib.hid hd
      clear hcg k0 k1 k2 k3 hx hu hrb hS hd hxu
      go_wp2_with fail
      refine wp_region_held_drew (S := fun w' => Drew wr w') mixed (Drew.mk wr 1) (fun hSS => ?_)
      refine take_d (i := 0) 38 (.slice (some adg) xs.length capg) rfl rfl (by kernel_rfl) (by kernel_rfl) (by kernel_rfl) (fun _ _ _ h => h) (Or.inl ⟨by rfl, ?_⟩) hSS ?_
      (focus (intro w' hw'; have hb1 := HCELL.out w' hw'; obtain ⟨hb1, hb2, hb3, hb4⟩ := hb1; first | (go_simp; done) | (go_simp; simp [hj0, hj1, hj2, hj3, htn, htn1, hwr1, hwr2]; done)))
      simp only [Act.put, List.setIfInBounds_toArray, List.set_cons_zero, List.set_cons_succ]
      refine take_d (i := 1) 39 (.int .i64 (i : Int)) rfl rfl (by kernel_rfl) (by kernel_rfl) (by kernel_rfl) (fun _ _ _ h => h) (Or.inl ⟨by rfl, ?_⟩) hSS ?_
      (focus (intro w' hw'; have hb1 := HCELL.out w' hw'; obtain ⟨hb1, hb2, hb3, hb4⟩ := hb1; first | (go_simp; done) | (go_simp; simp [hj0, hj1, hj2, hj3, htn, htn1, hwr1, hwr2]; done)))
      simp only [Act.put, List.setIfInBounds_toArray, List.set_cons_zero, List.set_cons_succ]
      refine take_d (i := 2) 40 (.pointer (some (adg.add i))) rfl rfl (by kernel_rfl) (by kernel_rfl) (by kernel_rfl) (fun _ _ _ h => h) (Or.inl ⟨by rfl, ?_⟩) hSS ?_
      (focus (intro w' hw'; have hb1 := HCELL.out w' hw'; obtain ⟨hb1, hb2, hb3, hb4⟩ := hb1; first | (go_simp; done) | (go_simp; simp [hj0, hj1, hj2, hj3, htn, htn1, hwr1, hwr2]; done)))
      simp only [Act.put, List.setIfInBounds_toArray, List.set_cons_zero, List.set_cons_succ]
      refine take_d (i := 3) 41 (.float .f64 x) rfl rfl (by kernel_rfl) (by kernel_rfl) (by kernel_rfl) (fun _ _ _ h => h) (Or.inl ⟨by rfl, ?_⟩) hSS ?_
      (focus (intro w' hw'; have hb1 := HCELL.out w' hw'; obtain ⟨hb1, hb2, hb3, hb4⟩ := hb1; first | (go_simp; done) | (go_simp; simp [hj0, hj1, hj2, hj3, htn, htn1, hwr1, hwr2]; done)))
      simp only [Act.put, List.setIfInBounds_toArray, List.set_cons_zero, List.set_cons_succ]
      refine take_d (i := 5) 43 (.slice (some ad) us.length capb) rfl rfl (by kernel_rfl) (by kernel_rfl) (by kernel_rfl) (fun _ _ _ h => h) (Or.inl ⟨by rfl, ?_⟩) hSS ?_
      (focus (intro w' hw'; have hb1 := HCELL.out w' hw'; obtain ⟨hb1, hb2, hb3, hb4⟩ := hb1; first | (go_simp; done) | (go_simp; simp [hj0, hj1, hj2, hj3, htn, htn1, hwr1, hwr2]; done)))
      simp only [Act.put, List.setIfInBounds_toArray, List.set_cons_zero, List.set_cons_succ]
      refine take_d (i := 6) 44 (.int .i64 (i : Int)) rfl rfl (by kernel_rfl) (by kernel_rfl) (by kernel_rfl) (fun _ _ _ h => h) (Or.inl ⟨by rfl, ?_⟩) hSS ?_
      (focus (intro w' hw'; have hb1 := HCELL.out w' hw'; obtain ⟨hb1, hb2, hb3, hb4⟩ := hb1; first | (go_simp; done) | (go_simp; simp [hj0, hj1, hj2, hj3, htn, htn1, hwr1, hwr2]; done)))
      simp only [Act.put, List.setIfInBounds_toArray, List.set_cons_zero, List.set_cons_succ]
      refine take_d (i := 7) 45 (.pointer (some (ad.add (i * 4)))) rfl rfl (by kernel_rfl) (by kernel_rfl) (by kernel_rfl) (fun _ _ _ h => h) (Or.inl ⟨by rfl, ?_⟩) hSS ?_
      (focus (intro w' hw'; have hb1 := HCELL.out w' hw'; obtain ⟨hb1, hb2, hb3, hb4⟩ := hb1; first | (go_simp; done) | (go_simp; simp [hj0, hj1, hj2, hj3, htn, htn1, hwr1, hwr2]; done)))
      simp only [Act.put, List.setIfInBounds_toArray, List.set_cons_zero, List.set_cons_succ]
      refine take_d (i := 8) 46 (.pointer (some ⟨(ad.add (i * 4)).block, (ad.add (i * 4)).off + 1, none⟩)) rfl rfl (by kernel_rfl) (by kernel_rfl) (by kernel_rfl) (fun _ _ _ h => h) (Or.inl ⟨by rfl, ?_⟩) hSS ?_
      (focus (intro w' hw'; have hb1 := HCELL.out w' hw'; obtain ⟨hb1, hb2, hb3, hb4⟩ := hb1; first | (go_simp; done) | (go_simp; simp [hj0, hj1, hj2, hj3, htn, htn1, hwr1, hwr2]; done)))
      simp only [Act.put, List.setIfInBounds_toArray, List.set_cons_zero, List.set_cons_succ]
      refine take_d (i := 9) 47 (.int .i64 u.dead) rfl rfl (by kernel_rfl) (by kernel_rfl) (by kernel_rfl) (fun _ _ _ h => h) (Or.inl ⟨by rfl, ?_⟩) hSS ?_
      (focus (intro w' hw'; have hb1 := HCELL.out w' hw'; obtain ⟨hb1, hb2, hb3, hb4⟩ := hb1; first | (go_simp; done) | (go_simp; simp [hj0, hj1, hj2, hj3, htn, htn1, hwr1, hwr2]; done)))
      simp only [Act.put, List.setIfInBounds_toArray, List.set_cons_zero, List.set_cons_succ]
      refine take_d (i := 10) 48 (.slice (some ad) us.length capb) rfl rfl (by kernel_rfl) (by kernel_rfl) (by kernel_rfl) (fun _ _ _ h => h) (Or.inl ⟨by rfl, ?_⟩) hSS ?_
      (focus (intro w' hw'; have hb1 := HCELL.out w' hw'; obtain ⟨hb1, hb2, hb3, hb4⟩ := hb1; first | (go_simp; done) | (go_simp; simp [hj0, hj1, hj2, hj3, htn, htn1, hwr1, hwr2]; done)))
      simp only [Act.put, List.setIfInBounds_toArray, List.set_cons_zero, List.set_cons_succ]
      refine take_d (i := 11) 49 (.int .i64 (i : Int)) rfl rfl (by kernel_rfl) (by kernel_rfl) (by kernel_rfl) (fun _ _ _ h => h) (Or.inl ⟨by rfl, ?_⟩) hSS ?_
      (focus (intro w' hw'; have hb1 := HCELL.out w' hw'; obtain ⟨hb1, hb2, hb3, hb4⟩ := hb1; first | (go_simp; done) | (go_simp; simp [hj0, hj1, hj2, hj3, htn, htn1, hwr1, hwr2]; done)))
      simp only [Act.put, List.setIfInBounds_toArray, List.set_cons_zero, List.set_cons_succ]
      refine take_d (i := 12) 50 (.pointer (some (ad.add (i * 4)))) rfl rfl (by kernel_rfl) (by kernel_rfl) (by kernel_rfl) (fun _ _ _ h => h) (Or.inl ⟨by rfl, ?_⟩) hSS ?_
      (focus (intro w' hw'; have hb1 := HCELL.out w' hw'; obtain ⟨hb1, hb2, hb3, hb4⟩ := hb1; first | (go_simp; done) | (go_simp; simp [hj0, hj1, hj2, hj3, htn, htn1, hwr1, hwr2]; done)))
      simp only [Act.put, List.setIfInBounds_toArray, List.set_cons_zero, List.set_cons_succ]
      refine take_d (i := 13) 51 (.pointer (some ⟨(ad.add (i * 4)).block, (ad.add (i * 4)).off + 2, none⟩)) rfl rfl (by kernel_rfl) (by kernel_rfl) (by kernel_rfl) (fun _ _ _ h => h) (Or.inl ⟨by rfl, ?_⟩) hSS ?_
      (focus (intro w' hw'; have hb1 := HCELL.out w' hw'; obtain ⟨hb1, hb2, hb3, hb4⟩ := hb1; first | (go_simp; done) | (go_simp; simp [hj0, hj1, hj2, hj3, htn, htn1, hwr1, hwr2]; done)))
      simp only [Act.put, List.setIfInBounds_toArray, List.set_cons_zero, List.set_cons_succ]
      refine take_d (i := 14) 52 (.int .i64 u.all) rfl rfl (by kernel_rfl) (by kernel_rfl) (by kernel_rfl) (fun _ _ _ h => h) (Or.inl ⟨by rfl, ?_⟩) hSS ?_
      (focus (intro w' hw'; have hb1 := HCELL.out w' hw'; obtain ⟨hb1, hb2, hb3, hb4⟩ := hb1; first | (go_simp; done) | (go_simp; simp [hj0, hj1, hj2, hj3, htn, htn1, hwr1, hwr2]; done)))
      simp only [Act.put, List.setIfInBounds_toArray, List.set_cons_zero, List.set_cons_succ]
      refine take_d (i := 15) 53 (.slice (some ad) us.length capb) rfl rfl (by kernel_rfl) (by kernel_rfl) (by kernel_rfl) (fun _ _ _ h => h) (Or.inl ⟨by rfl, ?_⟩) hSS ?_
      (focus (intro w' hw'; have hb1 := HCELL.out w' hw'; obtain ⟨hb1, hb2, hb3, hb4⟩ := hb1; first | (go_simp; done) | (go_simp; simp [hj0, hj1, hj2, hj3, htn, htn1, hwr1, hwr2]; done)))
      simp only [Act.put, List.setIfInBounds_toArray, List.set_cons_zero, List.set_cons_succ]
      refine take_d (i := 16) 54 (.int .i64 (i : Int)) rfl rfl (by kernel_rfl) (by kernel_rfl) (by kernel_rfl) (fun _ _ _ h => h) (Or.inl ⟨by rfl, ?_⟩) hSS ?_
      (focus (intro w' hw'; have hb1 := HCELL.out w' hw'; obtain ⟨hb1, hb2, hb3, hb4⟩ := hb1; first | (go_simp; done) | (go_simp; simp [hj0, hj1, hj2, hj3, htn, htn1, hwr1, hwr2]; done)))
      simp only [Act.put, List.setIfInBounds_toArray, List.set_cons_zero, List.set_cons_succ]
      refine take_d (i := 17) 55 (.pointer (some (ad.add (i * 4)))) rfl rfl (by kernel_rfl) (by kernel_rfl) (by kernel_rfl) (fun _ _ _ h => h) (Or.inl ⟨by rfl, ?_⟩) hSS ?_
      (focus (intro w' hw'; have hb1 := HCELL.out w' hw'; obtain ⟨hb1, hb2, hb3, hb4⟩ := hb1; first | (go_simp; done) | (go_simp; simp [hj0, hj1, hj2, hj3, htn, htn1, hwr1, hwr2]; done)))
      simp only [Act.put, List.setIfInBounds_toArray, List.set_cons_zero, List.set_cons_succ]
      refine take_d (i := 18) 56 (.pointer (some ⟨(ad.add (i * 4)).block, (ad.add (i * 4)).off + 3, none⟩)) rfl rfl (by kernel_rfl) (by kernel_rfl) (by kernel_rfl) (fun _ _ _ h => h) (Or.inl ⟨by rfl, ?_⟩) hSS ?_
      (focus (intro w' hw'; have hb1 := HCELL.out w' hw'; obtain ⟨hb1, hb2, hb3, hb4⟩ := hb1; first | (go_simp; done) | (go_simp; simp [hj0, hj1, hj2, hj3, htn, htn1, hwr1, hwr2]; done)))
      simp only [Act.put, List.setIfInBounds_toArray, List.set_cons_zero, List.set_cons_succ]
      refine take_d (i := 19) 57 (.float .f64 u.age) rfl rfl (by kernel_rfl) (by kernel_rfl) (by kernel_rfl) (fun _ _ _ h => h) (Or.inl ⟨by rfl, ?_⟩) hSS ?_
      (focus (intro w' hw'; have hb1 := HCELL.out w' hw'; obtain ⟨hb1, hb2, hb3, hb4⟩ := hb1; first | (go_simp; done) | (go_simp; simp [hj0, hj1, hj2, hj3, htn, htn1, hwr1, hwr2]; done)))
      simp only [Act.put, List.setIfInBounds_toArray, List.set_cons_zero, List.set_cons_succ]
      refine take_d (i := 20) 58 (.float .f64 W) rfl rfl (by kernel_rfl) (by kernel_rfl) (by kernel_rfl) (fun _ _ _ h => h) (Or.inl ⟨by rfl, ?_⟩) hSS ?_
      (focus (intro w' hw'; have hb1 := HCELL.out w' hw'; obtain ⟨hb1, hb2, hb3, hb4⟩ := hb1; first | (go_simp; done) | (go_simp; simp [hj0, hj1, hj2, hj3, htn, htn1, hwr1, hwr2]; done)))
      simp only [Act.put, List.setIfInBounds_toArray, List.set_cons_zero, List.set_cons_succ]
      refine wpAnyH_ready (rs := [4]) (by kernel_rfl) (by simp) (AllReadyH.cons rfl (fun K1 hK1 => ?_) AllReadyH.nil)
      rw [if_pos (by rfl)]
      go_simp
      refine (floatbits_sb x _).mono ?_
      rintro e w5 ⟨rfl, rfl⟩
      rw [sb_is HIS.out]
      refine hK1.out _ _ hSS (fun _ => ?_)
      refine wpAnyH_ready (rs := [21]) (by kernel_rfl) (by simp) (AllReadyH.cons rfl (fun K2 hK2 => ?_) AllReadyH.nil)
      rw [if_pos (by rfl)]
      go_simp
      refine (refgain_any u.dead u.all u.age W _ hua hW).mono ?_
      rintro e w6 ⟨y, rfl, hy, hd6⟩
      refine hK2.out _ _ (hSS.more hd6) (fun hS6 => ?_)
      refine wpAnyH_ready (rs := [22]) (by kernel_rfl) (by simp) (AllReadyH.cons rfl (fun K3 hK3 => ?_) AllReadyH.nil)
      rw [if_pos (by rfl)]
      go_simp
      refine (floatbits_sb y _).mono ?_
      rintro e w7 ⟨rfl, rfl⟩
      rw [sb_is hy]
      refine hK3.out _ _ hS6 (fun _ => ?_)
      have hzz : ((sbO (gainP u.dead u.all u.age W)) != (sbO (gainP u.dead u.all u.age W))) = false := by simp
      have HD6 := Lib.hid (HD.out.more hS6)
      clear hy hd6 HIS
      generalize sbO (gainP u.dead u.all u.age W) = gz at *
      refine wpAnyH_ready (rs := [23]) (by kernel_rfl) (by simp) (AllReadyH.cons rfl (fun K4 hK4 => ?_) AllReadyH.nil)
      rw [if_pos (by rfl)]
      go_simp
      refine hK4.out _ _ hS6 (fun _ => ?_)
      refine wpAnyH_done (by kernel_rfl) ?_ _
      clear hSS hS6
      go_wp2_with fail
      go_roundg m
      case measure => omega
      case rel => exact ⟨i + 1, by omega, by go_num, HD6.out⟩
    | zero =>
      obtain rfl : i = xs.length := by omega
      have hz : ¬ (xs.length : Int) < (xs.length : Int) := by omega
      have HS := Lib.hid hS
      clear hS hd hi
      go_wp2_with fail
      refine (chorder_any _ us W wr (HS2.out.2.1.rd HS.out 1 rfl) hW HAGE.out (by omega)).mono ?_
      rintro e w4 ⟨vo, js, co, rfl, ho, hsp, hS4⟩
      obtain ⟨aoo, capo, rfl⟩ := ho.shape
      have HO := Lib.hid (And.intro (HS.out.join hS4) (And.intro ho hsp))
      clear ho hsp hS4
      go_wp2_with fail
      refine (reforder_any _ us W w4 (HS2.out.2.2.rd HO.out.1 3 rfl) hW HAGE.out (by omega)).mono ?_
      rintro e w5 ⟨vp, js', cp, rfl, hp, hsp', hS5⟩
      obtain rfl : js' = js := SpecC.unique hsp' HO.out.2.2
      obtain ⟨aop, capp, rfl⟩ := hp.shape
      have HP := Lib.hid (And.intro (HO.out.1.join hS5) hp)
      have hjl : (js'.length : Int) ≤ 30 := by have := hsp'.length; omega
      have hjne : ((js'.length : Int) != (js'.length : Int)) = false := by simp
      have HSP := Lib.hid hsp'
      clear hp hsp' hS5
      go_wp2_with fail
      go_loopg [13] js'.length (fun m s13 wx => ∃ i : Nat, i + m = js'.length ∧ s13 = .int .i64 (i : Int) ∧ Drew w5 wx)
      case atStart => exact ⟨0, by omega, rfl, Drew.refl _⟩
      case round =>
        obtain ⟨i, hi, rfl, hd⟩ := hrel
        have hS := HP.out.1.Drew hd
        cases gk with
        | succ m =>
          have hif : (i : Int) < (js'.length : Int) := by omega
          obtain ⟨j, hj⟩ : ∃ j, js'[i]? = some j := ⟨_, List.getElem?_eq_getElem (by omega)⟩
          have hjn := (HSP.out.mem (List.mem_of_getElem? hj)).1
          obtain ⟨u, hu⟩ : ∃ u, us[j]? = some u := ⟨_, List.getElem?_eq_getElem hjn⟩
          obtain ⟨ad1, rfl, hc1⟩ := (HO.out.2.1.rd hS 1 rfl).at (iv_get _ i u.num (by rw [List.getElem?_map, hj]; show some (numU us j) = _; rw [numU_at hu]))
          have hrp := HP.out.2.rd hS 0 rfl
          have hpu : (js'.map (getU us))[i]? = some u := by rw [List.getElem?_map, hj]; show some (getU us j) = _; rw [getU_at hu]
          obtain ⟨ad2, rfl⟩ : ∃ ad, aop = some ad := by
            obtain ⟨ad, e, _⟩ := hrp.at (j := i * 4 + 0) (by rw [uv_get _ i 0 u hpu (by omega)]; rfl)
            exact ⟨ad, e⟩
          have hc2 := (hrp.use hpu).1
          have hne2 : (u.num != u.num) = false := by simp
          have HD := Lib.hid hd
          clear hj hu hpu hrp hS hd
          go_wp2_with (first | ((with_reducible refine wpStill_plain ?_ ?_ (fun _ _ => ?_)); rfl; rfl) | (with_reducible refine wpStill_nil ?_) | ((with_reducible refine wp_draw_all (id := 21) mixed ?_ (fun _ _ => ?_)); kernel_rfl))
          go_roundg m
          case measure => omega
          case rel => exact ⟨i + 1, by omega, by go_num, HD.out.more (Drew.mk _ 1)⟩
        | zero =>
          obtain rfl : i = js'.length := by omega
          have hz : ¬ (js'.length : Int) < (js'.length : Int) := by omega
          have HB := Lib.hid hS.below
          clear hS hd hi
          go_wp2_with fail
          go_ret
          exact ⟨rfl, HB.out⟩
end Go.Proofs.Ytdhnmcdgiddhdab
