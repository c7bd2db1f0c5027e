/-
  The walk of EntropyApart.
-/
import Derived.Test.YtdhnmcdgiddhdaaEntHeld
import Derived.Test.YtdhnmcdgiddhdaaEg11
set_option linter.unusedVariables false
set_option linter.unusedSimpArgs false
namespace Go.Proofs.Ytdhnmcdgiddhdaa
open Go.RowKit
set_option maxRecDepth 100000
set_option maxHeartbeats 2000000 in
theorem EntropyApart_walk (w : World) (v : Value) (bs0 : List UInt8) (h : Rd w 1 v bs0.length (bv bs0)) (sz : bs0.length ≤ 140737488351232) (v2 : Value) (bs2 : List UInt8) (h2 : Rd w 1 v2 bs2.length (bv bs2)) (sz2 : bs2.length ≤ 140737488351232)
    (a : Int) (wf : (Lit.int .i64 a).wf = true) (x : Int) (wx : (Lit.int .u8 x).wf = true) :
    Calls Try.prog 6 #[v, v2, .int .i64 a, .int .u8 x] w fun e w' => e = .returned (.bool true) ∧ Below w.heap.size w w' := by
  obtain ⟨i0, i0a, i0b, i0c, i0d⟩ := info_parts infoU8
  go_enter Try.func6, Try.ntmps6
  go_wp2_with fail
  refine (begun10 _).mono ?_
  rintro e w1 ⟨rfl, hb⟩
  have hS := (St.init w).mono hb
  have hr := h.keep hb
  have hr2 := h2.keep hb
  clear h h2 hb
  go_wp2_with fail
  refine (short_any v bs0 200 w1 hr (by omega)).mono ?_
  rintro e w2 ⟨v', rfl, hr', rfl⟩
  go_wp2_with fail
  refine (short_any v2 bs2 200 w1 hr2 (by omega)).mono ?_
  rintro e w2 ⟨v2', rfl, hr2', rfl⟩
  have hnb : (bs0.take 200).length ≤ 200 := by simp; omega
  have hnb2 : (bs2.take 200).length ≤ 200 := by simp; omega
  generalize bs0.take 200 = b1 at *
  generalize bs2.take 200 = b2 at *
  obtain ⟨ao1, cap1, rfl⟩ := hr'.shape
  obtain ⟨ao2, cap2, rfl⟩ := hr2'.shape
  have HRD := Lib.hid (And.intro hr' (And.intro hr2' hS))
  have hS1 := (St.init w1).one_nil
  have hr0 : RowC 5 1 (.slice none 0 0) 0 [] [] := RowC.nil _ _
  have hrd := HRD.out.1
  clear sz sz2 hr hr2 hr' hr2' hS
  rcases (show b1.length = 0 ∨ (0 < b1.length ∧ a < 0) ∨ (0 < b1.length ∧ 0 ≤ a) by omega) with q | ⟨q, qa⟩ | ⟨q, qa⟩
  case' inl =>
    have q0 : ¬ (0 : Int) < (b1.length : Int) := by omega
    clear q
    go_wp2_with ((at_builtin; (refine wpList_app 0 22 i0 (.int .u8 0) _ _ rfl rfl rfl rfl Try.underlying22 i0a i0b i0c i0d rfl (by decide) hS1 rfl hr0 hrd (bv_one _) ?_ ?_ ?_); (unfold maxLen; omega); omega; intro v3 c3 w3 hr3 hS3); rw [List.nil_append, Nat.zero_add] at hr3; (obtain ⟨ao3, cap3, rfl⟩ := hr3.shape); replace hS3 := hS3.pick [0] (by decide) [c3] rfl; clear hS1 hr0 hrd)
    obtain ⟨cc, hcc, hcl⟩ : ∃ cc : List UInt8, Rd w3 1 (.slice ao3 b1.length cap3) cc.length (bv cc) ∧ cc.length ≤ 200 := ⟨b1, hr3.rd hS3 0 rfl, hnb⟩
    have HX := Lib.hid (And.intro hcc (And.intro hcl hS3.below))
    clear hr3 hS3 hcc hcl
    obtain ⟨wb, hwb⟩ : ∃ wb, wb = w3 := ⟨_, rfl⟩
    rw [← hwb] at HX ⊢
    clear hwb
  case' inr.inl =>
    have q0 : (0 : Int) < (b1.length : Int) := by omega
    go_wp2_with ((at_builtin; (refine wpList_app 0 22 i0 (.int .u8 0) _ _ rfl rfl rfl rfl Try.underlying22 i0a i0b i0c i0d rfl (by decide) hS1 rfl hr0 hrd (bv_one _) ?_ ?_ ?_); (unfold maxLen; omega); omega; intro v3 c3 w3 hr3 hS3); rw [List.nil_append, Nat.zero_add] at hr3; (obtain ⟨ao3, cap3, rfl⟩ := hr3.shape); replace hS3 := hS3.pick [0] (by decide) [c3] rfl; clear hS1 hr0 hrd)
    obtain ⟨cc, hcc, hcl⟩ : ∃ cc : List UInt8, Rd w3 1 (.slice ao3 b1.length cap3) cc.length (bv cc) ∧ cc.length ≤ 200 := ⟨b1, hr3.rd hS3 0 rfl, hnb⟩
    have HX := Lib.hid (And.intro hcc (And.intro hcl hS3.below))
    clear hr3 hS3 hcc hcl
    obtain ⟨wb, hwb⟩ : ∃ wb, wb = w3 := ⟨_, rfl⟩
    rw [← hwb] at HX ⊢
    clear hwb
  case' inr.inr =>
    have q0 : (0 : Int) < (b1.length : Int) := by omega
    obtain ⟨A, rfl⟩ := Int.eq_ofNat_of_zero_le qa
    have hrem := tmodN A b1.length
    have hk := Nat.mod_lt A q
    generalize A % b1.length = k at *
    have hki : (k : Int) < (b1.length : Int) := by omega
    obtain ⟨y, hy⟩ : ∃ y, b1[k]? = some y := ⟨_, List.getElem?_eq_getElem hk⟩
    obtain ⟨z, hz⟩ := xorB (y.toNat : Int) x
    have hzl : (b1.set k z).length = b1.length := List.length_set
    have HK := Lib.hid (And.intro hy hzl)
    clear hy hzl
    go_wp2_with ((at_builtin; (refine wpList_app 0 22 i0 (.int .u8 0) _ _ rfl rfl rfl rfl Try.underlying22 i0a i0b i0c i0d rfl (by decide) hS1 rfl hr0 hrd (bv_one _) ?_ ?_ ?_); (unfold maxLen; omega); omega; intro v3 c3 w3 hr3 hS3); rw [List.nil_append, Nat.zero_add] at hr3; (obtain ⟨ao3, cap3, rfl⟩ := hr3.shape); replace hS3 := hS3.pick [0] (by decide) [c3] rfl; clear hS1 hr0 hrd; (obtain ⟨g, rfl⟩ := hr3.head q); have hc := hr3.cellAt hS3 0 rfl (bv_get b1 k _ HK.out.1); have hf := hr3.freeAt hS3 0 rfl k; have HR3 := Lib.hid (And.intro hr3 hS3); clear hr3 hS3)
    obtain ⟨c3', hr4, hS4⟩ := HR3.out.1.store HR3.out.2 0 rfl rfl k (.int .u8 (z.toNat : Int))
    rw [← bv_set] at hr4
    obtain ⟨cc, hcc, hcl⟩ : ∃ cc : List UInt8, Rd (w3.setCell ⟨g, k, none⟩ (.int .u8 (z.toNat : Int))) 1 (.slice (some ⟨g, 0, none⟩) b1.length cap3) cc.length (bv cc) ∧ cc.length ≤ 200 := ⟨b1.set k z, by rw [HK.out.2]; exact hr4.rd hS4 0 rfl, by rw [HK.out.2]; exact hnb⟩
    have HX := Lib.hid (And.intro hcc (And.intro hcl hS4.below))
    clear hr4 hS4 hcc hcl hc hf HR3
    obtain ⟨wb, hwb⟩ : ∃ wb, wb = w3.setCell ⟨g, k, none⟩ (.int .u8 (z.toNat : Int)) := ⟨_, rfl⟩
    rw [← hwb] at HX ⊢
    clear hwb
    generalize hg : (some (⟨g, 0, none⟩ : Addr)) = ao3 at HX ⊢
    clear hg
  all_goals
    have HBL := Lib.hid (HRD.out.2.2.mono HX.out.2.2).below
    have HA := Lib.hid (HRD.out.1.keep HX.out.2.2)
    have HB := Lib.hid (HRD.out.2.1.keep HX.out.2.2)
    have HC := Lib.hid HX.out.1
    have HE := Lib.hid HX.out.1
    have hcl := HX.out.2.1
    refine wp_region_held_drew (S := fun w' => Below wb.heap.size wb w') mixed (Below.refl _ _).drew (fun hSS => ?_)
    refine take_d (i := 0) 37 (.slice ao1 b1.length cap1) rfl rfl (by kernel_rfl) (by kernel_rfl) (by kernel_rfl) (fun _ _ _ h => h) (Or.inl ⟨by rfl, ?_⟩) hSS ?_
    (focus (intro w' hw'; first | (go_simp; done) | (go_simp; simp [hab]; done) | (go_simp; simp [hab2]; done)))
    simp only [Act.put, List.setIfInBounds_toArray, List.set_cons_zero, List.set_cons_succ]
    refine take_d (i := 3) 40 (.slice ao2 b2.length cap2) rfl rfl (by kernel_rfl) (by kernel_rfl) (by kernel_rfl) (fun _ _ _ h => h) (Or.inl ⟨by rfl, ?_⟩) hSS ?_
    (focus (intro w' hw'; first | (go_simp; done) | (go_simp; simp [hab]; done) | (go_simp; simp [hab2]; done)))
    simp only [Act.put, List.setIfInBounds_toArray, List.set_cons_zero, List.set_cons_succ]
    refine take_d (i := 7) 44 (.slice ao1 b1.length cap1) rfl rfl (by kernel_rfl) (by kernel_rfl) (by kernel_rfl) (fun _ _ _ h => h) (Or.inl ⟨by rfl, ?_⟩) hSS ?_
    (focus (intro w' hw'; first | (go_simp; done) | (go_simp; simp [hab]; done) | (go_simp; simp [hab2]; done)))
    simp only [Act.put, List.setIfInBounds_toArray, List.set_cons_zero, List.set_cons_succ]
    refine take_d (i := 8) 45 (.string ⟨b1.toArray⟩) rfl rfl (by kernel_rfl) (by kernel_rfl) (by kernel_rfl) (fun _ _ _ h => h) (Or.inl ⟨by rfl, ?_⟩) hSS ?_
    (focus (intro w' hw'; have k1 := conv_str (HA.out.keep hw'); have k2 := conv_str (HB.out.keep hw'); have k3 := conv_str (HC.out.keep hw'); have k4 := conv_str (HE.out.keep hw'); first | (go_simp; done) | (go_simp; simp [hab]; done)))
    simp only [Act.put, List.setIfInBounds_toArray, List.set_cons_zero, List.set_cons_succ]
    refine take_d (i := 9) 46 (.slice ao2 b2.length cap2) rfl rfl (by kernel_rfl) (by kernel_rfl) (by kernel_rfl) (fun _ _ _ h => h) (Or.inl ⟨by rfl, ?_⟩) hSS ?_
    (focus (intro w' hw'; first | (go_simp; done) | (go_simp; simp [hab]; done) | (go_simp; simp [hab2]; done)))
    simp only [Act.put, List.setIfInBounds_toArray, List.set_cons_zero, List.set_cons_succ]
    refine take_d (i := 10) 47 (.string ⟨b2.toArray⟩) rfl rfl (by kernel_rfl) (by kernel_rfl) (by kernel_rfl) (fun _ _ _ h => h) (Or.inl ⟨by rfl, ?_⟩) hSS ?_
    (focus (intro w' hw'; have k1 := conv_str (HA.out.keep hw'); have k2 := conv_str (HB.out.keep hw'); have k3 := conv_str (HC.out.keep hw'); have k4 := conv_str (HE.out.keep hw'); first | (go_simp; done) | (go_simp; simp [hab]; done)))
    simp only [Act.put, List.setIfInBounds_toArray, List.set_cons_zero, List.set_cons_succ]
    refine take_d (i := 11) 48 (.bool (b1 == b2)) rfl rfl (by kernel_rfl) (by kernel_rfl) (by kernel_rfl) (fun _ _ _ h => h) (Or.inl ⟨by rfl, ?_⟩) hSS ?_
    (focus (intro w' hw'; first | (go_simp; done) | (go_simp; simp [hab]; done) | (go_simp; simp [hab2]; done)))
    simp only [Act.put, List.setIfInBounds_toArray, List.set_cons_zero, List.set_cons_succ]
    refine wpAnyH_ready (rs := [1]) (by kernel_rfl) (by simp) (AllReadyH.cons rfl (fun K1 hK1 => ?_) AllReadyH.nil)
    (rw [if_pos (by rfl)]; go_simp; (refine (entenc_any (.slice ao1 b1.length cap1) b1 _ (HA.out.keep hSS) (by omega)).mono ?_); rintro e w' ⟨o1, vr, cx, rfl, hrx, he1, hSx⟩; (obtain ⟨aox, capx, rfl⟩ := hrx.shape); have hbT := hSS.trans (hSx.below.mono hSS.size); refine hK1.out _ _ hbT (fun _ => ?_); (refine wpAnyH_more (S' := fun wz => Below w'.heap.size w' wz) (fun wz hz => hbT.trans (hz.mono hbT.size)) _ _ _ _ ?_); have HBL := Lib.hid (HBL.out.trans (hbT.mono HBL.out.size)); have HA := Lib.hid (HA.out.keep hbT); have HB := Lib.hid (HB.out.keep hbT); have HC := Lib.hid (HC.out.keep hbT); have HE := Lib.hid (hrx.rd hSx 0 rfl); have hSS := Below.refl w'.heap.size w'; clear hrx hSx hbT; try simp only [Act.put, List.setIfInBounds_toArray, List.set_cons_zero, List.set_cons_succ])
    refine take_d (i := 2) 39 (.string ⟨o1.toArray⟩) rfl rfl (by kernel_rfl) (by kernel_rfl) (by kernel_rfl) (fun _ _ _ h => h) (Or.inl ⟨by rfl, ?_⟩) hSS ?_
    (focus (intro w' hw'; have k1 := conv_str (HA.out.keep hw'); have k2 := conv_str (HB.out.keep hw'); have k3 := conv_str (HC.out.keep hw'); have k4 := conv_str (HE.out.keep hw'); first | (go_simp; done) | (go_simp; simp [hab]; done)))
    simp only [Act.put, List.setIfInBounds_toArray, List.set_cons_zero, List.set_cons_succ]
    refine wpAnyH_ready (rs := [4]) (by kernel_rfl) (by simp) (AllReadyH.cons rfl (fun K2 hK2 => ?_) AllReadyH.nil)
    (rw [if_pos (by rfl)]; go_simp; (refine (entenc_any (.slice ao2 b2.length cap2) b2 _ (HB.out.keep hSS) (by omega)).mono ?_); rintro e w' ⟨o2, vr, cx, rfl, hrx, he2, hSx⟩; (obtain ⟨aox, capx, rfl⟩ := hrx.shape); have hbT := hSS.trans (hSx.below.mono hSS.size); refine hK2.out _ _ hbT (fun _ => ?_); (refine wpAnyH_more (S' := fun wz => Below w'.heap.size w' wz) (fun wz hz => hbT.trans (hz.mono hbT.size)) _ _ _ _ ?_); have HBL := Lib.hid (HBL.out.trans (hbT.mono HBL.out.size)); have HA := Lib.hid (HA.out.keep hbT); have HB := Lib.hid (HB.out.keep hbT); have HC := Lib.hid (HC.out.keep hbT); have HE := Lib.hid (hrx.rd hSx 0 rfl); have hSS := Below.refl w'.heap.size w'; clear hrx hSx hbT; try simp only [Act.put, List.setIfInBounds_toArray, List.set_cons_zero, List.set_cons_succ])
    refine take_d (i := 5) 42 (.string ⟨o2.toArray⟩) rfl rfl (by kernel_rfl) (by kernel_rfl) (by kernel_rfl) (fun _ _ _ h => h) (Or.inl ⟨by rfl, ?_⟩) hSS ?_
    (focus (intro w' hw'; have k1 := conv_str (HA.out.keep hw'); have k2 := conv_str (HB.out.keep hw'); have k3 := conv_str (HC.out.keep hw'); have k4 := conv_str (HE.out.keep hw'); first | (go_simp; done) | (go_simp; simp [hab]; done)))
    simp only [Act.put, List.setIfInBounds_toArray, List.set_cons_zero, List.set_cons_succ]
    have hab := code_same he1 he2 (by omega) (by omega)
    refine take_d (i := 6) 43 (.bool (o1 == o2)) rfl rfl (by kernel_rfl) (by kernel_rfl) (by kernel_rfl) (fun _ _ _ h => h) (Or.inl ⟨by rfl, ?_⟩) hSS ?_
    (focus (intro w' hw'; first | (go_simp; done) | (go_simp; simp [hab]; done) | (go_simp; simp [hab2]; done)))
    simp only [Act.put, List.setIfInBounds_toArray, List.set_cons_zero, List.set_cons_succ]
    refine take_d (i := 12) 49 (.bool true) rfl rfl (by kernel_rfl) (by kernel_rfl) (by kernel_rfl) (fun _ _ _ h => h) (Or.inl ⟨by rfl, ?_⟩) hSS ?_
    (focus (intro w' hw'; first | (go_simp; done) | (go_simp; simp [hab]; done) | (go_simp; simp [hab2]; done)))
    simp only [Act.put, List.setIfInBounds_toArray, List.set_cons_zero, List.set_cons_succ]
    refine take_d (i := 13) 50 (.bool true) rfl rfl (by kernel_rfl) (by kernel_rfl) (by kernel_rfl) (fun _ _ _ h => h) (Or.inl ⟨by rfl, ?_⟩) hSS ?_
    (focus (intro w' hw'; first | (go_simp; done) | (go_simp; simp [hab]; done) | (go_simp; simp [hab2]; done)))
    simp only [Act.put, List.setIfInBounds_toArray, List.set_cons_zero, List.set_cons_succ]
    refine take_d (i := 14) 51 (.slice ao1 b1.length cap1) rfl rfl (by kernel_rfl) (by kernel_rfl) (by kernel_rfl) (fun _ _ _ h => h) (Or.inl ⟨by rfl, ?_⟩) hSS ?_
    (focus (intro w' hw'; first | (go_simp; done) | (go_simp; simp [hab]; done) | (go_simp; simp [hab2]; done)))
    simp only [Act.put, List.setIfInBounds_toArray, List.set_cons_zero, List.set_cons_succ]
    refine take_d (i := 17) 54 (.slice ao3 b1.length cap3) rfl rfl (by kernel_rfl) (by kernel_rfl) (by kernel_rfl) (fun _ _ _ h => h) (Or.inl ⟨by rfl, ?_⟩) hSS ?_
    (focus (intro w' hw'; first | (go_simp; done) | (go_simp; simp [hab]; done) | (go_simp; simp [hab2]; done)))
    simp only [Act.put, List.setIfInBounds_toArray, List.set_cons_zero, List.set_cons_succ]
    refine take_d (i := 21) 58 (.slice ao1 b1.length cap1) rfl rfl (by kernel_rfl) (by kernel_rfl) (by kernel_rfl) (fun _ _ _ h => h) (Or.inl ⟨by rfl, ?_⟩) hSS ?_
    (focus (intro w' hw'; first | (go_simp; done) | (go_simp; simp [hab]; done) | (go_simp; simp [hab2]; done)))
    simp only [Act.put, List.setIfInBounds_toArray, List.set_cons_zero, List.set_cons_succ]
    refine take_d (i := 22) 59 (.string ⟨b1.toArray⟩) rfl rfl (by kernel_rfl) (by kernel_rfl) (by kernel_rfl) (fun _ _ _ h => h) (Or.inl ⟨by rfl, ?_⟩) hSS ?_
    (focus (intro w' hw'; have k1 := conv_str (HA.out.keep hw'); have k2 := conv_str (HB.out.keep hw'); have k3 := conv_str (HC.out.keep hw'); have k4 := conv_str (HE.out.keep hw'); first | (go_simp; done) | (go_simp; simp [hab]; done)))
    simp only [Act.put, List.setIfInBounds_toArray, List.set_cons_zero, List.set_cons_succ]
    refine take_d (i := 23) 60 (.slice ao3 b1.length cap3) rfl rfl (by kernel_rfl) (by kernel_rfl) (by kernel_rfl) (fun _ _ _ h => h) (Or.inl ⟨by rfl, ?_⟩) hSS ?_
    (focus (intro w' hw'; first | (go_simp; done) | (go_simp; simp [hab]; done) | (go_simp; simp [hab2]; done)))
    simp only [Act.put, List.setIfInBounds_toArray, List.set_cons_zero, List.set_cons_succ]
    refine take_d (i := 24) 61 (.string ⟨cc.toArray⟩) rfl rfl (by kernel_rfl) (by kernel_rfl) (by kernel_rfl) (fun _ _ _ h => h) (Or.inl ⟨by rfl, ?_⟩) hSS ?_
    (focus (intro w' hw'; have k1 := conv_str (HA.out.keep hw'); have k2 := conv_str (HB.out.keep hw'); have k3 := conv_str (HC.out.keep hw'); have k4 := conv_str (HE.out.keep hw'); first | (go_simp; done) | (go_simp; simp [hab]; done)))
    simp only [Act.put, List.setIfInBounds_toArray, List.set_cons_zero, List.set_cons_succ]
    refine take_d (i := 25) 62 (.bool (b1 == cc)) rfl rfl (by kernel_rfl) (by kernel_rfl) (by kernel_rfl) (fun _ _ _ h => h) (Or.inl ⟨by rfl, ?_⟩) hSS ?_
    (focus (intro w' hw'; first | (go_simp; done) | (go_simp; simp [hab]; done) | (go_simp; simp [hab2]; done)))
    simp only [Act.put, List.setIfInBounds_toArray, List.set_cons_zero, List.set_cons_succ]
    refine wpAnyH_ready (rs := [15]) (by kernel_rfl) (by simp) (AllReadyH.cons rfl (fun K3 hK3 => ?_) AllReadyH.nil)
    (rw [if_pos (by rfl)]; go_simp; (refine (entenc_any (.slice ao1 b1.length cap1) b1 _ (HA.out.keep hSS) (by omega)).mono ?_); rintro e w' ⟨o3, vr, cx, rfl, hrx, he3, hSx⟩; (obtain ⟨aox, capx, rfl⟩ := hrx.shape); have hbT := hSS.trans (hSx.below.mono hSS.size); refine hK3.out _ _ hbT (fun _ => ?_); (refine wpAnyH_more (S' := fun wz => Below w'.heap.size w' wz) (fun wz hz => hbT.trans (hz.mono hbT.size)) _ _ _ _ ?_); have HBL := Lib.hid (HBL.out.trans (hbT.mono HBL.out.size)); have HA := Lib.hid (HA.out.keep hbT); have HB := Lib.hid (HB.out.keep hbT); have HC := Lib.hid (HC.out.keep hbT); have HE := Lib.hid (hrx.rd hSx 0 rfl); have hSS := Below.refl w'.heap.size w'; clear hrx hSx hbT; try simp only [Act.put, List.setIfInBounds_toArray, List.set_cons_zero, List.set_cons_succ])
    refine take_d (i := 16) 53 (.string ⟨o3.toArray⟩) rfl rfl (by kernel_rfl) (by kernel_rfl) (by kernel_rfl) (fun _ _ _ h => h) (Or.inl ⟨by rfl, ?_⟩) hSS ?_
    (focus (intro w' hw'; have k1 := conv_str (HA.out.keep hw'); have k2 := conv_str (HB.out.keep hw'); have k3 := conv_str (HC.out.keep hw'); have k4 := conv_str (HE.out.keep hw'); first | (go_simp; done) | (go_simp; simp [hab]; done)))
    simp only [Act.put, List.setIfInBounds_toArray, List.set_cons_zero, List.set_cons_succ]
    refine wpAnyH_ready (rs := [18]) (by kernel_rfl) (by simp) (AllReadyH.cons rfl (fun K4 hK4 => ?_) AllReadyH.nil)
    (rw [if_pos (by rfl)]; go_simp; (refine (entenc_any (.slice ao3 b1.length cap3) cc _ (HC.out.keep hSS) (by omega)).mono ?_); rintro e w' ⟨o4, vr, cx, rfl, hrx, he4, hSx⟩; (obtain ⟨aox, capx, rfl⟩ := hrx.shape); have hbT := hSS.trans (hSx.below.mono hSS.size); refine hK4.out _ _ hbT (fun _ => ?_); (refine wpAnyH_more (S' := fun wz => Below w'.heap.size w' wz) (fun wz hz => hbT.trans (hz.mono hbT.size)) _ _ _ _ ?_); have HBL := Lib.hid (HBL.out.trans (hbT.mono HBL.out.size)); have HA := Lib.hid (HA.out.keep hbT); have HB := Lib.hid (HB.out.keep hbT); have HC := Lib.hid (HC.out.keep hbT); have HE := Lib.hid (hrx.rd hSx 0 rfl); have hSS := Below.refl w'.heap.size w'; clear hrx hSx hbT; try simp only [Act.put, List.setIfInBounds_toArray, List.set_cons_zero, List.set_cons_succ])
    refine take_d (i := 19) 56 (.string ⟨o4.toArray⟩) rfl rfl (by kernel_rfl) (by kernel_rfl) (by kernel_rfl) (fun _ _ _ h => h) (Or.inl ⟨by rfl, ?_⟩) hSS ?_
    (focus (intro w' hw'; have k1 := conv_str (HA.out.keep hw'); have k2 := conv_str (HB.out.keep hw'); have k3 := conv_str (HC.out.keep hw'); have k4 := conv_str (HE.out.keep hw'); first | (go_simp; done) | (go_simp; simp [hab]; done)))
    simp only [Act.put, List.setIfInBounds_toArray, List.set_cons_zero, List.set_cons_succ]
    have hab2 := code_same he3 he4 (by omega) (by omega)
    refine take_d (i := 20) 57 (.bool (o3 == o4)) rfl rfl (by kernel_rfl) (by kernel_rfl) (by kernel_rfl) (fun _ _ _ h => h) (Or.inl ⟨by rfl, ?_⟩) hSS ?_
    (focus (intro w' hw'; first | (go_simp; done) | (go_simp; simp [hab]; done) | (go_simp; simp [hab2]; done)))
    simp only [Act.put, List.setIfInBounds_toArray, List.set_cons_zero, List.set_cons_succ]
    refine take_d (i := 26) 63 (.bool true) rfl rfl (by kernel_rfl) (by kernel_rfl) (by kernel_rfl) (fun _ _ _ h => h) (Or.inl ⟨by rfl, ?_⟩) hSS ?_
    (focus (intro w' hw'; first | (go_simp; done) | (go_simp; simp [hab]; done) | (go_simp; simp [hab2]; done)))
    simp only [Act.put, List.setIfInBounds_toArray, List.set_cons_zero, List.set_cons_succ]
    refine take_d (i := 27) 64 (.bool true) rfl rfl (by kernel_rfl) (by kernel_rfl) (by kernel_rfl) (fun _ _ _ h => h) (Or.inl ⟨by rfl, ?_⟩) hSS ?_
    (focus (intro w' hw'; first | (go_simp; done) | (go_simp; simp [hab]; done) | (go_simp; simp [hab2]; done)))
    simp only [Act.put, List.setIfInBounds_toArray, List.set_cons_zero, List.set_cons_succ]
    refine wpAnyH_ready (rs := [28]) (by kernel_rfl) (by simp) (AllReadyH.cons rfl (fun K5 hK5 => ?_) AllReadyH.nil)
    rw [if_pos (by rfl)]
    go_simp
    refine hK5.out _ _ hSS (fun _ => ?_)
    refine wpAnyH_done (by kernel_rfl) ?_ _
    go_wp2_with fail
    go_ret
    exact ⟨rfl, HBL.out⟩
end Go.Proofs.Ytdhnmcdgiddhdaa
