/-
  The walk of SealedTwins.
-/
import Derived.Test.YthgbkncanoknkaaPureTw
import Derived.Test.YthgbkncanoknkaaSegAlike
import Derived.Deep.RegionHeld
set_option linter.unusedVariables false
set_option linter.unusedSimpArgs false
namespace Go.Proofs.Ythgbkncanoknkaa
open Go.RowKit
set_option maxRecDepth 100000
theorem rcs_takeT {k : Nat} {os : List Rec} (h : k ≤ os.length) : (rcs os).take (k * 4) = rcs (os.take k) := by
  have h1 : rcs os = rcs (os.take k) ++ rcs (os.drop k) := by rw [← rcs_append, List.take_append_drop]
  have h2 : (rcs (os.take k)).length = k * 4 := by rw [rcs_len, List.length_take]; congr 1; omega
  rw [h1, ← h2, List.take_left]
theorem take_snocP {p : Rec → Prop} {l : List Rec} {i : Nat} {r : Rec} (h : ∀ x ∈ l.take i, p x) (hr : l[i]? = some r) (hp : p r) : ∀ x ∈ l.take (i + 1), p x := by
  intro x hx
  rw [List.take_add_one, hr] at hx
  rcases List.mem_append.1 hx with hx | hx
  · exact h x hx
  · simp at hx; rw [hx]; exact hp
theorem take_overP {p : Rec → Prop} {l : List Rec} {i : Nat} (h : ∀ x ∈ l.take i, p x) (hl : l.length ≤ i) : ∀ x ∈ l.take (i + 1), p x := by
  rw [List.take_of_length_le (by omega)]
  rwa [List.take_of_length_le (by omega)] at h
set_option maxHeartbeats 8000000 in
theorem SealedTwins_walk (w : World) (v : Value) (n1 : Nat) (os : List Rec) (h : Rd w 4 v n1 (rcs os) ∧ os.length = n1 ∧ ∀ o ∈ os, WfR o) (sz : n1 * 48 ≤ 140737488351232)
    (v2 : Value) (n2 : Nat) (os2 : List Rec) (h2 : Rd w 4 v2 n2 (rcs os2) ∧ os2.length = n2 ∧ ∀ o ∈ os2, WfR o) (sz2 : n2 * 48 ≤ 140737488351232) :
    Calls Try.prog 5 #[v, v2] w fun e w' => e = .returned (.bool true) ∧ Below w.heap.size w w' := by
  obtain ⟨i0, i0a, i0b, i0c, i0d⟩ := info_parts infoRC
  obtain ⟨hrd, hn1, hwf⟩ := h
  obtain ⟨hrd2, hn2, hwf2⟩ := h2
  go_enter Try.func5, Try.ntmps5
  go_wp2_with fail
  refine (begun16_any _).mono ?_
  rintro e w1 ⟨rfl, hb⟩
  have hr := hrd.keep hb
  have hr2 := hrd2.keep hb
  have HB := Lib.hid hb
  clear hrd hrd2 hb
  obtain ⟨ao, cap, rfl⟩ := hr.shape
  obtain ⟨ao2, cap2, rfl⟩ := hr2.shape
  obtain ⟨hcp1, hcp2⟩ := hr.cap
  obtain ⟨hcq1, hcq2⟩ := hr2.cap
  have HL := Lib.hid (And.intro hr hn1)
  have HL2 := Lib.hid (And.intro hr2 hn2)
  have hm1 : (n1 : Int) ≤ 2932031007402 := by omega
  have hm2 : (n2 : Int) ≤ 2932031007402 := by omega
  obtain ⟨M, HM⟩ : ∃ M, Hid (n1 ≤ M ∧ n2 ≤ M ∧ (M = n1 ∨ M = n2)) := ⟨max n1 n2, Lib.hid (by omega)⟩
  clear hr hr2 hwf hwf2 sz sz2 hn1 hn2
  go_wp2_with fail
  go_loopg [6] M (fun m s6 wr => ∃ i : Nat, i + m = M ∧ s6 = .int .i64 (i : Int) ∧ Hid (∀ r ∈ os.take i, r.val.length ≤ 500) ∧ Hid (∀ r ∈ os2.take i, r.val.length ≤ 500) ∧ wr = w1)
  case atStart => exact ⟨0, by omega, rfl, Lib.hid (by simp), Lib.hid (by simp), rfl⟩
  case round =>
    obtain ⟨i, hi, rfl, HV, HV2, rfl⟩ := hrel
    cases gk with
    | zero =>
      have z1 : ¬ (i : Int) < (n1 : Int) := by have := HM.out; omega
      have z2 : ¬ (i : Int) < (n2 : Int) := by have := HM.out; omega
      have HVA : Hid (∀ r ∈ os, r.val.length ≤ 500) := Lib.hid (by have := HV.out; rwa [List.take_of_length_le (by have := HM.out; have := HL.out.2; omega)] at this)
      have HVB : Hid (∀ r ∈ os2, r.val.length ≤ 500) := Lib.hid (by have := HV2.out; rwa [List.take_of_length_le (by have := HM.out; have := HL2.out.2; omega)] at this)
      clear hi HV HV2
      by_cases qa : 12 < n1
      · have qai : (12 : Int) < (n1 : Int) := by omega
        have qac : (12 : Int) ≤ (cap : Int) := by omega
        obtain ⟨a, HA⟩ : ∃ a : List Rec, Hid (Rd wr 4 (.slice ao 12 cap) 12 (rcs a) ∧ a.length = 12 ∧ a.length ≤ 12 ∧ (valsP a).length ≤ 100000) := ⟨os.take 12, Lib.hid (by
          have h1 := (HL.out.1).take 12 (by omega)
          rw [rcs_takeT (by have := HL.out.2; omega)] at h1
          have h2 : (os.take 12).length = 12 := by rw [List.length_take]; have := HL.out.2; omega
          have h3 := vals_small (l := os.take 12) (k := 500) fun r hr => HVA.out r (List.mem_of_mem_take hr)
          exact ⟨h1, h2, by omega, by omega⟩)⟩
        by_cases qb : 12 < n2
        · have qbi : (12 : Int) < (n2 : Int) := by omega
          have qbc : (12 : Int) ≤ (cap2 : Int) := by omega
          obtain ⟨b, HBB⟩ : ∃ a : List Rec, Hid (Rd wr 4 (.slice ao2 12 cap2) 12 (rcs a) ∧ a.length = 12 ∧ a.length ≤ 12 ∧ (valsP a).length ≤ 100000) := ⟨os2.take 12, Lib.hid (by
            have h1 := (HL2.out.1).take 12 (by omega)
            rw [rcs_takeT (by have := HL2.out.2; omega)] at h1
            have h2 : (os2.take 12).length = 12 := by rw [List.length_take]; have := HL2.out.2; omega
            have h3 := vals_small (l := os2.take 12) (k := 500) fun r hr => HVB.out r (List.mem_of_mem_take hr)
            exact ⟨h1, h2, by omega, by omega⟩)⟩
          skip
          clear qa qb
          go_wp2_with fail
          refine (build_any _ a wr (by have := HA.out.1; rwa [← HA.out.2.1] at this ⊢) (by have := HA.out; omega) HA.out.2.2.2).mono ?_
          rintro e w2 hbo
          obtain ⟨f1, y1, u1, c1, rfl, hr1, hS1, HF1⟩ := hbo.form
          obtain ⟨ay1, cy1, rfl⟩ := hr1.shape
          have H1 := Lib.hid (And.intro hr1 hS1)
          have HB2 := Lib.hid (HBB.out.1.keep hS1.below)
          clear hr1 hS1 hbo
          go_wp2_with fail
          refine (build_any _ b w2 (by have := HB2.out; rwa [← HBB.out.2.1] at this ⊢) (by have := HBB.out; omega) HBB.out.2.2.2).mono ?_
          rintro e w3 hbo
          obtain ⟨f2, y2, u2, c2, rfl, hr2, hS2, HF2⟩ := hbo.form
          obtain ⟨ay2, cy2, rfl⟩ := hr2.shape
          have H2 := Lib.hid (And.intro hr2 (H1.out.2.join hS2))
          have hS3 := (St.init w3).one_nil
          have hr0 : RowC 26 4 (.slice none 0 0) 0 [] [] := RowC.nil _ _
          have hrd := HB2.out.keep hS2.below
          have hrd := HA.out.1.keep H2.out.2.below
          have HR0 := Lib.hid (rcs_one a)
          clear hr2 hS2 hbo
          go_wp2_with ((at_builtin; (refine wpList_app 0 22 i0 (.agg #[.int .i64 0, .int .i64 0, .string ⟨#[]⟩, .string ⟨#[]⟩]) _ _ rfl rfl rfl rfl Try.underlying22 i0a i0b i0c i0d rfl (by decide) hS3 rfl hr0 hrd HR0.out ?_ ?_ ?_); (unfold maxLen; omega); omega; intro v5 c5 w5 hr5 hS5); rw [List.nil_append, Nat.zero_add] at hr5; (obtain ⟨ao5, cap5, rfl⟩ := hr5.shape); have H5 := Lib.hid (And.intro (hr5.rd hS5 0 rfl) hS5.below); clear hr5 hS5 hS3 hr0 hrd)
          refine (build_any _ a w5 (by have := H5.out.1; rwa [← HA.out.2.1] at this ⊢) (by have := HA.out; omega) HA.out.2.2.2).mono ?_
          rintro e w6 hbo
          obtain ⟨f3, y3, u3, c3, rfl, hr3, hS3, HF3⟩ := hbo.form
          obtain ⟨ay3, cy3, rfl⟩ := hr3.shape
          obtain rfl : f1 = f3 := by rw [HF1.out.1, HF3.out.1]
          have H6 := Lib.hid (And.intro hr3 ((H2.out.2.mono H5.out.2).join hS3))
          have HBL := Lib.hid (HB.out.trans (H6.out.2.below.mono HB.out.size))
          clear hr3 hS3 hbo
          by_cases qf : f1 = f2
          · have qe1 : ((f1 : Int) != (f2 : Int)) = false := by rw [qf]; simp
            by_cases q0 : f1 = 0
            · have qe2 : ((f1 : Int) != 0) = false := by rw [q0]; rfl
              have HYY : Hid (y1 = y3 ∧ (y1 == y2) = decide (a = b)) := Lib.hid (by
                have s1 := HF1.out.2 q0
                have s2 := HF2.out.2 (by omega)
                have s3 := HF3.out.2 q0
                have o1 : ∀ r ∈ a, OkR r := faultR_zero.1 (by rw [← HF1.out.1, q0])
                have o2 : ∀ r ∈ b, OkR r := faultR_zero.1 (by rw [← HF2.out.1, ← qf, q0])
                refine ⟨s1.one s3, ?_⟩
                by_cases e : a = b
                · subst e
                  rw [s1.one s2]
                  simp
                · rw [decide_eq_false e, beq_eq_false_iff_ne]
                  intro e2
                  rw [e2] at s1
                  exact e (s1.same s2 o1 o2 (by have := HA.out; omega) (by have := HBB.out; omega) HA.out.2.2.2 HBB.out.2.2.2))
              obtain ⟨bq, HQ⟩ : ∃ bq, Hid (bq = decide (a = b)) := ⟨_, Lib.hid rfl⟩
              obtain ⟨rfl, hab⟩ := HYY.out
              rw [← HQ.out] at hab
              have HAL := Lib.hid (And.intro HA.out.2 HBB.out.2)
              have HAA := Lib.hid (HA.out.1.keep H6.out.2.below)
              have HAB := Lib.hid (HBB.out.1.keep H6.out.2.below)
              have HA := Lib.hid (H6.out.1.rd H6.out.2 0 rfl)
              have HB := Lib.hid (H2.out.1.rd H6.out.2 1 rfl)
              have HC := Lib.hid ((H1.out.1).rd H6.out.2 2 rfl)
              have HE := HC
              clear qf q0 HYY
              go_wp2_with fail
              refine wp_region_held_drew (S := fun w' => Below w6.heap.size w6 w') mixed (Below.refl _ _).drew (fun hSS => ?_)
              refine take_d (i := 0) 92 (.slice ay1 y1.length cy1) rfl rfl (by kernel_rfl) (by kernel_rfl) (by kernel_rfl) (fun _ _ _ h => h) (Or.inl ⟨by rfl, ?_⟩) hSS ?_
              (focus (intro w' hw'; first | (go_simp; done) | (go_simp; simp [hab]; done) | (go_simp; simp [hab2]; done)))
              simp only [Act.put, List.setIfInBounds_toArray, List.set_cons_zero, List.set_cons_succ]
              refine take_d (i := 2) 94 (.slice ay3 y1.length cy3) rfl rfl (by kernel_rfl) (by kernel_rfl) (by kernel_rfl) (fun _ _ _ h => h) (Or.inl ⟨by rfl, ?_⟩) hSS ?_
              (focus (intro w' hw'; first | (go_simp; done) | (go_simp; simp [hab]; done) | (go_simp; simp [hab2]; done)))
              simp only [Act.put, List.setIfInBounds_toArray, List.set_cons_zero, List.set_cons_succ]
              refine take_d (i := 1) 93 (.string ⟨y1.toArray⟩) rfl rfl (by kernel_rfl) (by kernel_rfl) (by kernel_rfl) (fun _ _ _ h => h) (Or.inl ⟨by rfl, ?_⟩) hSS ?_
              (focus (intro w' hw'; have k1 := conv_str (HA.out.keep hw'); have k2 := conv_str (HB.out.keep hw'); have k3 := conv_str (HC.out.keep hw'); have k4 := conv_str (HE.out.keep hw'); first | (go_simp; done) | (go_simp; simp [hab]; done)))
              simp only [Act.put, List.setIfInBounds_toArray, List.set_cons_zero, List.set_cons_succ]
              refine take_d (i := 3) 95 (.string ⟨y1.toArray⟩) rfl rfl (by kernel_rfl) (by kernel_rfl) (by kernel_rfl) (fun _ _ _ h => h) (Or.inl ⟨by rfl, ?_⟩) hSS ?_
              (focus (intro w' hw'; have k1 := conv_str (HA.out.keep hw'); have k2 := conv_str (HB.out.keep hw'); have k3 := conv_str (HC.out.keep hw'); have k4 := conv_str (HE.out.keep hw'); first | (go_simp; done) | (go_simp; simp [hab]; done)))
              simp only [Act.put, List.setIfInBounds_toArray, List.set_cons_zero, List.set_cons_succ]
              refine take_d (i := 4) 96 (.bool true) rfl rfl (by kernel_rfl) (by kernel_rfl) (by kernel_rfl) (fun _ _ _ h => h) (Or.inl ⟨by rfl, ?_⟩) hSS ?_
              (focus (intro w' hw'; first | (go_simp; done) | (go_simp; simp [hab]; done) | (go_simp; simp [hab2]; done)))
              simp only [Act.put, List.setIfInBounds_toArray, List.set_cons_zero, List.set_cons_succ]
              refine take_d (i := 5) 97 (.bool true) rfl rfl (by kernel_rfl) (by kernel_rfl) (by kernel_rfl) (fun _ _ _ h => h) (Or.inl ⟨by rfl, ?_⟩) hSS ?_
              (focus (intro w' hw'; first | (go_simp; done) | (go_simp; simp [hab]; done) | (go_simp; simp [hab2]; done)))
              simp only [Act.put, List.setIfInBounds_toArray, List.set_cons_zero, List.set_cons_succ]
              refine take_d (i := 6) 98 (.slice ay1 y1.length cy1) rfl rfl (by kernel_rfl) (by kernel_rfl) (by kernel_rfl) (fun _ _ _ h => h) (Or.inl ⟨by rfl, ?_⟩) hSS ?_
              (focus (intro w' hw'; first | (go_simp; done) | (go_simp; simp [hab]; done) | (go_simp; simp [hab2]; done)))
              simp only [Act.put, List.setIfInBounds_toArray, List.set_cons_zero, List.set_cons_succ]
              refine take_d (i := 8) 100 (.slice ay2 y2.length cy2) rfl rfl (by kernel_rfl) (by kernel_rfl) (by kernel_rfl) (fun _ _ _ h => h) (Or.inl ⟨by rfl, ?_⟩) hSS ?_
              (focus (intro w' hw'; first | (go_simp; done) | (go_simp; simp [hab]; done) | (go_simp; simp [hab2]; done)))
              simp only [Act.put, List.setIfInBounds_toArray, List.set_cons_zero, List.set_cons_succ]
              refine take_d (i := 7) 99 (.string ⟨y1.toArray⟩) rfl rfl (by kernel_rfl) (by kernel_rfl) (by kernel_rfl) (fun _ _ _ h => h) (Or.inl ⟨by rfl, ?_⟩) hSS ?_
              (focus (intro w' hw'; have k1 := conv_str (HA.out.keep hw'); have k2 := conv_str (HB.out.keep hw'); have k3 := conv_str (HC.out.keep hw'); have k4 := conv_str (HE.out.keep hw'); first | (go_simp; done) | (go_simp; simp [hab]; done)))
              simp only [Act.put, List.setIfInBounds_toArray, List.set_cons_zero, List.set_cons_succ]
              refine take_d (i := 9) 101 (.string ⟨y2.toArray⟩) rfl rfl (by kernel_rfl) (by kernel_rfl) (by kernel_rfl) (fun _ _ _ h => h) (Or.inl ⟨by rfl, ?_⟩) hSS ?_
              (focus (intro w' hw'; have k1 := conv_str (HA.out.keep hw'); have k2 := conv_str (HB.out.keep hw'); have k3 := conv_str (HC.out.keep hw'); have k4 := conv_str (HE.out.keep hw'); first | (go_simp; done) | (go_simp; simp [hab]; done)))
              simp only [Act.put, List.setIfInBounds_toArray, List.set_cons_zero, List.set_cons_succ]
              refine take_d (i := 10) 102 (.bool bq) rfl rfl (by kernel_rfl) (by kernel_rfl) (by kernel_rfl) (fun _ _ _ h => h) (Or.inl ⟨by rfl, ?_⟩) hSS ?_
              (focus (intro w' hw'; first | (go_simp; done) | (go_simp; simp [hab]; done) | (go_simp; simp [hab2]; done)))
              simp only [Act.put, List.setIfInBounds_toArray, List.set_cons_zero, List.set_cons_succ]
              refine take_d (i := 11) 103 (.slice ao 12 cap) rfl rfl (by kernel_rfl) (by kernel_rfl) (by kernel_rfl) (fun _ _ _ h => h) (Or.inl ⟨by rfl, ?_⟩) hSS ?_
              (focus (intro w' hw'; first | (go_simp; done) | (go_simp; simp [hab]; done) | (go_simp; simp [hab2]; done)))
              simp only [Act.put, List.setIfInBounds_toArray, List.set_cons_zero, List.set_cons_succ]
              refine take_d (i := 12) 104 (.slice ao2 12 cap2) rfl rfl (by kernel_rfl) (by kernel_rfl) (by kernel_rfl) (fun _ _ _ h => h) (Or.inl ⟨by rfl, ?_⟩) hSS ?_
              (focus (intro w' hw'; first | (go_simp; done) | (go_simp; simp [hab]; done) | (go_simp; simp [hab2]; done)))
              simp only [Act.put, List.setIfInBounds_toArray, List.set_cons_zero, List.set_cons_succ]
              refine wpAnyH_ready (rs := [13]) (by kernel_rfl) (by simp) (AllReadyH.cons rfl (fun K1 hK1 => ?_) AllReadyH.nil)
              rw [if_pos (by rfl)]
              go_simp
              refine (alike_any _ _ a b _ (by have := HAA.out.keep hSS; rwa [← HAL.out.1.1] at this ⊢) (by have := HAB.out.keep hSS; rwa [← HAL.out.2.1] at this ⊢) (by have := HAL.out.1; omega) (by have := HAL.out.2; omega)).mono ?_
              rintro e w8 ⟨rfl, hd⟩
              rw [← HQ.out]
              have hSS2 : Below w6.heap.size w6 w8 := by
                obtain ⟨nd, rfl⟩ := hd.out
                exact hSS.trans ⟨rfl, rfl, rfl, Nat.le_refl _, fun _ _ => rfl⟩
              clear hd hSS
              refine hK1.out _ _ hSS2 (fun hSS => ?_)
              try simp only [Act.put, List.setIfInBounds_toArray, List.set_cons_zero, List.set_cons_succ]
              refine take_d (i := 14) 106 (.bool true) rfl rfl (by kernel_rfl) (by kernel_rfl) (by kernel_rfl) (fun _ _ _ h => h) (Or.inl ⟨by rfl, ?_⟩) hSS ?_
              (focus (intro w' hw'; first | (go_simp; done) | (go_simp; simp [hab]; done) | (go_simp; simp [hab2]; done)))
              simp only [Act.put, List.setIfInBounds_toArray, List.set_cons_zero, List.set_cons_succ]
              refine take_d (i := 15) 107 (.bool true) rfl rfl (by kernel_rfl) (by kernel_rfl) (by kernel_rfl) (fun _ _ _ h => h) (Or.inl ⟨by rfl, ?_⟩) hSS ?_
              (focus (intro w' hw'; first | (go_simp; done) | (go_simp; simp [hab]; done) | (go_simp; simp [hab2]; done)))
              simp only [Act.put, List.setIfInBounds_toArray, List.set_cons_zero, List.set_cons_succ]
              refine wpAnyH_ready (rs := [16]) (by kernel_rfl) (by simp) (AllReadyH.cons rfl (fun K2 hK2 => ?_) AllReadyH.nil)
              rw [if_pos (by rfl)]
              go_simp
              refine hK2.out _ _ hSS (fun _ => ?_)
              refine wpAnyH_done (by kernel_rfl) ?_ _
              go_wp2_with fail
              go_ret
              exact ⟨rfl, HBL.out.trans (hSS.mono HBL.out.size)⟩
            · have qe2 : ((f1 : Int) != 0) = true := by rw [bne_iff_ne]; omega
              clear qf q0
              go_wp2_with fail
              go_ret
              exact ⟨rfl, HBL.out⟩
          · have qe1 : ((f1 : Int) != (f2 : Int)) = true := by rw [bne_iff_ne]; omega
            clear qf
            go_wp2_with fail
            go_ret
            exact ⟨rfl, HBL.out⟩
        · have qbi : ¬ (12 : Int) < (n2 : Int) := by omega
          obtain ⟨b, HBB⟩ : ∃ a : List Rec, Hid (Rd wr 4 (.slice ao2 n2 cap2) n2 (rcs a) ∧ a.length = n2 ∧ a.length ≤ 12 ∧ (valsP a).length ≤ 100000) := ⟨os2, Lib.hid (by
            have h2 := HL2.out.2
            have h3 := vals_small (l := os2) (k := 500) fun r hr => HVB.out r hr
            exact ⟨HL2.out.1, h2, by omega, by omega⟩)⟩
          skip
          clear qa qb
          go_wp2_with fail
          refine (build_any _ a wr (by have := HA.out.1; rwa [← HA.out.2.1] at this ⊢) (by have := HA.out; omega) HA.out.2.2.2).mono ?_
          rintro e w2 hbo
          obtain ⟨f1, y1, u1, c1, rfl, hr1, hS1, HF1⟩ := hbo.form
          obtain ⟨ay1, cy1, rfl⟩ := hr1.shape
          have H1 := Lib.hid (And.intro hr1 hS1)
          have HB2 := Lib.hid (HBB.out.1.keep hS1.below)
          clear hr1 hS1 hbo
          go_wp2_with fail
          refine (build_any _ b w2 (by have := HB2.out; rwa [← HBB.out.2.1] at this ⊢) (by have := HBB.out; omega) HBB.out.2.2.2).mono ?_
          rintro e w3 hbo
          obtain ⟨f2, y2, u2, c2, rfl, hr2, hS2, HF2⟩ := hbo.form
          obtain ⟨ay2, cy2, rfl⟩ := hr2.shape
          have H2 := Lib.hid (And.intro hr2 (H1.out.2.join hS2))
          have hS3 := (St.init w3).one_nil
          have hr0 : RowC 26 4 (.slice none 0 0) 0 [] [] := RowC.nil _ _
          have hrd := HB2.out.keep hS2.below
          have hrd := HA.out.1.keep H2.out.2.below
          have HR0 := Lib.hid (rcs_one a)
          clear hr2 hS2 hbo
          go_wp2_with ((at_builtin; (refine wpList_app 0 22 i0 (.agg #[.int .i64 0, .int .i64 0, .string ⟨#[]⟩, .string ⟨#[]⟩]) _ _ rfl rfl rfl rfl Try.underlying22 i0a i0b i0c i0d rfl (by decide) hS3 rfl hr0 hrd HR0.out ?_ ?_ ?_); (unfold maxLen; omega); omega; intro v5 c5 w5 hr5 hS5); rw [List.nil_append, Nat.zero_add] at hr5; (obtain ⟨ao5, cap5, rfl⟩ := hr5.shape); have H5 := Lib.hid (And.intro (hr5.rd hS5 0 rfl) hS5.below); clear hr5 hS5 hS3 hr0 hrd)
          refine (build_any _ a w5 (by have := H5.out.1; rwa [← HA.out.2.1] at this ⊢) (by have := HA.out; omega) HA.out.2.2.2).mono ?_
          rintro e w6 hbo
          obtain ⟨f3, y3, u3, c3, rfl, hr3, hS3, HF3⟩ := hbo.form
          obtain ⟨ay3, cy3, rfl⟩ := hr3.shape
          obtain rfl : f1 = f3 := by rw [HF1.out.1, HF3.out.1]
          have H6 := Lib.hid (And.intro hr3 ((H2.out.2.mono H5.out.2).join hS3))
          have HBL := Lib.hid (HB.out.trans (H6.out.2.below.mono HB.out.size))
          clear hr3 hS3 hbo
          by_cases qf : f1 = f2
          · have qe1 : ((f1 : Int) != (f2 : Int)) = false := by rw [qf]; simp
            by_cases q0 : f1 = 0
            · have qe2 : ((f1 : Int) != 0) = false := by rw [q0]; rfl
              have HYY : Hid (y1 = y3 ∧ (y1 == y2) = decide (a = b)) := Lib.hid (by
                have s1 := HF1.out.2 q0
                have s2 := HF2.out.2 (by omega)
                have s3 := HF3.out.2 q0
                have o1 : ∀ r ∈ a, OkR r := faultR_zero.1 (by rw [← HF1.out.1, q0])
                have o2 : ∀ r ∈ b, OkR r := faultR_zero.1 (by rw [← HF2.out.1, ← qf, q0])
                refine ⟨s1.one s3, ?_⟩
                by_cases e : a = b
                · subst e
                  rw [s1.one s2]
                  simp
                · rw [decide_eq_false e, beq_eq_false_iff_ne]
                  intro e2
                  rw [e2] at s1
                  exact e (s1.same s2 o1 o2 (by have := HA.out; omega) (by have := HBB.out; omega) HA.out.2.2.2 HBB.out.2.2.2))
              obtain ⟨bq, HQ⟩ : ∃ bq, Hid (bq = decide (a = b)) := ⟨_, Lib.hid rfl⟩
              obtain ⟨rfl, hab⟩ := HYY.out
              rw [← HQ.out] at hab
              have HAL := Lib.hid (And.intro HA.out.2 HBB.out.2)
              have HAA := Lib.hid (HA.out.1.keep H6.out.2.below)
              have HAB := Lib.hid (HBB.out.1.keep H6.out.2.below)
              have HA := Lib.hid (H6.out.1.rd H6.out.2 0 rfl)
              have HB := Lib.hid (H2.out.1.rd H6.out.2 1 rfl)
              have HC := Lib.hid ((H1.out.1).rd H6.out.2 2 rfl)
              have HE := HC
              clear qf q0 HYY
              go_wp2_with fail
              refine wp_region_held_drew (S := fun w' => Below w6.heap.size w6 w') mixed (Below.refl _ _).drew (fun hSS => ?_)
              refine take_d (i := 0) 92 (.slice ay1 y1.length cy1) rfl rfl (by kernel_rfl) (by kernel_rfl) (by kernel_rfl) (fun _ _ _ h => h) (Or.inl ⟨by rfl, ?_⟩) hSS ?_
              (focus (intro w' hw'; first | (go_simp; done) | (go_simp; simp [hab]; done) | (go_simp; simp [hab2]; done)))
              simp only [Act.put, List.setIfInBounds_toArray, List.set_cons_zero, List.set_cons_succ]
              refine take_d (i := 2) 94 (.slice ay3 y1.length cy3) rfl rfl (by kernel_rfl) (by kernel_rfl) (by kernel_rfl) (fun _ _ _ h => h) (Or.inl ⟨by rfl, ?_⟩) hSS ?_
              (focus (intro w' hw'; first | (go_simp; done) | (go_simp; simp [hab]; done) | (go_simp; simp [hab2]; done)))
              simp only [Act.put, List.setIfInBounds_toArray, List.set_cons_zero, List.set_cons_succ]
              refine take_d (i := 1) 93 (.string ⟨y1.toArray⟩) rfl rfl (by kernel_rfl) (by kernel_rfl) (by kernel_rfl) (fun _ _ _ h => h) (Or.inl ⟨by rfl, ?_⟩) hSS ?_
              (focus (intro w' hw'; have k1 := conv_str (HA.out.keep hw'); have k2 := conv_str (HB.out.keep hw'); have k3 := conv_str (HC.out.keep hw'); have k4 := conv_str (HE.out.keep hw'); first | (go_simp; done) | (go_simp; simp [hab]; done)))
              simp only [Act.put, List.setIfInBounds_toArray, List.set_cons_zero, List.set_cons_succ]
              refine take_d (i := 3) 95 (.string ⟨y1.toArray⟩) rfl rfl (by kernel_rfl) (by kernel_rfl) (by kernel_rfl) (fun _ _ _ h => h) (Or.inl ⟨by rfl, ?_⟩) hSS ?_
              (focus (intro w' hw'; have k1 := conv_str (HA.out.keep hw'); have k2 := conv_str (HB.out.keep hw'); have k3 := conv_str (HC.out.keep hw'); have k4 := conv_str (HE.out.keep hw'); first | (go_simp; done) | (go_simp; simp [hab]; done)))
              simp only [Act.put, List.setIfInBounds_toArray, List.set_cons_zero, List.set_cons_succ]
              refine take_d (i := 4) 96 (.bool true) rfl rfl (by kernel_rfl) (by kernel_rfl) (by kernel_rfl) (fun _ _ _ h => h) (Or.inl ⟨by rfl, ?_⟩) hSS ?_
              (focus (intro w' hw'; first | (go_simp; done) | (go_simp; simp [hab]; done) | (go_simp; simp [hab2]; done)))
              simp only [Act.put, List.setIfInBounds_toArray, List.set_cons_zero, List.set_cons_succ]
              refine take_d (i := 5) 97 (.bool true) rfl rfl (by kernel_rfl) (by kernel_rfl) (by kernel_rfl) (fun _ _ _ h => h) (Or.inl ⟨by rfl, ?_⟩) hSS ?_
              (focus (intro w' hw'; first | (go_simp; done) | (go_simp; simp [hab]; done) | (go_simp; simp [hab2]; done)))
              simp only [Act.put, List.setIfInBounds_toArray, List.set_cons_zero, List.set_cons_succ]
              refine take_d (i := 6) 98 (.slice ay1 y1.length cy1) rfl rfl (by kernel_rfl) (by kernel_rfl) (by kernel_rfl) (fun _ _ _ h => h) (Or.inl ⟨by rfl, ?_⟩) hSS ?_
              (focus (intro w' hw'; first | (go_simp; done) | (go_simp; simp [hab]; done) | (go_simp; simp [hab2]; done)))
              simp only [Act.put, List.setIfInBounds_toArray, List.set_cons_zero, List.set_cons_succ]
              refine take_d (i := 8) 100 (.slice ay2 y2.length cy2) rfl rfl (by kernel_rfl) (by kernel_rfl) (by kernel_rfl) (fun _ _ _ h => h) (Or.inl ⟨by rfl, ?_⟩) hSS ?_
              (focus (intro w' hw'; first | (go_simp; done) | (go_simp; simp [hab]; done) | (go_simp; simp [hab2]; done)))
              simp only [Act.put, List.setIfInBounds_toArray, List.set_cons_zero, List.set_cons_succ]
              refine take_d (i := 7) 99 (.string ⟨y1.toArray⟩) rfl rfl (by kernel_rfl) (by kernel_rfl) (by kernel_rfl) (fun _ _ _ h => h) (Or.inl ⟨by rfl, ?_⟩) hSS ?_
              (focus (intro w' hw'; have k1 := conv_str (HA.out.keep hw'); have k2 := conv_str (HB.out.keep hw'); have k3 := conv_str (HC.out.keep hw'); have k4 := conv_str (HE.out.keep hw'); first | (go_simp; done) | (go_simp; simp [hab]; done)))
              simp only [Act.put, List.setIfInBounds_toArray, List.set_cons_zero, List.set_cons_succ]
              refine take_d (i := 9) 101 (.string ⟨y2.toArray⟩) rfl rfl (by kernel_rfl) (by kernel_rfl) (by kernel_rfl) (fun _ _ _ h => h) (Or.inl ⟨by rfl, ?_⟩) hSS ?_
              (focus (intro w' hw'; have k1 := conv_str (HA.out.keep hw'); have k2 := conv_str (HB.out.keep hw'); have k3 := conv_str (HC.out.keep hw'); have k4 := conv_str (HE.out.keep hw'); first | (go_simp; done) | (go_simp; simp [hab]; done)))
              simp only [Act.put, List.setIfInBounds_toArray, List.set_cons_zero, List.set_cons_succ]
              refine take_d (i := 10) 102 (.bool bq) rfl rfl (by kernel_rfl) (by kernel_rfl) (by kernel_rfl) (fun _ _ _ h => h) (Or.inl ⟨by rfl, ?_⟩) hSS ?_
              (focus (intro w' hw'; first | (go_simp; done) | (go_simp; simp [hab]; done) | (go_simp; simp [hab2]; done)))
              simp only [Act.put, List.setIfInBounds_toArray, List.set_cons_zero, List.set_cons_succ]
              refine take_d (i := 11) 103 (.slice ao 12 cap) rfl rfl (by kernel_rfl) (by kernel_rfl) (by kernel_rfl) (fun _ _ _ h => h) (Or.inl ⟨by rfl, ?_⟩) hSS ?_
              (focus (intro w' hw'; first | (go_simp; done) | (go_simp; simp [hab]; done) | (go_simp; simp [hab2]; done)))
              simp only [Act.put, List.setIfInBounds_toArray, List.set_cons_zero, List.set_cons_succ]
              refine take_d (i := 12) 104 (.slice ao2 n2 cap2) rfl rfl (by kernel_rfl) (by kernel_rfl) (by kernel_rfl) (fun _ _ _ h => h) (Or.inl ⟨by rfl, ?_⟩) hSS ?_
              (focus (intro w' hw'; first | (go_simp; done) | (go_simp; simp [hab]; done) | (go_simp; simp [hab2]; done)))
              simp only [Act.put, List.setIfInBounds_toArray, List.set_cons_zero, List.set_cons_succ]
              refine wpAnyH_ready (rs := [13]) (by kernel_rfl) (by simp) (AllReadyH.cons rfl (fun K1 hK1 => ?_) AllReadyH.nil)
              rw [if_pos (by rfl)]
              go_simp
              refine (alike_any _ _ a b _ (by have := HAA.out.keep hSS; rwa [← HAL.out.1.1] at this ⊢) (by have := HAB.out.keep hSS; rwa [← HAL.out.2.1] at this ⊢) (by have := HAL.out.1; omega) (by have := HAL.out.2; omega)).mono ?_
              rintro e w8 ⟨rfl, hd⟩
              rw [← HQ.out]
              have hSS2 : Below w6.heap.size w6 w8 := by
                obtain ⟨nd, rfl⟩ := hd.out
                exact hSS.trans ⟨rfl, rfl, rfl, Nat.le_refl _, fun _ _ => rfl⟩
              clear hd hSS
              refine hK1.out _ _ hSS2 (fun hSS => ?_)
              try simp only [Act.put, List.setIfInBounds_toArray, List.set_cons_zero, List.set_cons_succ]
              refine take_d (i := 14) 106 (.bool true) rfl rfl (by kernel_rfl) (by kernel_rfl) (by kernel_rfl) (fun _ _ _ h => h) (Or.inl ⟨by rfl, ?_⟩) hSS ?_
              (focus (intro w' hw'; first | (go_simp; done) | (go_simp; simp [hab]; done) | (go_simp; simp [hab2]; done)))
              simp only [Act.put, List.setIfInBounds_toArray, List.set_cons_zero, List.set_cons_succ]
              refine take_d (i := 15) 107 (.bool true) rfl rfl (by kernel_rfl) (by kernel_rfl) (by kernel_rfl) (fun _ _ _ h => h) (Or.inl ⟨by rfl, ?_⟩) hSS ?_
              (focus (intro w' hw'; first | (go_simp; done) | (go_simp; simp [hab]; done) | (go_simp; simp [hab2]; done)))
              simp only [Act.put, List.setIfInBounds_toArray, List.set_cons_zero, List.set_cons_succ]
              refine wpAnyH_ready (rs := [16]) (by kernel_rfl) (by simp) (AllReadyH.cons rfl (fun K2 hK2 => ?_) AllReadyH.nil)
              rw [if_pos (by rfl)]
              go_simp
              refine hK2.out _ _ hSS (fun _ => ?_)
              refine wpAnyH_done (by kernel_rfl) ?_ _
              go_wp2_with fail
              go_ret
              exact ⟨rfl, HBL.out.trans (hSS.mono HBL.out.size)⟩
            · have qe2 : ((f1 : Int) != 0) = true := by rw [bne_iff_ne]; omega
              clear qf q0
              go_wp2_with fail
              go_ret
              exact ⟨rfl, HBL.out⟩
          · have qe1 : ((f1 : Int) != (f2 : Int)) = true := by rw [bne_iff_ne]; omega
            clear qf
            go_wp2_with fail
            go_ret
            exact ⟨rfl, HBL.out⟩
      · have qai : ¬ (12 : Int) < (n1 : Int) := by omega
        obtain ⟨a, HA⟩ : ∃ a : List Rec, Hid (Rd wr 4 (.slice ao n1 cap) n1 (rcs a) ∧ a.length = n1 ∧ a.length ≤ 12 ∧ (valsP a).length ≤ 100000) := ⟨os, Lib.hid (by
          have h2 := HL.out.2
          have h3 := vals_small (l := os) (k := 500) fun r hr => HVA.out r hr
          exact ⟨HL.out.1, h2, by omega, by omega⟩)⟩
        by_cases qb : 12 < n2
        · have qbi : (12 : Int) < (n2 : Int) := by omega
          have qbc : (12 : Int) ≤ (cap2 : Int) := by omega
          obtain ⟨b, HBB⟩ : ∃ a : List Rec, Hid (Rd wr 4 (.slice ao2 12 cap2) 12 (rcs a) ∧ a.length = 12 ∧ a.length ≤ 12 ∧ (valsP a).length ≤ 100000) := ⟨os2.take 12, Lib.hid (by
            have h1 := (HL2.out.1).take 12 (by omega)
            rw [rcs_takeT (by have := HL2.out.2; omega)] at h1
            have h2 : (os2.take 12).length = 12 := by rw [List.length_take]; have := HL2.out.2; omega
            have h3 := vals_small (l := os2.take 12) (k := 500) fun r hr => HVB.out r (List.mem_of_mem_take hr)
            exact ⟨h1, h2, by omega, by omega⟩)⟩
          skip
          clear qa qb
          go_wp2_with fail
          refine (build_any _ a wr (by have := HA.out.1; rwa [← HA.out.2.1] at this ⊢) (by have := HA.out; omega) HA.out.2.2.2).mono ?_
          rintro e w2 hbo
          obtain ⟨f1, y1, u1, c1, rfl, hr1, hS1, HF1⟩ := hbo.form
          obtain ⟨ay1, cy1, rfl⟩ := hr1.shape
          have H1 := Lib.hid (And.intro hr1 hS1)
          have HB2 := Lib.hid (HBB.out.1.keep hS1.below)
          clear hr1 hS1 hbo
          go_wp2_with fail
          refine (build_any _ b w2 (by have := HB2.out; rwa [← HBB.out.2.1] at this ⊢) (by have := HBB.out; omega) HBB.out.2.2.2).mono ?_
          rintro e w3 hbo
          obtain ⟨f2, y2, u2, c2, rfl, hr2, hS2, HF2⟩ := hbo.form
          obtain ⟨ay2, cy2, rfl⟩ := hr2.shape
          have H2 := Lib.hid (And.intro hr2 (H1.out.2.join hS2))
          have hS3 := (St.init w3).one_nil
          have hr0 : RowC 26 4 (.slice none 0 0) 0 [] [] := RowC.nil _ _
          have hrd := HB2.out.keep hS2.below
          have hrd := HA.out.1.keep H2.out.2.below
          have HR0 := Lib.hid (rcs_one a)
          clear hr2 hS2 hbo
          go_wp2_with ((at_builtin; (refine wpList_app 0 22 i0 (.agg #[.int .i64 0, .int .i64 0, .string ⟨#[]⟩, .string ⟨#[]⟩]) _ _ rfl rfl rfl rfl Try.underlying22 i0a i0b i0c i0d rfl (by decide) hS3 rfl hr0 hrd HR0.out ?_ ?_ ?_); (unfold maxLen; omega); omega; intro v5 c5 w5 hr5 hS5); rw [List.nil_append, Nat.zero_add] at hr5; (obtain ⟨ao5, cap5, rfl⟩ := hr5.shape); have H5 := Lib.hid (And.intro (hr5.rd hS5 0 rfl) hS5.below); clear hr5 hS5 hS3 hr0 hrd)
          refine (build_any _ a w5 (by have := H5.out.1; rwa [← HA.out.2.1] at this ⊢) (by have := HA.out; omega) HA.out.2.2.2).mono ?_
          rintro e w6 hbo
          obtain ⟨f3, y3, u3, c3, rfl, hr3, hS3, HF3⟩ := hbo.form
          obtain ⟨ay3, cy3, rfl⟩ := hr3.shape
          obtain rfl : f1 = f3 := by rw [HF1.out.1, HF3.out.1]
          have H6 := Lib.hid (And.intro hr3 ((H2.out.2.mono H5.out.2).join hS3))
          have HBL := Lib.hid (HB.out.trans (H6.out.2.below.mono HB.out.size))
          clear hr3 hS3 hbo
          by_cases qf : f1 = f2
          · have qe1 : ((f1 : Int) != (f2 : Int)) = false := by rw [qf]; simp
            by_cases q0 : f1 = 0
            · have qe2 : ((f1 : Int) != 0) = false := by rw [q0]; rfl
              have HYY : Hid (y1 = y3 ∧ (y1 == y2) = decide (a = b)) := Lib.hid (by
                have s1 := HF1.out.2 q0
                have s2 := HF2.out.2 (by omega)
                have s3 := HF3.out.2 q0
                have o1 : ∀ r ∈ a, OkR r := faultR_zero.1 (by rw [← HF1.out.1, q0])
                have o2 : ∀ r ∈ b, OkR r := faultR_zero.1 (by rw [← HF2.out.1, ← qf, q0])
                refine ⟨s1.one s3, ?_⟩
                by_cases e : a = b
                · subst e
                  rw [s1.one s2]
                  simp
                · rw [decide_eq_false e, beq_eq_false_iff_ne]
                  intro e2
                  rw [e2] at s1
                  exact e (s1.same s2 o1 o2 (by have := HA.out; omega) (by have := HBB.out; omega) HA.out.2.2.2 HBB.out.2.2.2))
              obtain ⟨bq, HQ⟩ : ∃ bq, Hid (bq = decide (a = b)) := ⟨_, Lib.hid rfl⟩
              obtain ⟨rfl, hab⟩ := HYY.out
              rw [← HQ.out] at hab
              have HAL := Lib.hid (And.intro HA.out.2 HBB.out.2)
              have HAA := Lib.hid (HA.out.1.keep H6.out.2.below)
              have HAB := Lib.hid (HBB.out.1.keep H6.out.2.below)
              have HA := Lib.hid (H6.out.1.rd H6.out.2 0 rfl)
              have HB := Lib.hid (H2.out.1.rd H6.out.2 1 rfl)
              have HC := Lib.hid ((H1.out.1).rd H6.out.2 2 rfl)
              have HE := HC
              clear qf q0 HYY
              go_wp2_with fail
              refine wp_region_held_drew (S := fun w' => Below w6.heap.size w6 w') mixed (Below.refl _ _).drew (fun hSS => ?_)
              refine take_d (i := 0) 92 (.slice ay1 y1.length cy1) rfl rfl (by kernel_rfl) (by kernel_rfl) (by kernel_rfl) (fun _ _ _ h => h) (Or.inl ⟨by rfl, ?_⟩) hSS ?_
              (focus (intro w' hw'; first | (go_simp; done) | (go_simp; simp [hab]; done) | (go_simp; simp [hab2]; done)))
              simp only [Act.put, List.setIfInBounds_toArray, List.set_cons_zero, List.set_cons_succ]
              refine take_d (i := 2) 94 (.slice ay3 y1.length cy3) rfl rfl (by kernel_rfl) (by kernel_rfl) (by kernel_rfl) (fun _ _ _ h => h) (Or.inl ⟨by rfl, ?_⟩) hSS ?_
              (focus (intro w' hw'; first | (go_simp; done) | (go_simp; simp [hab]; done) | (go_simp; simp [hab2]; done)))
              simp only [Act.put, List.setIfInBounds_toArray, List.set_cons_zero, List.set_cons_succ]
              refine take_d (i := 1) 93 (.string ⟨y1.toArray⟩) rfl rfl (by kernel_rfl) (by kernel_rfl) (by kernel_rfl) (fun _ _ _ h => h) (Or.inl ⟨by rfl, ?_⟩) hSS ?_
              (focus (intro w' hw'; have k1 := conv_str (HA.out.keep hw'); have k2 := conv_str (HB.out.keep hw'); have k3 := conv_str (HC.out.keep hw'); have k4 := conv_str (HE.out.keep hw'); first | (go_simp; done) | (go_simp; simp [hab]; done)))
              simp only [Act.put, List.setIfInBounds_toArray, List.set_cons_zero, List.set_cons_succ]
              refine take_d (i := 3) 95 (.string ⟨y1.toArray⟩) rfl rfl (by kernel_rfl) (by kernel_rfl) (by kernel_rfl) (fun _ _ _ h => h) (Or.inl ⟨by rfl, ?_⟩) hSS ?_
              (focus (intro w' hw'; have k1 := conv_str (HA.out.keep hw'); have k2 := conv_str (HB.out.keep hw'); have k3 := conv_str (HC.out.keep hw'); have k4 := conv_str (HE.out.keep hw'); first | (go_simp; done) | (go_simp; simp [hab]; done)))
              simp only [Act.put, List.setIfInBounds_toArray, List.set_cons_zero, List.set_cons_succ]
              refine take_d (i := 4) 96 (.bool true) rfl rfl (by kernel_rfl) (by kernel_rfl) (by kernel_rfl) (fun _ _ _ h => h) (Or.inl ⟨by rfl, ?_⟩) hSS ?_
              (focus (intro w' hw'; first | (go_simp; done) | (go_simp; simp [hab]; done) | (go_simp; simp [hab2]; done)))
              simp only [Act.put, List.setIfInBounds_toArray, List.set_cons_zero, List.set_cons_succ]
              refine take_d (i := 5) 97 (.bool true) rfl rfl (by kernel_rfl) (by kernel_rfl) (by kernel_rfl) (fun _ _ _ h => h) (Or.inl ⟨by rfl, ?_⟩) hSS ?_
              (focus (intro w' hw'; first | (go_simp; done) | (go_simp; simp [hab]; done) | (go_simp; simp [hab2]; done)))
              simp only [Act.put, List.setIfInBounds_toArray, List.set_cons_zero, List.set_cons_succ]
              refine take_d (i := 6) 98 (.slice ay1 y1.length cy1) rfl rfl (by kernel_rfl) (by kernel_rfl) (by kernel_rfl) (fun _ _ _ h => h) (Or.inl ⟨by rfl, ?_⟩) hSS ?_
              (focus (intro w' hw'; first | (go_simp; done) | (go_simp; simp [hab]; done) | (go_simp; simp [hab2]; done)))
              simp only [Act.put, List.setIfInBounds_toArray, List.set_cons_zero, List.set_cons_succ]
              refine take_d (i := 8) 100 (.slice ay2 y2.length cy2) rfl rfl (by kernel_rfl) (by kernel_rfl) (by kernel_rfl) (fun _ _ _ h => h) (Or.inl ⟨by rfl, ?_⟩) hSS ?_
              (focus (intro w' hw'; first | (go_simp; done) | (go_simp; simp [hab]; done) | (go_simp; simp [hab2]; done)))
              simp only [Act.put, List.setIfInBounds_toArray, List.set_cons_zero, List.set_cons_succ]
              refine take_d (i := 7) 99 (.string ⟨y1.toArray⟩) rfl rfl (by kernel_rfl) (by kernel_rfl) (by kernel_rfl) (fun _ _ _ h => h) (Or.inl ⟨by rfl, ?_⟩) hSS ?_
              (focus (intro w' hw'; have k1 := conv_str (HA.out.keep hw'); have k2 := conv_str (HB.out.keep hw'); have k3 := conv_str (HC.out.keep hw'); have k4 := conv_str (HE.out.keep hw'); first | (go_simp; done) | (go_simp; simp [hab]; done)))
              simp only [Act.put, List.setIfInBounds_toArray, List.set_cons_zero, List.set_cons_succ]
              refine take_d (i := 9) 101 (.string ⟨y2.toArray⟩) rfl rfl (by kernel_rfl) (by kernel_rfl) (by kernel_rfl) (fun _ _ _ h => h) (Or.inl ⟨by rfl, ?_⟩) hSS ?_
              (focus (intro w' hw'; have k1 := conv_str (HA.out.keep hw'); have k2 := conv_str (HB.out.keep hw'); have k3 := conv_str (HC.out.keep hw'); have k4 := conv_str (HE.out.keep hw'); first | (go_simp; done) | (go_simp; simp [hab]; done)))
              simp only [Act.put, List.setIfInBounds_toArray, List.set_cons_zero, List.set_cons_succ]
              refine take_d (i := 10) 102 (.bool bq) rfl rfl (by kernel_rfl) (by kernel_rfl) (by kernel_rfl) (fun _ _ _ h => h) (Or.inl ⟨by rfl, ?_⟩) hSS ?_
              (focus (intro w' hw'; first | (go_simp; done) | (go_simp; simp [hab]; done) | (go_simp; simp [hab2]; done)))
              simp only [Act.put, List.setIfInBounds_toArray, List.set_cons_zero, List.set_cons_succ]
              refine take_d (i := 11) 103 (.slice ao n1 cap) rfl rfl (by kernel_rfl) (by kernel_rfl) (by kernel_rfl) (fun _ _ _ h => h) (Or.inl ⟨by rfl, ?_⟩) hSS ?_
              (focus (intro w' hw'; first | (go_simp; done) | (go_simp; simp [hab]; done) | (go_simp; simp [hab2]; done)))
              simp only [Act.put, List.setIfInBounds_toArray, List.set_cons_zero, List.set_cons_succ]
              refine take_d (i := 12) 104 (.slice ao2 12 cap2) rfl rfl (by kernel_rfl) (by kernel_rfl) (by kernel_rfl) (fun _ _ _ h => h) (Or.inl ⟨by rfl, ?_⟩) hSS ?_
              (focus (intro w' hw'; first | (go_simp; done) | (go_simp; simp [hab]; done) | (go_simp; simp [hab2]; done)))
              simp only [Act.put, List.setIfInBounds_toArray, List.set_cons_zero, List.set_cons_succ]
              refine wpAnyH_ready (rs := [13]) (by kernel_rfl) (by simp) (AllReadyH.cons rfl (fun K1 hK1 => ?_) AllReadyH.nil)
              rw [if_pos (by rfl)]
              go_simp
              refine (alike_any _ _ a b _ (by have := HAA.out.keep hSS; rwa [← HAL.out.1.1] at this ⊢) (by have := HAB.out.keep hSS; rwa [← HAL.out.2.1] at this ⊢) (by have := HAL.out.1; omega) (by have := HAL.out.2; omega)).mono ?_
              rintro e w8 ⟨rfl, hd⟩
              rw [← HQ.out]
              have hSS2 : Below w6.heap.size w6 w8 := by
                obtain ⟨nd, rfl⟩ := hd.out
                exact hSS.trans ⟨rfl, rfl, rfl, Nat.le_refl _, fun _ _ => rfl⟩
              clear hd hSS
              refine hK1.out _ _ hSS2 (fun hSS => ?_)
              try simp only [Act.put, List.setIfInBounds_toArray, List.set_cons_zero, List.set_cons_succ]
              refine take_d (i := 14) 106 (.bool true) rfl rfl (by kernel_rfl) (by kernel_rfl) (by kernel_rfl) (fun _ _ _ h => h) (Or.inl ⟨by rfl, ?_⟩) hSS ?_
              (focus (intro w' hw'; first | (go_simp; done) | (go_simp; simp [hab]; done) | (go_simp; simp [hab2]; done)))
              simp only [Act.put, List.setIfInBounds_toArray, List.set_cons_zero, List.set_cons_succ]
              refine take_d (i := 15) 107 (.bool true) rfl rfl (by kernel_rfl) (by kernel_rfl) (by kernel_rfl) (fun _ _ _ h => h) (Or.inl ⟨by rfl, ?_⟩) hSS ?_
              (focus (intro w' hw'; first | (go_simp; done) | (go_simp; simp [hab]; done) | (go_simp; simp [hab2]; done)))
              simp only [Act.put, List.setIfInBounds_toArray, List.set_cons_zero, List.set_cons_succ]
              refine wpAnyH_ready (rs := [16]) (by kernel_rfl) (by simp) (AllReadyH.cons rfl (fun K2 hK2 => ?_) AllReadyH.nil)
              rw [if_pos (by rfl)]
              go_simp
              refine hK2.out _ _ hSS (fun _ => ?_)
              refine wpAnyH_done (by kernel_rfl) ?_ _
              go_wp2_with fail
              go_ret
              exact ⟨rfl, HBL.out.trans (hSS.mono HBL.out.size)⟩
            · have qe2 : ((f1 : Int) != 0) = true := by rw [bne_iff_ne]; omega
              clear qf q0
              go_wp2_with fail
              go_ret
              exact ⟨rfl, HBL.out⟩
          · have qe1 : ((f1 : Int) != (f2 : Int)) = true := by rw [bne_iff_ne]; omega
            clear qf
            go_wp2_with fail
            go_ret
            exact ⟨rfl, HBL.out⟩
        · have qbi : ¬ (12 : Int) < (n2 : Int) := by omega
          obtain ⟨b, HBB⟩ : ∃ a : List Rec, Hid (Rd wr 4 (.slice ao2 n2 cap2) n2 (rcs a) ∧ a.length = n2 ∧ a.length ≤ 12 ∧ (valsP a).length ≤ 100000) := ⟨os2, Lib.hid (by
            have h2 := HL2.out.2
            have h3 := vals_small (l := os2) (k := 500) fun r hr => HVB.out r hr
            exact ⟨HL2.out.1, h2, by omega, by omega⟩)⟩
          skip
          clear qa qb
          go_wp2_with fail
          refine (build_any _ a wr (by have := HA.out.1; rwa [← HA.out.2.1] at this ⊢) (by have := HA.out; omega) HA.out.2.2.2).mono ?_
          rintro e w2 hbo
          obtain ⟨f1, y1, u1, c1, rfl, hr1, hS1, HF1⟩ := hbo.form
          obtain ⟨ay1, cy1, rfl⟩ := hr1.shape
          have H1 := Lib.hid (And.intro hr1 hS1)
          have HB2 := Lib.hid (HBB.out.1.keep hS1.below)
          clear hr1 hS1 hbo
          go_wp2_with fail
          refine (build_any _ b w2 (by have := HB2.out; rwa [← HBB.out.2.1] at this ⊢) (by have := HBB.out; omega) HBB.out.2.2.2).mono ?_
          rintro e w3 hbo
          obtain ⟨f2, y2, u2, c2, rfl, hr2, hS2, HF2⟩ := hbo.form
          obtain ⟨ay2, cy2, rfl⟩ := hr2.shape
          have H2 := Lib.hid (And.intro hr2 (H1.out.2.join hS2))
          have hS3 := (St.init w3).one_nil
          have hr0 : RowC 26 4 (.slice none 0 0) 0 [] [] := RowC.nil _ _
          have hrd := HB2.out.keep hS2.below
          have hrd := HA.out.1.keep H2.out.2.below
          have HR0 := Lib.hid (rcs_one a)
          clear hr2 hS2 hbo
          go_wp2_with ((at_builtin; (refine wpList_app 0 22 i0 (.agg #[.int .i64 0, .int .i64 0, .string ⟨#[]⟩, .string ⟨#[]⟩]) _ _ rfl rfl rfl rfl Try.underlying22 i0a i0b i0c i0d rfl (by decide) hS3 rfl hr0 hrd HR0.out ?_ ?_ ?_); (unfold maxLen; omega); omega; intro v5 c5 w5 hr5 hS5); rw [List.nil_append, Nat.zero_add] at hr5; (obtain ⟨ao5, cap5, rfl⟩ := hr5.shape); have H5 := Lib.hid (And.intro (hr5.rd hS5 0 rfl) hS5.below); clear hr5 hS5 hS3 hr0 hrd)
          refine (build_any _ a w5 (by have := H5.out.1; rwa [← HA.out.2.1] at this ⊢) (by have := HA.out; omega) HA.out.2.2.2).mono ?_
          rintro e w6 hbo
          obtain ⟨f3, y3, u3, c3, rfl, hr3, hS3, HF3⟩ := hbo.form
          obtain ⟨ay3, cy3, rfl⟩ := hr3.shape
          obtain rfl : f1 = f3 := by rw [HF1.out.1, HF3.out.1]
          have H6 := Lib.hid (And.intro hr3 ((H2.out.2.mono H5.out.2).join hS3))
          have HBL := Lib.hid (HB.out.trans (H6.out.2.below.mono HB.out.size))
          clear hr3 hS3 hbo
          by_cases qf : f1 = f2
          · have qe1 : ((f1 : Int) != (f2 : Int)) = false := by rw [qf]; simp
            by_cases q0 : f1 = 0
            · have qe2 : ((f1 : Int) != 0) = false := by rw [q0]; rfl
              have HYY : Hid (y1 = y3 ∧ (y1 == y2) = decide (a = b)) := Lib.hid (by
                have s1 := HF1.out.2 q0
                have s2 := HF2.out.2 (by omega)
                have s3 := HF3.out.2 q0
                have o1 : ∀ r ∈ a, OkR r := faultR_zero.1 (by rw [← HF1.out.1, q0])
                have o2 : ∀ r ∈ b, OkR r := faultR_zero.1 (by rw [← HF2.out.1, ← qf, q0])
                refine ⟨s1.one s3, ?_⟩
                by_cases e : a = b
                · subst e
                  rw [s1.one s2]
                  simp
                · rw [decide_eq_false e, beq_eq_false_iff_ne]
                  intro e2
                  rw [e2] at s1
                  exact e (s1.same s2 o1 o2 (by have := HA.out; omega) (by have := HBB.out; omega) HA.out.2.2.2 HBB.out.2.2.2))
              obtain ⟨bq, HQ⟩ : ∃ bq, Hid (bq = decide (a = b)) := ⟨_, Lib.hid rfl⟩
              obtain ⟨rfl, hab⟩ := HYY.out
              rw [← HQ.out] at hab
              have HAL := Lib.hid (And.intro HA.out.2 HBB.out.2)
              have HAA := Lib.hid (HA.out.1.keep H6.out.2.below)
              have HAB := Lib.hid (HBB.out.1.keep H6.out.2.below)
              have HA := Lib.hid (H6.out.1.rd H6.out.2 0 rfl)
              have HB := Lib.hid (H2.out.1.rd H6.out.2 1 rfl)
              have HC := Lib.hid ((H1.out.1).rd H6.out.2 2 rfl)
              have HE := HC
              clear qf q0 HYY
              go_wp2_with fail
              refine wp_region_held_drew (S := fun w' => Below w6.heap.size w6 w') mixed (Below.refl _ _).drew (fun hSS => ?_)
              refine take_d (i := 0) 92 (.slice ay1 y1.length cy1) rfl rfl (by kernel_rfl) (by kernel_rfl) (by kernel_rfl) (fun _ _ _ h => h) (Or.inl ⟨by rfl, ?_⟩) hSS ?_
              (focus (intro w' hw'; first | (go_simp; done) | (go_simp; simp [hab]; done) | (go_simp; simp [hab2]; done)))
              simp only [Act.put, List.setIfInBounds_toArray, List.set_cons_zero, List.set_cons_succ]
              refine take_d (i := 2) 94 (.slice ay3 y1.length cy3) rfl rfl (by kernel_rfl) (by kernel_rfl) (by kernel_rfl) (fun _ _ _ h => h) (Or.inl ⟨by rfl, ?_⟩) hSS ?_
              (focus (intro w' hw'; first | (go_simp; done) | (go_simp; simp [hab]; done) | (go_simp; simp [hab2]; done)))
              simp only [Act.put, List.setIfInBounds_toArray, List.set_cons_zero, List.set_cons_succ]
              refine take_d (i := 1) 93 (.string ⟨y1.toArray⟩) rfl rfl (by kernel_rfl) (by kernel_rfl) (by kernel_rfl) (fun _ _ _ h => h) (Or.inl ⟨by rfl, ?_⟩) hSS ?_
              (focus (intro w' hw'; have k1 := conv_str (HA.out.keep hw'); have k2 := conv_str (HB.out.keep hw'); have k3 := conv_str (HC.out.keep hw'); have k4 := conv_str (HE.out.keep hw'); first | (go_simp; done) | (go_simp; simp [hab]; done)))
              simp only [Act.put, List.setIfInBounds_toArray, List.set_cons_zero, List.set_cons_succ]
              refine take_d (i := 3) 95 (.string ⟨y1.toArray⟩) rfl rfl (by kernel_rfl) (by kernel_rfl) (by kernel_rfl) (fun _ _ _ h => h) (Or.inl ⟨by rfl, ?_⟩) hSS ?_
              (focus (intro w' hw'; have k1 := conv_str (HA.out.keep hw'); have k2 := conv_str (HB.out.keep hw'); have k3 := conv_str (HC.out.keep hw'); have k4 := conv_str (HE.out.keep hw'); first | (go_simp; done) | (go_simp; simp [hab]; done)))
              simp only [Act.put, List.setIfInBounds_toArray, List.set_cons_zero, List.set_cons_succ]
              refine take_d (i := 4) 96 (.bool true) rfl rfl (by kernel_rfl) (by kernel_rfl) (by kernel_rfl) (fun _ _ _ h => h) (Or.inl ⟨by rfl, ?_⟩) hSS ?_
              (focus (intro w' hw'; first | (go_simp; done) | (go_simp; simp [hab]; done) | (go_simp; simp [hab2]; done)))
              simp only [Act.put, List.setIfInBounds_toArray, List.set_cons_zero, List.set_cons_succ]
              refine take_d (i := 5) 97 (.bool true) rfl rfl (by kernel_rfl) (by kernel_rfl) (by kernel_rfl) (fun _ _ _ h => h) (Or.inl ⟨by rfl, ?_⟩) hSS ?_
              (focus (intro w' hw'; first | (go_simp; done) | (go_simp; simp [hab]; done) | (go_simp; simp [hab2]; done)))
              simp only [Act.put, List.setIfInBounds_toArray, List.set_cons_zero, List.set_cons_succ]
              refine take_d (i := 6) 98 (.slice ay1 y1.length cy1) rfl rfl (by kernel_rfl) (by kernel_rfl) (by kernel_rfl) (fun _ _ _ h => h) (Or.inl ⟨by rfl, ?_⟩) hSS ?_
              (focus (intro w' hw'; first | (go_simp; done) | (go_simp; simp [hab]; done) | (go_simp; simp [hab2]; done)))
              simp only [Act.put, List.setIfInBounds_toArray, List.set_cons_zero, List.set_cons_succ]
              refine take_d (i := 8) 100 (.slice ay2 y2.length cy2) rfl rfl (by kernel_rfl) (by kernel_rfl) (by kernel_rfl) (fun _ _ _ h => h) (Or.inl ⟨by rfl, ?_⟩) hSS ?_
              (focus (intro w' hw'; first | (go_simp; done) | (go_simp; simp [hab]; done) | (go_simp; simp [hab2]; done)))
              simp only [Act.put, List.setIfInBounds_toArray, List.set_cons_zero, List.set_cons_succ]
              refine take_d (i := 7) 99 (.string ⟨y1.toArray⟩) rfl rfl (by kernel_rfl) (by kernel_rfl) (by kernel_rfl) (fun _ _ _ h => h) (Or.inl ⟨by rfl, ?_⟩) hSS ?_
              (focus (intro w' hw'; have k1 := conv_str (HA.out.keep hw'); have k2 := conv_str (HB.out.keep hw'); have k3 := conv_str (HC.out.keep hw'); have k4 := conv_str (HE.out.keep hw'); first | (go_simp; done) | (go_simp; simp [hab]; done)))
              simp only [Act.put, List.setIfInBounds_toArray, List.set_cons_zero, List.set_cons_succ]
              refine take_d (i := 9) 101 (.string ⟨y2.toArray⟩) rfl rfl (by kernel_rfl) (by kernel_rfl) (by kernel_rfl) (fun _ _ _ h => h) (Or.inl ⟨by rfl, ?_⟩) hSS ?_
              (focus (intro w' hw'; have k1 := conv_str (HA.out.keep hw'); have k2 := conv_str (HB.out.keep hw'); have k3 := conv_str (HC.out.keep hw'); have k4 := conv_str (HE.out.keep hw'); first | (go_simp; done) | (go_simp; simp [hab]; done)))
              simp only [Act.put, List.setIfInBounds_toArray, List.set_cons_zero, List.set_cons_succ]
              refine take_d (i := 10) 102 (.bool bq) rfl rfl (by kernel_rfl) (by kernel_rfl) (by kernel_rfl) (fun _ _ _ h => h) (Or.inl ⟨by rfl, ?_⟩) hSS ?_
              (focus (intro w' hw'; first | (go_simp; done) | (go_simp; simp [hab]; done) | (go_simp; simp [hab2]; done)))
              simp only [Act.put, List.setIfInBounds_toArray, List.set_cons_zero, List.set_cons_succ]
              refine take_d (i := 11) 103 (.slice ao n1 cap) rfl rfl (by kernel_rfl) (by kernel_rfl) (by kernel_rfl) (fun _ _ _ h => h) (Or.inl ⟨by rfl, ?_⟩) hSS ?_
              (focus (intro w' hw'; first | (go_simp; done) | (go_simp; simp [hab]; done) | (go_simp; simp [hab2]; done)))
              simp only [Act.put, List.setIfInBounds_toArray, List.set_cons_zero, List.set_cons_succ]
              refine take_d (i := 12) 104 (.slice ao2 n2 cap2) rfl rfl (by kernel_rfl) (by kernel_rfl) (by kernel_rfl) (fun _ _ _ h => h) (Or.inl ⟨by rfl, ?_⟩) hSS ?_
              (focus (intro w' hw'; first | (go_simp; done) | (go_simp; simp [hab]; done) | (go_simp; simp [hab2]; done)))
              simp only [Act.put, List.setIfInBounds_toArray, List.set_cons_zero, List.set_cons_succ]
              refine wpAnyH_ready (rs := [13]) (by kernel_rfl) (by simp) (AllReadyH.cons rfl (fun K1 hK1 => ?_) AllReadyH.nil)
              rw [if_pos (by rfl)]
              go_simp
              refine (alike_any _ _ a b _ (by have := HAA.out.keep hSS; rwa [← HAL.out.1.1] at this ⊢) (by have := HAB.out.keep hSS; rwa [← HAL.out.2.1] at this ⊢) (by have := HAL.out.1; omega) (by have := HAL.out.2; omega)).mono ?_
              rintro e w8 ⟨rfl, hd⟩
              rw [← HQ.out]
              have hSS2 : Below w6.heap.size w6 w8 := by
                obtain ⟨nd, rfl⟩ := hd.out
                exact hSS.trans ⟨rfl, rfl, rfl, Nat.le_refl _, fun _ _ => rfl⟩
              clear hd hSS
              refine hK1.out _ _ hSS2 (fun hSS => ?_)
              try simp only [Act.put, List.setIfInBounds_toArray, List.set_cons_zero, List.set_cons_succ]
              refine take_d (i := 14) 106 (.bool true) rfl rfl (by kernel_rfl) (by kernel_rfl) (by kernel_rfl) (fun _ _ _ h => h) (Or.inl ⟨by rfl, ?_⟩) hSS ?_
              (focus (intro w' hw'; first | (go_simp; done) | (go_simp; simp [hab]; done) | (go_simp; simp [hab2]; done)))
              simp only [Act.put, List.setIfInBounds_toArray, List.set_cons_zero, List.set_cons_succ]
              refine take_d (i := 15) 107 (.bool true) rfl rfl (by kernel_rfl) (by kernel_rfl) (by kernel_rfl) (fun _ _ _ h => h) (Or.inl ⟨by rfl, ?_⟩) hSS ?_
              (focus (intro w' hw'; first | (go_simp; done) | (go_simp; simp [hab]; done) | (go_simp; simp [hab2]; done)))
              simp only [Act.put, List.setIfInBounds_toArray, List.set_cons_zero, List.set_cons_succ]
              refine wpAnyH_ready (rs := [16]) (by kernel_rfl) (by simp) (AllReadyH.cons rfl (fun K2 hK2 => ?_) AllReadyH.nil)
              rw [if_pos (by rfl)]
              go_simp
              refine hK2.out _ _ hSS (fun _ => ?_)
              refine wpAnyH_done (by kernel_rfl) ?_ _
              go_wp2_with fail
              go_ret
              exact ⟨rfl, HBL.out.trans (hSS.mono HBL.out.size)⟩
            · have qe2 : ((f1 : Int) != 0) = true := by rw [bne_iff_ne]; omega
              clear qf q0
              go_wp2_with fail
              go_ret
              exact ⟨rfl, HBL.out⟩
          · have qe1 : ((f1 : Int) != (f2 : Int)) = true := by rw [bne_iff_ne]; omega
            clear qf
            go_wp2_with fail
            go_ret
            exact ⟨rfl, HBL.out⟩
    | succ m =>
      have hwi : IntKind.i64.wrap ((i : Int) + 1) = (i : Int) + 1 := IntWalk.i64_in _ (by have := HM.out; omega)
      have hML : i < M := by omega
      by_cases qa : i < n1
      · obtain ⟨r, hrr⟩ : ∃ r, os[i]? = some r := ⟨_, List.getElem?_eq_getElem (by have := HL.out.2; omega)⟩
        obtain ⟨ad, rfl⟩ := HL.out.1.rec_some hrr
        obtain ⟨_, _, _, k3⟩ := HL.out.1.rec hrr
        have hsl := strLen r.val
        have qai : (i : Int) < (n1 : Int) := by omega
        have HRR := Lib.hid hrr
        clear hrr
        by_cases qv : 500 < r.val.length
        · have qvi : (500 : Int) < (r.val.length : Int) := by omega
          clear qa qv
          go_wp2_with fail
          go_ret
          exact ⟨rfl, HB.out⟩
        · have qvi : ¬ (500 : Int) < (r.val.length : Int) := by omega
          have HV1 := Lib.hid (take_snocP HV.out HRR.out (p := fun r => r.val.length ≤ 500) (by omega))
          clear qv
          by_cases qb : i < n2
          · obtain ⟨r2, hrr2⟩ : ∃ r, os2[i]? = some r := ⟨_, List.getElem?_eq_getElem (by have := HL2.out.2; omega)⟩
            obtain ⟨ad2, rfl⟩ := HL2.out.1.rec_some hrr2
            obtain ⟨_, _, _, g3⟩ := HL2.out.1.rec hrr2
            have hsl2 := strLen r2.val
            have qbi : (i : Int) < (n2 : Int) := by omega
            have HRR2 := Lib.hid hrr2
            clear hrr2
            by_cases qw : 500 < r2.val.length
            · have qwi : (500 : Int) < (r2.val.length : Int) := by omega
              clear qa qw qb
              go_wp2_with fail
              go_ret
              exact ⟨rfl, HB.out⟩
            · have qwi : ¬ (500 : Int) < (r2.val.length : Int) := by omega
              have HV3 := Lib.hid (take_snocP HV2.out HRR2.out (p := fun r => r.val.length ≤ 500) (by omega))
              clear qw qa qb
              go_wp2_with fail
              go_roundg m
              case measure => omega
              case rel => exact ⟨i + 1, by omega, by go_num, HV1, HV3, rfl⟩
          · have qbi : ¬ (i : Int) < (n2 : Int) := by omega
            have HV3 := Lib.hid (take_overP HV2.out (p := fun r => r.val.length ≤ 500) (by have := HL2.out.2; omega))
            clear qa qb
            go_wp2_with fail
            go_roundg m
            case measure => omega
            case rel => exact ⟨i + 1, by omega, by go_num, HV1, HV3, rfl⟩
      · have qai : ¬ (i : Int) < (n1 : Int) := by omega
        have HV1 := Lib.hid (take_overP HV.out (p := fun r => r.val.length ≤ 500) (by have := HL.out.2; omega))
        have qb : i < n2 := by have := HM.out; omega
        obtain ⟨r2, hrr2⟩ : ∃ r, os2[i]? = some r := ⟨_, List.getElem?_eq_getElem (by have := HL2.out.2; omega)⟩
        obtain ⟨ad2, rfl⟩ := HL2.out.1.rec_some hrr2
        obtain ⟨_, _, _, g3⟩ := HL2.out.1.rec hrr2
        have hsl2 := strLen r2.val
        have qbi : (i : Int) < (n2 : Int) := by omega
        have HRR2 := Lib.hid hrr2
        clear hrr2
        by_cases qw : 500 < r2.val.length
        · have qwi : (500 : Int) < (r2.val.length : Int) := by omega
          clear qa qw qb
          go_wp2_with fail
          go_ret
          exact ⟨rfl, HB.out⟩
        · have qwi : ¬ (500 : Int) < (r2.val.length : Int) := by omega
          have HV3 := Lib.hid (take_snocP HV2.out HRR2.out (p := fun r => r.val.length ≤ 500) (by omega))
          clear qw qa qb
          go_wp2_with fail
          go_roundg m
          case measure => omega
          case rel => exact ⟨i + 1, by omega, by go_num, HV1, HV3, rfl⟩
end Go.Proofs.Ythgbkncanoknkaa
