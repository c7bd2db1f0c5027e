/-
  The walk of ChooseTurned.
-/
import Derived.Test.YtdhnmcdgiddhdabLChooseOrder
import Derived.Test.YtdhnmcdgiddhdabPureTurn
set_option linter.unusedVariables false
set_option linter.unusedSimpArgs false
namespace Go.Proofs.Ytdhnmcdgiddhdab
open Go.RowKit Go.ChangeShapes Go.WideShapes
set_option maxRecDepth 100000
theorem infoUL : (Try.prog.info? 42).map (fun i => (i.zero, i.size, i.bytes)) = some (some (.agg #[.int .i64 0, .int .i64 0, .int .i64 0, .int .u64 0]), 4, 32) := by kernel_rfl
theorem uvL_append (a b : List UseP) : uvL (a ++ b) = uvL a ++ uvL b := by simp [uvL]
theorem uvL_len (us : List UseP) : (uvL us).length = us.length * 4 := by
  unfold uvL
  rw [rows_flat_len _ 4 (by intro r hr; obtain ⟨u, _, rfl⟩ := List.mem_map.1 hr; rfl), List.length_map]
theorem uvL_one (us : List UseP) : ∀ u ∈ uvL us, u.oneCell' = true := by
  intro u hu
  unfold uvL at hu
  rw [List.mem_flatten] at hu
  obtain ⟨l, hl, hu⟩ := hu
  obtain ⟨x, _, rfl⟩ := List.mem_map.1 hl
  unfold useL at hu
  simp only [List.mem_cons, List.not_mem_nil, or_false] at hu
  rcases hu with rfl | rfl | rfl | rfl <;> rfl
theorem useL_one (u : UseP) : ∀ z ∈ useL u, z.oneCell' = true := fun z hz => uvL_one [u] z (by simpa [uvL] using hz)
theorem uvL_take (us : List UseP) (k : Nat) (h : k ≤ us.length) : (uvL us).take (k * 4) = uvL (us.take k) := by
  have e : uvL us = uvL (us.take k) ++ uvL (us.drop k) := by rw [← uvL_append, List.take_append_drop]
  rw [e, List.take_append_of_le_length (by rw [uvL_len, List.length_take]; omega), List.take_of_length_le (by rw [uvL_len, List.length_take]; omega)]
theorem uvL_drop (us : List UseP) (k : Nat) (h : k ≤ us.length) : (uvL us).drop (k * 4) = uvL (us.drop k) := by
  have e : uvL us = uvL (us.take k) ++ uvL (us.drop k) := by rw [← uvL_append, List.take_append_drop]
  have el : (uvL (us.take k)).length = k * 4 := by rw [uvL_len, List.length_take]; omega
  rw [e, ← el, List.drop_left]
set_option maxHeartbeats 8000000 in
theorem ChooseTurned_walk (w : World) (v : Value) (n : Nat) (os : List UseP) (rd : Rd w 4 v n (uvL os) ∧ os.length = n ∧ ∀ o ∈ os, o.age < 18446744073709551616 ∧ (Lit.int .i64 o.num).wf = true ∧ (Lit.int .i64 o.dead).wf = true ∧ (Lit.int .i64 o.all).wf = true) (sz : n * 32 ≤ 140737488351232) (wt : Int) (wf : (Lit.int .u64 wt).wf = true) (turn : Int) (wf2 : (Lit.int .i64 turn).wf = true) :
    Calls Try.prog 4 #[v, .int .u64 wt, .int .i64 turn] w fun e w' => e = .returned (.bool true) ∧ Below w.heap.size w w' := by
  obtain ⟨i0, i0a, i0b, i0c, i0d⟩ := info_parts infoUL
  obtain ⟨hrd, rfl, hos⟩ := rd
  have hwb := bounds_u64 wf
  obtain ⟨W, rfl⟩ := Int.eq_ofNat_of_zero_le hwb.1
  have hW : W < 18446744073709551616 := by omega
  have hWn : ((W : Int).toNat) = W := by simp
  have H0 := Lib.hid hrd
  obtain ⟨ao, cap, rfl⟩ := hrd.shape
  have hsm := hrd.small
  clear hrd wf sz hwb
  go_enter Try.func4, Try.ntmps4
  go_wp2_with fail
  refine (begun27 w).mono ?_
  rintro e w1 ⟨rfl, hb⟩
  have hS1 := ((St.init w).mono hb).one_nil
  clear hb
  go_wp2_with fail
  go_loopg [8, 9, 10] (min os.length 20) (fun m s8 s9 s10 wr => ∃ i : Nat, i + m = min os.length 20 ∧ s9 = .int .i64 (i : Int) ∧ ∃ c, RowC 42 4 s8 i (uvL (mT os i)) c ∧ St w.heap.size w wr [c])
  case atStart => exact ⟨0, by omega, rfl, [], RowC.nil _ _, hS1⟩
  case round =>
    clear hS1
    obtain ⟨i, hi, rfl, c, hr, hS⟩ := hrel
    obtain ⟨ao8, cap8, rfl⟩ := hr.shape
    cases gk with
    | succ m =>
      have hlt : (i : Int) < (os.length : Int) := by omega
      have hlt2 : (i : Int) < 20 := by omega
      obtain ⟨u, hu⟩ : ∃ u, os[i]? = some u := ⟨_, List.getElem?_eq_getElem (by omega)⟩
      obtain ⟨ad, rfl⟩ : ∃ ad, ao = some ad := by
        obtain ⟨ad, e, _⟩ := H0.out.at (j := i * 4 + 0) (by rw [uvL_get os i 0 u hu (by omega)]; rfl)
        exact ⟨ad, e⟩
      obtain ⟨k0, k1, k2, k3⟩ := uvL_use (H0.out.st hS) hu
      have HT : Hid (uvL (mT os i) ++ useL (reN i u) = uvL (mT os (i + 1))) := Lib.hid (by rw [mT_succ hu, uvL_append]; simp [uvL])
      clear hu
      have hS2 := (hS.alloc' (.cells #[.int .i64 ((i : Int) + 1), .int .i64 u.dead, .int .i64 u.all, .int .u64 (u.age : Int)] 42)).alloc' (.cells #[.int .i64 ((i : Int) + 1), .int .i64 u.dead, .int .i64 u.all, .int .u64 (u.age : Int)] 42)
      have hone : Rd ((wr.alloc (.cells #[.int .i64 ((i : Int) + 1), .int .i64 u.dead, .int .i64 u.all, .int .u64 (u.age : Int)] 42)).alloc (.cells #[.int .i64 ((i : Int) + 1), .int .i64 u.dead, .int .i64 u.all, .int .u64 (u.age : Int)] 42)) 4 (.slice (some ⟨wr.heap.size + 1, 0, none⟩) 1 1) 1 (useL (reN i u)) := by
        have := Rd.lits4 (wr.alloc (.cells #[.int .i64 ((i : Int) + 1), .int .i64 u.dead, .int .i64 u.all, .int .u64 (u.age : Int)] 42)) #[.int .i64 ((i : Int) + 1), .int .i64 u.dead, .int .i64 u.all, .int .u64 (u.age : Int)] 42 rfl
        rw [show (wr.alloc (.cells #[.int .i64 ((i : Int) + 1), .int .i64 u.dead, .int .i64 u.all, .int .u64 (u.age : Int)] 42)).heap.size = wr.heap.size + 1 from by simp] at this
        exact this
      go_wp2_with (at_builtin; (refine wpList_app 0 22 i0 (.agg #[.int .i64 0, .int .i64 0, .int .i64 0, .int .u64 0]) _ _ rfl rfl rfl rfl Try.underlying22 i0a i0b i0c i0d rfl (by decide) hS2 rfl hr hone (useL_one (reN i u)) ?_ ?_ ?_); (unfold maxLen; omega); omega; intro v1 c1 w3 hr1 hS3)
      rw [HT.out] at hr1
      go_roundg m
      case measure => omega
      case rel => exact ⟨i + 1, by omega, by go_num, c1, hr1, hS3⟩
    | zero =>
      have hiL : i ≤ os.length := by omega
      have hi20 : i ≤ 20 := by omega
      have hml := mT_length os i hiL
      have hend : ¬ ((i : Int) < (os.length : Int) ∧ (i : Int) < 20) := by omega
      have HAGE : Hid (∀ o ∈ mT os i, o.age < 18446744073709551616) := Lib.hid (mT_age (fun o ho => (hos o ho).1))
      have HR := Lib.hid (And.intro hr (And.intro hS hml))
      have hgo : ∀ (P : Prop), ((i : Int) < (os.length : Int) → ¬ (i : Int) < 20 → P) → (¬ (i : Int) < (os.length : Int) → P) → P := fun P h1 h2 => by
        by_cases q : (i : Int) < (os.length : Int)
        · exact h1 q (fun q2 => hend ⟨q, q2⟩)
        · exact h2 q
      have HGO := Lib.hid hgo
      clear hr hS hml hend hgo hos hi
      by_cases q0 : i = 0
      · have q0i : ((i : Int) == 0) = true := by rw [q0]; rfl
        refine HGO.out _ (fun p1 p2 => ?_) (fun p1 => ?_)
        all_goals (
          clear q0
          go_wp2_with fail
          go_ret
          exact ⟨rfl, HR.out.2.1.below⟩)
      have q0i : ((i : Int) == 0) = false := by simp; exact q0
      by_cases q1 : turn < 0
      · refine HGO.out _ (fun p1 p2 => ?_) (fun p1 => ?_)
        all_goals (
          clear q0
          go_wp2_with fail
          go_ret
          exact ⟨rfl, HR.out.2.1.below⟩)
      obtain ⟨t, rfl⟩ := Int.eq_ofNat_of_zero_le (show 0 ≤ turn by omega)
      obtain ⟨k, hk⟩ : ∃ k, t % i = k := ⟨_, rfl⟩
      have hki : k < i := by rw [← hk]; exact Nat.mod_lt _ (by omega)
      have htm : Int.tmod (t : Int) (i : Int) = (k : Int) := by rw [Int.tmod_eq_emod_of_nonneg (by omega), ← hk]; simp
      obtain ⟨g8, rfl⟩ := HR.out.1.head (by omega)
      obtain ⟨hc1, hc2⟩ := HR.out.1.cap
      have hkI : (k : Int) < (i : Int) := by omega
      have hkI2 : (k : Int) ≤ (i : Int) := by omega
      have hkc : ¬ cap8 = k := by omega
      have hkc2 : (k : Int) ≤ (cap8 : Int) := by omega
      have hiz : ¬ (i : Int) = 0 := by omega
      clear hk q0
      have HRD1 : Hid (∀ wx, St w.heap.size w wx [[], c] → Rd wx 4 (.slice (some ⟨g8, k * 4, none⟩) (i - k) (cap8 - k)) (i - k) (uvL ((mT os i).drop k))) := Lib.hid (fun wx hSx => by
        have := (HR.out.1.rd hSx 1 rfl).drop (ao' := some ⟨g8, k * 4, none⟩) k (by omega) (fun _ => by simp [Addr.add_lit]) (fun e => by omega)
        rw [uvL_drop _ _ (by rw [HR.out.2.2]; omega)] at this
        exact this)
      have HRD2 : Hid (∀ wx c1, St w.heap.size w wx [c1, c] → Rd wx 4 (.slice (some ⟨g8, 0, none⟩) k cap8) k (uvL ((mT os i).take k))) := Lib.hid (fun wx c1 hSx => by
        have := (HR.out.1.rd hSx 1 rfl).take k (by omega)
        rw [uvL_take _ _ (by rw [HR.out.2.2]; omega)] at this
        exact this)
      have hSn := HR.out.2.1.one_nil.drew
      refine HGO.out _ (fun p1 p2 => ?_) (fun p1 => ?_)
      all_goals (
        go_wp2_with fail
        go_region_law (first
          | (refine step_app (sz := 4) (n := 0) (m := i - k) (xs := []) (news := uvL ((mT os i).drop k)) (v := .slice none 0 0) (vx := .slice (some ⟨g8, k * 4, none⟩) (i - k) (cap8 - k)) 0 22 i0 (.agg #[.int .i64 0, .int .i64 0, .int .i64 0, .int .u64 0]) (.const (.slice none 0 0)) (.tmp 58) rfl rfl (by kernel_rfl) (by kernel_rfl) Try.underlying22 i0a i0b i0c i0d rfl (by decide) hSn rfl (RowC.nil 42 4) (HRD1.out _ hSn) (uvL_one _) (by unfold maxLen; omega) (by omega) (fun v1 c1 w3 hr1 hS3 => ?_))
          | (refine step_app (sz := 4) (n := 0 + (i - k)) (m := k) (xs := [] ++ uvL ((mT os i).drop k)) (news := uvL ((mT os i).take k)) (v := v1) (vx := .slice (some ⟨g8, 0, none⟩) k cap8) 0 22 i0 (.agg #[.int .i64 0, .int .i64 0, .int .i64 0, .int .u64 0]) (.tmp 59) (.tmp 62) rfl rfl (by kernel_rfl) (by kernel_rfl) Try.underlying22 i0a i0b i0c i0d rfl (by decide) hS3 rfl hr1 (HRD2.out _ _ hS3) (uvL_one _) (by unfold maxLen; omega) (by omega) (fun v2 c2 w4 hr2 hS4 => ?_)))
        have hr3 : RowC 42 4 v2 ((mT os i).drop k ++ (mT os i).take k).length (uvL ((mT os i).drop k ++ (mT os i).take k)) c2 := by
          have e : ((mT os i).drop k ++ (mT os i).take k).length = 0 + (i - k) + k := by
            rw [List.length_append, List.length_drop, List.length_take, HR.out.2.2]
            omega
          rw [e, uvL_append]
          exact hr2
        have hl3 : ((mT os i).drop k ++ (mT os i).take k).length = i := by
          rw [List.length_append, List.length_drop, List.length_take, HR.out.2.2]
          omega
        obtain ⟨ao3, cap3, rfl⟩ := hr3.shape
        have hrm : RowC 42 4 (.slice (some ⟨g8, 0, none⟩) i cap8) (mT os i).length (uvL (mT os i)) c := by
          rw [HR.out.2.2]
          exact HR.out.1
        have HT := Lib.hid (And.intro hr3 (And.intro hrm hS4))
        have HLAW := Lib.hid (fun js js' => turned (W := W) (k := k) hiL (js := js) (js' := js'))
        have HAG2 : Hid (∀ o ∈ (mT os i).drop k ++ (mT os i).take k, o.age < 18446744073709551616) := Lib.hid (fun o ho => by
          rcases List.mem_append.1 ho with h | h
          · exact HAGE.out o (List.mem_of_mem_drop h)
          · exact HAGE.out o (List.mem_of_mem_take h))
        have HLL := Lib.hid (And.intro HR.out.2.2 hl3)
        clear hr1 hS3 hr2 hS4 hr3 hrm HRD1 HRD2 hSn hl3
        generalize (mT os i).drop k ++ (mT os i).take k = ts at *
        generalize mT os i = ms at *
        go_wp2_with fail
        have e30 : ms.take 30 = ms := List.take_of_length_le (by have := HLL.out.1; omega)
        have e30' : ts.take 30 = ts := List.take_of_length_le (by have := HLL.out.2; omega)
        have HC1 := Lib.hid (e30 ▸ cut27_any _ ms w4 (HT.out.2.1.rd HT.out.2.2 1 rfl))
        have HE := Lib.hid e30'
        clear e30 e30'
        refine HC1.out.mono ?_
        rintro e w5 ⟨va, vb, ca, cb, rfl, ha, hb, hS5⟩
        obtain ⟨aoa, capa, rfl⟩ := ha.shape
        obtain ⟨aob, capb, rfl⟩ := hb.shape
        have H5 := Lib.hid (And.intro (HT.out.2.2.join hS5) ha)
        clear ha hb hS5 HC1
        go_wp2_with fail
        have HC2 := Lib.hid (HE.out ▸ cut27_any _ ts w5 (HT.out.1.rd H5.out.1 2 rfl))
        refine HC2.out.mono ?_
        rintro e w6 ⟨va2, vb2, ca2, cb2, rfl, ha, hb, hS6⟩
        obtain ⟨aoa2, capa2, rfl⟩ := ha.shape
        obtain ⟨aob2, capb2, rfl⟩ := hb.shape
        have H6 := Lib.hid (And.intro (H5.out.1.join hS6) ha)
        clear ha hb hS6 HC2
        go_wp2_with fail
        refine (chorder_any _ ms W w6 (H5.out.2.rd H6.out.1 2 rfl) hW HAGE.out (by have := HLL.out.1; omega)).mono ?_
        rintro e w7 ⟨vx, js, cx, rfl, hx, hsp, hS7⟩
        obtain ⟨aox, capx, rfl⟩ := hx.shape
        have hjl : (js.length : Int) ≤ 20 := by have := hsp.length; have := HLL.out.1; omega
        have H7 := Lib.hid (And.intro (H6.out.1.join hS7) (And.intro hx hsp))
        clear hx hsp hS7
        go_wp2_with fail
        refine (chorder_any _ ts W w7 (H6.out.2.rd H7.out.1 1 rfl) hW HAG2.out (by have := HLL.out.2; omega)).mono ?_
        rintro e w8 ⟨vy, js', cy, rfl, hy, hsp', hS8⟩
        have hlaw := HLAW.out js js' H7.out.2.2 hsp'
        have hjj : js'.length = js.length := by have := congrArg List.length hlaw; simpa using this.symm
        rw [← hlaw, hjj] at hy
        obtain ⟨aoy, capy, rfl⟩ := hy.shape
        have H8 := Lib.hid (And.intro (H7.out.1.join hS8) hy)
        have hjne : ((js.length : Int) != (js.length : Int)) = false := by simp
        clear hy hsp' hS8 hlaw hjj
        go_wp2_with fail
        go_loopg [20] js.length (fun m s20 wx => ∃ q : Nat, q + m = js.length ∧ s20 = .int .i64 (q : Int) ∧ Drew w8 wx)
        case atStart => exact ⟨0, by omega, rfl, Drew.refl _⟩
        case round =>
          obtain ⟨q, hq, rfl, hd⟩ := hrel
          have hS := H8.out.1.Drew hd
          cases gk with
          | succ m =>
            have hif : (q : Int) < (js.length : Int) := by omega
            obtain ⟨z, hz⟩ : ∃ z, (js.map (numU ms))[q]? = some z := ⟨_, List.getElem?_eq_getElem (by simp; omega)⟩
            obtain ⟨ad1, rfl, hcx⟩ := (H7.out.2.1.rd hS 1 rfl).at (iv_get _ q z hz)
            obtain ⟨ad2, rfl, hcy⟩ := (H8.out.2.rd hS 0 rfl).at (iv_get _ q z hz)
            have hne2 : (z != z) = false := by simp
            have HD := Lib.hid hd
            clear hz hS hd
            go_wp2_with (first | ((with_reducible refine wpStill_plain ?_ ?_ (fun _ _ => ?_)); rfl; rfl) | (with_reducible refine wpStill_nil ?_) | ((with_reducible refine wp_draw_all (id := 24) mixed ?_ (fun _ _ => ?_)); kernel_rfl))
            go_roundg m
            case measure => omega
            case rel => exact ⟨q + 1, by omega, by go_num, HD.out.more (Drew.mk _ 1)⟩
          | zero =>
            obtain rfl : q = js.length := by omega
            have hz : ¬ (js.length : Int) < (js.length : Int) := by omega
            have HB := Lib.hid hS.below
            clear hS hd hq
            go_wp2_with fail
            go_ret
            exact ⟨rfl, HB.out⟩)
end Go.Proofs.Ytdhnmcdgiddhdab
