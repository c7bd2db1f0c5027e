/-
  The walk of ScoreSort.
-/
import Derived.Test.YtfnmbfhlfblkhabLScoreBest
import Derived.Test.YtfnmbfhlfblkhabAppG
set_option linter.unusedVariables false
set_option linter.unusedSimpArgs false
namespace Go.Proofs.Ytfnmbfhlfblkhab
open Go.RowKit Go.ChangeShapes Go.WideShapes
set_option maxRecDepth 100000
/-- In order: no one stands ahead of the one ahead of it. -/
def Sorted (l : List Nat) : Prop := ∀ (i a b : Nat), l[i]? = some a → l[i + 1]? = some b → lessP b a = false
theorem less_not' (a b : Nat) (h : lessP a b = true) : lessP b a = false := by
  unfold lessP at *
  cases hna : nanB a <;> cases hnb : nanB b <;> simp [hna, hnb] at h ⊢
  omega
theorem sorted_insert (l : List Nat) (k x : Nat) (hk : k ≤ l.length) (h : Sorted l) (h1 : ∀ j y, j < k → l[j]? = some y → lessP x y = false) (h2 : ∀ y, l[k]? = some y → lessP x y = true) : Sorted (l.take k ++ [x] ++ l.drop k) := by
  intro i a b ha hb
  have e : ∀ j, (l.take k ++ [x] ++ l.drop k)[j]? = if j < k then l[j]? else if j = k then some x else l[j - 1]? := by
    intro j
    rw [List.append_assoc, List.getElem?_append]
    have hlk : (l.take k).length = k := by rw [List.length_take]; omega
    rw [hlk]
    by_cases c : j < k
    · rw [if_pos c, if_pos c, List.getElem?_take, if_pos c]
    · rw [if_neg c, if_neg c]
      by_cases c2 : j = k
      · subst c2; simp
      · rw [if_neg c2]
        obtain ⟨q, hq⟩ : ∃ q, j - k = q + 1 := ⟨j - k - 1, by omega⟩
        rw [hq]
        simp only [List.singleton_append, List.getElem?_cons_succ, List.getElem?_drop]
        congr 1
        omega
  rw [e] at ha hb
  by_cases c1 : i + 1 < k
  · rw [if_pos (by omega)] at ha
    rw [if_pos c1] at hb
    exact h i a b ha hb
  · rw [if_neg c1] at hb
    by_cases c2 : i + 1 = k
    · rw [if_pos c2] at hb
      rw [if_pos (by omega)] at ha
      cases hb
      exact h1 i a (by omega) ha
    · rw [if_neg c2] at hb
      rw [if_neg (by omega)] at ha
      by_cases c3 : i = k
      · rw [if_pos c3] at ha
        cases ha
        subst c3
        simp only [Nat.add_sub_cancel] at hb
        exact less_not' _ _ (h2 b hb)
      · rw [if_neg c3] at ha
        refine h (i - 1) a b ha ?_
        rw [Nat.sub_add_cancel (by omega)]
        simpa using hb
theorem sorted_nil : Sorted [] := by intro i a b ha; simp at ha
def keyP (x : Nat) : Int := if nanB x then 0 else fkey x
theorem refkey_kp (a : Nat) (w : World) (ha : a < 18446744073709551616) : Calls Try.prog 14 #[.float .f64 a] w fun e w' => e = .returned (.tuple #[.bool (!nanB a), .int .i64 (keyP a)]) ∧ w = w' := refkey_any a w ha
theorem less_false (a b : Nat) (h : lessP b a = false) : ¬ (nanB a = false ∧ nanB b = true) ∧ (nanB a = false → nanB b = false → ¬ keyP b < keyP a) := by
  unfold lessP at h
  refine ⟨fun ⟨h1, h2⟩ => ?_, fun h1 h2 => ?_⟩
  · simp [h1, h2] at h
  · simp only [h1, h2, Bool.or_self, Bool.false_eq_true, if_false, decide_eq_false_iff_not] at h
    simpa [keyP, h1, h2] using h
/-- 'x[:k:k]'. -/
theorem Rd.capTo {w : World} {sz n cap : Nat} {ao : Option Addr} {xs : List Value} (h : Rd w sz (.slice ao n cap) n xs) (k : Nat) (hk : k ≤ n) : Rd w sz (.slice ao k k) k (xs.take (k * sz)) := by
  obtain ⟨ao', cap', h1, h2, h3, h4, h5⟩ := h
  simp only [Value.slice.injEq, true_and] at h1
  obtain ⟨rfl, rfl⟩ := h1
  refine ⟨ao, k, rfl, ⟨by omega, by omega⟩, ?_, fun e => ?_, fun ad e j u hu => ?_⟩
  · rw [List.length_take, h3]
    exact Nat.min_eq_left (Nat.mul_le_mul_right _ hk)
  · have := h4 e
    omega
  · rw [List.getElem?_take] at hu
    split at hu
    · exact h5 ad e j u hu
    · simp at hu
theorem fv_insert (l : List Nat) (k x : Nat) : (fv l).take (k * 1) ++ ([Value.float .f64 x] ++ (fv l).drop (k * 1)) = fv (l.take k ++ [x] ++ l.drop k) := by
  simp [fv, List.map_take, List.map_drop]
theorem len_insert (l : List Nat) (k x : Nat) (hk : k ≤ l.length) : (l.take k ++ [x] ++ l.drop k).length = l.length + 1 := by
  simp
  omega
theorem mem_insert (l : List Nat) (k x : Nat) (h : ∀ y ∈ l, y < 18446744073709551616) (hx : x < 18446744073709551616) : ∀ y ∈ l.take k ++ [x] ++ l.drop k, y < 18446744073709551616 := by
  intro y hy
  simp only [List.mem_append, List.mem_singleton] at hy
  rcases hy with (hy | rfl) | hy
  · exact h y (List.mem_of_mem_take hy)
  · exact hx
  · exact h y (List.mem_of_mem_drop hy)
set_option maxHeartbeats 8000000 in
theorem ScoreSort_walk (w : World) (v : Value) (n : Nat) (zs : List Int) (rd : Rd w 1 v n (zs.map (Value.int .u64))) (wf : ∀ z ∈ zs, (Lit.int .u64 z).wf = true) (sz : n * 8 ≤ 140737488351232) :
    Calls Try.prog 4 #[v] w fun e w' => e = .returned (.bool true) ∧ Below w.heap.size w w' := by
  obtain ⟨i0, i0a, i0b, i0c, i0d⟩ := info_parts infoF64
  obtain ⟨xs, rfl, hxs⟩ := words_of zs wf
  have hlen := rd.len
  simp only [List.length_map, Nat.mul_one] at hlen
  obtain ⟨ao, cap, rfl⟩ := rd.shape
  have hnl : (n : Int) ≤ 140737488351232 := by omega
  clear wf
  go_enter Try.func4, Try.ntmps4
  go_wp2_with fail
  refine (begun12 w).mono ?_
  rintro e w1 ⟨rfl, hbel⟩
  have hS := ((St.init w).mono hbel).one_nil
  clear hbel
  go_wp2_with fail
  go_loopg [4, 5] (min n 25) (fun m s4 s5 wr => ∃ i : Nat, i + m = min n 25 ∧ s5 = .int .i64 (i : Int) ∧ ∃ l c, RowC 25 1 s4 l.length (fv l) c ∧ St w.heap.size w wr [c] ∧ l.length = i ∧ Hid (Sorted l ∧ ∀ x ∈ l, x < 18446744073709551616))
  case atStart => exact ⟨0, by omega, rfl, [], [], RowC.nil _ _, hS, rfl, Lib.hid ⟨sorted_nil, by simp⟩⟩
  case round =>
    clear hS
    obtain ⟨i, hi, rfl, l, c, hr, hS, hli, HS⟩ := hrel
    subst hli
    obtain ⟨ao2, cap2, rfl⟩ := hr.shape
    have hl25 : (l.length : Int) ≤ 25 := by omega
    cases gk with
    | succ m =>
      have hlt : (l.length : Int) < n := by omega
      have hlt2 : (l.length : Int) < 25 := by omega
      obtain ⟨x, hx⟩ : ∃ x, xs[l.length]? = some x := ⟨_, List.getElem?_eq_getElem (by omega)⟩
      have hx64 := hxs x (List.mem_of_getElem? hx)
      obtain ⟨ad, rfl, hcell⟩ := (rd.keep hS.below).at (j := l.length) (u := .int .u64 (x : Int)) (by simp [hx])
      clear hx
      go_wp2_with fail
      have hx64' : ((x : Int).toNat) = x := by simp
      go_loopg [7] l.length (fun m s7 wk => ∃ k : Nat, k + m = l.length ∧ s7 = .int .i64 (k : Int) ∧ Hid (∀ j y, j < k → l[j]? = some y → lessP x y = false) ∧ St w.heap.size w wk [c])
      case atStart => exact ⟨0, by omega, rfl, Lib.hid (by intro j y h; omega), hS⟩
      case round =>
        clear hS
        obtain ⟨k, hk, rfl, HL, hS⟩ := hrel
        have hcp := (hr.rd hS 0 rfl).cap
        cases gk with
        | zero =>
          obtain rfl : k = l.length := by omega
          clear hk
          have hS1 := hS.drew.alloc' (.cells #[.float .f64 x] 25)
          have hrd := hr.rd hS1 0 rfl
          by_cases hck : cap2 = l.length
          · subst hck
            cases ao2 with
            | some g =>
              go_wp2_with fail
              go_region_law (refine step_appG (n := l.length) (m := 1) (xs := (fv l).take (l.length * 1)) (news := [.float .f64 x]) 24 i0 (.float .f64 0) _ _ rfl rfl rfl rfl Try.underlying24 i0a i0b i0c i0d rfl (by decide) hS1 (hrd.capTo l.length (Nat.le_refl _)) (Rd.one _ _ _) (by omega) (by omega) (by unfold maxLen; omega) (by omega) (fun v1 c1 w2 hr1 hS2 => ?_))
              go_wp2_with fail
              go_roundg m
              case measure => omega
              case rel =>
                have hfv := fv_insert l l.length x
                rw [show (fv l).drop (l.length * 1) = [] from by simp [fv], List.append_nil] at hfv
                rw [hfv, ← len_insert l l.length x (Nat.le_refl _)] at hr1
                exact ⟨l.length + 1, by omega, by go_num, _, c1, hr1, hS2.pick [0] (by decide) [c1] rfl, by rw [len_insert _ _ _ (Nat.le_refl _)], Lib.hid ⟨sorted_insert l l.length x (Nat.le_refl _) HS.out.1 HL.out (by simp), mem_insert l _ x HS.out.2 hx64⟩⟩
            | none =>
              obtain ⟨h00, h01, h02⟩ := hrd.none_iff
              have hl0 : l = [] := by simpa [fv] using h02
              subst hl0
              go_wp2_with fail
              go_region_law (refine step_appG (n := 0) (m := 1) (xs := []) (news := [.float .f64 x]) 24 i0 (.float .f64 0) _ _ rfl rfl rfl rfl Try.underlying24 i0a i0b i0c i0d rfl (by decide) hS1 (Rd.nil _ 1) (Rd.one _ _ _) (by omega) (by omega) (by unfold maxLen; omega) (by omega) (fun v1 c1 w2 hr1 hS2 => ?_))
              go_wp2_with fail
              go_roundg m
              case measure => omega
              case rel => exact ⟨1, by simp at hi; omega, by go_num, [x], c1, hr1, hS2.pick [0] (by decide) [c1] rfl, rfl, Lib.hid ⟨sorted_insert [] 0 x (Nat.le_refl _) sorted_nil (by intro j y h; omega) (by simp), by simpa using hx64⟩⟩
          · obtain ⟨g, hg⟩ : ∃ g, ao2 = some g := by
              cases ao2 with
              | none => have := hrd.none_iff; omega
              | some g => exact ⟨g, rfl⟩
            subst hg
            · go_wp2_with fail
              go_region_law (refine step_appG (n := l.length) (m := 1) (xs := (fv l).take (l.length * 1)) (news := [.float .f64 x]) 24 i0 (.float .f64 0) _ _ rfl rfl rfl rfl Try.underlying24 i0a i0b i0c i0d rfl (by decide) hS1 (hrd.capTo l.length (Nat.le_refl _)) (Rd.one _ _ _) (by omega) (by omega) (by unfold maxLen; omega) (by omega) (fun v1 c1 w2 hr1 hS2 => ?_))
              go_wp2_with fail
              go_roundg m
              case measure => omega
              case rel =>
                have hfv := fv_insert l l.length x
                rw [show (fv l).drop (l.length * 1) = [] from by simp [fv], List.append_nil] at hfv
                rw [hfv, ← len_insert l l.length x (Nat.le_refl _)] at hr1
                exact ⟨l.length + 1, by omega, by go_num, _, c1, hr1, hS2.pick [0] (by decide) [c1] rfl, by rw [len_insert _ _ _ (Nat.le_refl _)], Lib.hid ⟨sorted_insert l l.length x (Nat.le_refl _) HS.out.1 HL.out (by simp), mem_insert l _ x HS.out.2 hx64⟩⟩
        | succ m2 =>
          have hkl : k < l.length := by omega
          obtain ⟨y, hy⟩ : ∃ y, l[k]? = some y := ⟨_, List.getElem?_eq_getElem hkl⟩
          have hy64 := HS.out.2 y (List.mem_of_getElem? hy)
          obtain ⟨ad2, rfl, hcell2⟩ := (hr.rd hS 0 rfl).at (fv_get l k y hy)
          have hki : (k : Int) < (l.length : Int) := by omega
          have hck : ¬ cap2 = k := by omega
          have hkc : (k : Int) ≤ (cap2 : Int) := by omega
          have hkc2 : k ≤ cap2 := by omega
          have hkle0 : k ≤ l.length := by omega
          have HY := Lib.hid hy
          clear hy
          go_wp2_with fail
          refine (less_any x y _ hx64 hy64).mono ?_
          rintro e w2 ⟨rfl, rfl⟩
          cases hlp : lessP x y with
          | false =>
            have HP := Lib.hid hlp
            clear hlp
            go_wp2_with fail
            go_roundg m2
            case measure => omega
            case rel =>
              refine ⟨k + 1, by omega, by go_num, Lib.hid ?_, hS⟩
              intro j z hj hz
              by_cases hjk : j < k
              · exact HL.out j z hjk hz
              · obtain rfl : j = k := by omega
                rw [HY.out] at hz
                cases hz
                exact HP.out
          | true =>
            have HP := Lib.hid hlp
            clear hlp
            have hSa := hS.drew.alloc (.cells #[.float .f64 x] 25)
            have hrow : RowC 25 1 (.slice (some ⟨wr.heap.size, 0, none⟩) 1 1) 1 [.float .f64 x] [(wr.heap.size, .cells #[.float .f64 x] 25 (0, 0))] := RowC.fresh wr.heap.size [.float .f64 x] rfl (Nat.le_refl 1) (by simp [maxLen]) rfl rfl
            have hrd := hr.rd hSa 1 rfl
            have hdrop : Rd (wr.drew.alloc (.cells #[.float .f64 x] 25)) 1 (.slice (some (ad2.add k)) (l.length - k) (cap2 - k)) (l.length - k) ((fv l).drop (k * 1)) := hrd.drop k (by omega) (fun _ => by simp) (fun e => absurd e hck)
            have hone : ∀ u ∈ (fv l).drop (k * 1), u.oneCell' = true := by
              intro u hu
              obtain ⟨b, _, rfl⟩ := List.mem_map.1 (List.mem_of_mem_drop hu)
              rfl
            go_wp2_with fail
            go_region_law (first | (refine step_app (n := 1) (m := l.length - k) (xs := [.float .f64 x]) (news := (fv l).drop (k * 1)) 0 24 i0 (.float .f64 0) _ _ rfl rfl rfl rfl Try.underlying24 i0a i0b i0c i0d rfl (by decide) hSa rfl hrow hdrop hone (by unfold maxLen; omega) (by omega) (fun v0 c0 w0 hr0 hS0 => ?_)) | (refine step_appG (vx := v0) (n := k) (m := 1 + (l.length - k)) (xs := (fv l).take (k * 1)) (news := [.float .f64 x] ++ (fv l).drop (k * 1)) 24 i0 (.float .f64 0) _ _ rfl rfl rfl rfl Try.underlying24 i0a i0b i0c i0d rfl (by decide) hS0 ((hr.rd hS0 1 rfl).capTo k (by omega)) (hr0.rd hS0 0 rfl) (by omega) (by omega) (by unfold maxLen; omega) (by omega) (fun v1 c1 w2 hr1 hS2 => ?_)))
            go_wp2_with fail
            go_roundg m
            case measure => omega
            case rel =>
              have hkle : k ≤ l.length := by omega
              rw [fv_insert l k x, show k + (1 + (l.length - k)) = l.length + 1 from by omega, ← len_insert l k x hkle] at hr1
              exact ⟨l.length + 1, by omega, by go_num, _, c1, hr1, hS2.pick [0] (by decide) [c1] rfl, by rw [len_insert _ _ _ hkle], Lib.hid ⟨sorted_insert l k x hkle HS.out.1 HL.out (by intro z hz; rw [HY.out] at hz; cases hz; exact HP.out), mem_insert l _ x HS.out.2 hx64⟩⟩
    | zero =>
      have hend : ¬ (l.length : Int) < n ∨ ((l.length : Int) < n ∧ ¬ (l.length : Int) < 25) := by omega
      clear hi
      have hS0 := hS
      clear hS
      rcases hend with q | ⟨q, q2⟩
      all_goals
        go_wp2_with fail
        go_loopg [8] (max l.length 1 - 1) (fun m s8 wq => ∃ j : Nat, j + m = max l.length 1 ∧ 1 ≤ j ∧ s8 = .int .i64 (j : Int) ∧ St w.heap.size w wq [c])
        case atStart => exact ⟨1, by omega, by omega, rfl, hS0⟩
        case round =>
          clear hS0
          obtain ⟨j, hj, hj1, rfl, hS⟩ := hrel
          cases gk with
          | zero =>
            have hjl : ¬ (j : Int) < (l.length : Int) := by omega
            go_wp2_with fail
            go_ret
            exact ⟨rfl, hS.below⟩
          | succ m =>
            have hjl : (j : Int) < (l.length : Int) := by omega
            obtain ⟨a, ha⟩ : ∃ a, l[j - 1]? = some a := ⟨_, List.getElem?_eq_getElem (by omega)⟩
            obtain ⟨b, hb⟩ : ∃ b, l[j]? = some b := ⟨_, List.getElem?_eq_getElem (by omega)⟩
            have ha64 := HS.out.2 a (List.mem_of_getElem? ha)
            have hb64 := HS.out.2 b (List.mem_of_getElem? hb)
            have HLE := Lib.hid (less_false a b (HS.out.1 (j - 1) a b ha (by rw [Nat.sub_add_cancel hj1]; exact hb)))
            have hrd := hr.rd hS 0 rfl
            obtain ⟨ad3, rfl, hca⟩ := hrd.at (fv_get l (j - 1) a ha)
            obtain ⟨ad4, e4, hcb⟩ := hrd.at (fv_get l j b hb)
            cases e4
            clear ha hb
            go_wp2_with fail
            refine (refkey_kp a _ ha64).mono ?_
            rintro e w3 ⟨rfl, rfl⟩
            go_wp2_with fail
            refine (refkey_kp b _ hb64).mono ?_
            rintro e w3 ⟨rfl, rfl⟩
            have hle := HLE.out
            clear HLE
            generalize keyP a = fa at *
            generalize keyP b = fb at *
            cases hna : nanB a <;> cases hnb : nanB b <;> rw [hna, hnb] at hle <;> simp at hle
            all_goals
              go_wp2_with fail
              go_roundg m
              case measure => omega
              case rel => exact ⟨j + 1, by omega, by omega, by go_num, hS⟩
end Go.Proofs.Ytfnmbfhlfblkhab
