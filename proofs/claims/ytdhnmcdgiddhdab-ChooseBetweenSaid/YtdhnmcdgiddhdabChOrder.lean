/-
  Contracts of choose.Order, choose.Worth (of small ones).
-/
import Derived.Test.YtdhnmcdgiddhdabChO
import Derived.BigRegion
set_option linter.unusedVariables false
set_option linter.unusedSimpArgs false
namespace Go.Proofs.Ytdhnmcdgiddhdab
open Go.RowKit
set_option maxRecDepth 100000
theorem infoL : (Try.prog.info? 2).map (fun i => (i.zero, i.size, i.bytes)) = some (some (.int .i64 0), 1, 8) := by kernel_rfl
theorem iv_snoc (f : List Int) (x : Int) : iv f ++ [.int .i64 x] = iv (f ++ [x]) := by simp [iv]
theorem numU_at {us : List UseP} {j : Nat} {u : UseP} (h : us[j]? = some u) : numU us j = u.num := by unfold numU; rw [h]
def NumsOut (W : Nat) (us : List UseP) (w : World) (e : Ending) (w' : World) : Prop := ∃ v js c, e = .returned v ∧ RowC 2 1 v js.length (iv (js.map (numU us))) c ∧ SpecC (okU W us) (rU W us) (numU us) us.length js ∧ St w.heap.size w w' [c]
set_option maxHeartbeats 4000000 in
theorem chorder_any (v : Value) (us : List UseP) (W : Nat) (w : World) (h : Rd w 4 v us.length (uv us)) (hW : W < 18446744073709551616) (hage : ∀ u ∈ us, u.age < 18446744073709551616) (hn : us.length ≤ 300) :
    Calls Try.prog 14 #[v, .float .f64 W] w (NumsOut W us w) := by
  obtain ⟨i0, i0a, i0b, i0c, i0d⟩ := info_parts infoL
  obtain ⟨ao, cap, rfl⟩ := h.shape
  have H0 := Lib.hid (And.intro h hage)
  have hnl : (us.length : Int) ≤ 300 := by omega
  clear h hage
  go_enter Try.func14, Try.ntmps14
  go_wp2_with fail
  refine (chord_any _ us W w H0.out.1 hW H0.out.2 hn).mono ?_
  rintro e w2 ⟨v1, js, c1, rfl, hr1, hsp, hS1⟩
  obtain ⟨ao1, cap1, rfl⟩ := hr1.shape
  have hjl := hsp.length
  have HSP := Lib.hid hsp
  have hjl3 : (js.length : Int) ≤ 300 := by omega
  have hS2 := hS1.one_nil
  clear hsp hS1
  go_wp2_with fail
  go_loopg [5, 12] js.length (fun m s5 s12 wr => ∃ i : Nat, i + m = js.length ∧ s12 = .int .i64 (i : Int) ∧ ∃ c, RowC 2 1 s5 i (iv ((js.take i).map (numU us))) c ∧ St w.heap.size w wr [c, c1])
  case atStart => exact ⟨0, by omega, rfl, [], RowC.nil 2 1, hS2⟩
  case round =>
    clear hS2
    obtain ⟨i, hi, rfl, c, hr, hS⟩ := hrel
    obtain ⟨ao5, cap5, rfl⟩ := hr.shape
    cases gk with
    | succ m =>
      have hif : (i : Int) < (js.length : Int) := by omega
      obtain ⟨j, hj⟩ : ∃ j, js[i]? = some j := ⟨_, List.getElem?_eq_getElem (by omega)⟩
      obtain ⟨ad1, rfl, hc1⟩ := (hr1.rd hS 1 rfl).at (niv_get hj)
      have hjn := (HSP.out.mem (List.mem_of_getElem? hj)).1
      obtain ⟨u, hu⟩ : ∃ u, us[j]? = some u := ⟨_, List.getElem?_eq_getElem hjn⟩
      obtain ⟨ad, rfl⟩ : ∃ ad, ao = some ad := by
        obtain ⟨ad, e, _⟩ := H0.out.1.at (j := j * 4 + 0) (by rw [uv_get us j 0 u hu (by omega)]; rfl)
        exact ⟨ad, e⟩
      have hc2 := ((H0.out.1.st hS).use hu).1
      have hji : (j : Int) < (us.length : Int) := by omega
      have HT : Hid (iv ((js.take i).map (numU us)) ++ [.int .i64 u.num] = iv ((js.take (i + 1)).map (numU us))) := Lib.hid (by
        rw [iv_snoc, List.take_add_one, hj, List.map_append, ← numU_at hu]
        rfl)
      clear hj hu
      go_wp2_with (at_builtin; (refine wpList_app1 0 37 i0 (.int .i64 0) _ _ _ rfl rfl rfl rfl Try.underlying37 i0a i0b i0c i0d rfl hS rfl hr rfl ?_ ?_ ?_); (unfold maxLen; omega); omega; intro v4 c4 w5 hr4 hS5)
      rw [HT.out] at hr4
      go_roundg m
      case measure => omega
      case rel => exact ⟨i + 1, by omega, by go_num, c4, hr4, hS5⟩
    | zero =>
      obtain rfl : i = js.length := by omega
      have hz : ¬ (js.length : Int) < (js.length : Int) := by omega
      rw [List.take_length] at hr
      have HF := Lib.hid (And.intro hr (hS.pick [0] (by decide) [c] rfl))
      clear hr hS
      go_wp2_with fail
      go_ret
      exact ⟨_, js, c, rfl, HF.out.1, HSP.out, HF.out.2⟩
def aliveU (us : List UseP) (j : Nat) : Int := match us[j]? with
  | some u => if u.all - u.dead < 0 then 0 else u.all - u.dead
  | none => 0
/-- What has room. -/
def wL (us : List UseP) (room : Int) : List Nat → Int → List Nat × Int
  | [], s => ([], s)
  | j :: r, s => if room < s ∨ room - s < aliveU us j then ([], s) else (j :: (wL us room r (s + aliveU us j)).1, (wL us room r (s + aliveU us j)).2)
def WorthOut (W : Nat) (us : List UseP) (room : Int) (w : World) (e : Ending) (w' : World) : Prop := ∃ v js c, e = .returned (.tuple #[v, .int .i64 (wL us room js 0).2]) ∧ RowC 2 1 v (wL us room js 0).1.length (iv ((wL us room js 0).1.map (numU us))) c ∧ SpecC (okU W us) (rU W us) (numU us) us.length js ∧ St w.heap.size w w' [c]
theorem worth_end {W : Nat} {us : List UseP} {room s : Int} {w w' : World} {js : List Nat} {i : Nat} {v : Value} {c : List (Nat × Obj)} (h : wL us room js 0 = (js.take i, s)) (hsp : SpecC (okU W us) (rU W us) (numU us) us.length js) (hr : RowC 2 1 v i (iv ((js.take i).map (numU us))) c) (hS : St w.heap.size w w' [c]) (hi : i ≤ js.length) : WorthOut W us room w (.returned (.tuple #[v, .int .i64 s])) w' := by
  refine ⟨v, js, c, by rw [h], ?_, hsp, hS⟩
  rw [h]
  have e : (js.take i).length = i := by rw [List.length_take]; omega
  simp only [e]
  exact hr
set_option maxHeartbeats 4000000 in
theorem chworth_any (v : Value) (us : List UseP) (W : Nat) (room : Int) (w : World) (h : Rd w 4 v us.length (uv us)) (hW : W < 18446744073709551616) (hage : ∀ u ∈ us, u.age < 18446744073709551616) (hsm : ∀ u ∈ us, 0 ≤ u.dead ∧ u.dead ≤ 100 ∧ 0 ≤ u.all ∧ u.all ≤ 100) (hroom : 0 ≤ room ∧ room ≤ 1000) (hn : us.length ≤ 300) :
    Calls Try.prog 16 #[v, .float .f64 W, .int .i64 room] w (WorthOut W us room w) := by
  obtain ⟨i0, i0a, i0b, i0c, i0d⟩ := info_parts infoL
  obtain ⟨ao, cap, rfl⟩ := h.shape
  obtain ⟨hr0, hr1k⟩ := hroom
  have H0 := Lib.hid (And.intro h (And.intro hage hsm))
  have hnl : (us.length : Int) ≤ 300 := by omega
  have hS0 := (St.init w)
  clear h hage hsm
  go_enter Try.func16, Try.ntmps16
  go_wp2_with fail
  go_loopg [17] us.length (fun m s17 wr => ∃ i : Nat, i + m = us.length ∧ s17 = .int .i64 (i : Int) ∧ St w.heap.size w wr [])
  case atStart => exact ⟨0, by omega, rfl, hS0⟩
  case round =>
    clear hS0
    obtain ⟨i, hi, rfl, hS⟩ := hrel
    cases gk with
    | succ m =>
      have hif : (i : Int) < (us.length : Int) := by omega
      obtain ⟨u, hu⟩ : ∃ u, us[i]? = some u := ⟨_, List.getElem?_eq_getElem (by omega)⟩
      obtain ⟨ad, rfl⟩ : ∃ ad, ao = some ad := by
        obtain ⟨ad, e, _⟩ := H0.out.1.at (j := i * 4 + 0) (by rw [uv_get us i 0 u hu (by omega)]; rfl)
        exact ⟨ad, e⟩
      obtain ⟨k0, k1, k2, k3⟩ := (H0.out.1.st hS).use hu
      obtain ⟨b1, b2, b3, b4⟩ := H0.out.2.2 u (List.mem_of_getElem? hu)
      have hS2 := hS.alloc' (.cells #[.int .i64 u.num, .int .i64 u.dead, .int .i64 u.all, .float .f64 u.age] 51)
      clear hu hS
      have e1 : ¬ u.dead < -1099511627776 := by omega
      have e2 : ¬ u.all < -1099511627776 := by omega
      have e3 : ¬ 1099511627776 < u.dead := by omega
      have e4 : ¬ 1099511627776 < u.all := by omega
      go_wp2_with fail
      all_goals (
        go_roundg m
        case measure => omega
        case rel => exact ⟨i + 1, by omega, by go_num, hS2⟩)
    | zero =>
      obtain rfl : i = us.length := by omega
      have hz : ¬ (us.length : Int) < (us.length : Int) := by omega
      clear hi
      go_wp2_with fail
      refine (chord_any _ us W wr (H0.out.1.st hS) hW H0.out.2.1 hn).mono ?_
      rintro e w2 ⟨v1, js, c1, rfl, hr1, hsp, hS1⟩
      obtain ⟨ao1, cap1, rfl⟩ := hr1.shape
      have hjl := hsp.length
      have HSP := Lib.hid hsp
      have hjl3 : (js.length : Int) ≤ 300 := by omega
      have hS2 := (hS.join hS1).one_nil
      clear hsp hS1 hS
      go_wp2_with fail
      go_loopg [10, 11, 40] js.length (fun m s10 s11 s40 wx => ∃ (i : Nat) (s : Int), i + m = js.length ∧ s40 = .int .i64 (i : Int) ∧ s11 = .int .i64 s ∧ 0 ≤ s ∧ s ≤ 100 * (i : Int) ∧ Hid (wL us room js 0 = (js.take i ++ (wL us room (js.drop i) s).1, (wL us room (js.drop i) s).2)) ∧ ∃ c, RowC 2 1 s10 i (iv ((js.take i).map (numU us))) c ∧ St w.heap.size w wx [c, c1])
      case atStart => exact ⟨0, 0, by omega, rfl, rfl, by omega, by omega, Lib.hid (by simp), [], RowC.nil 2 1, hS2⟩
      case round =>
        clear hS2
        obtain ⟨i, s, hi, rfl, rfl, hs0, hs1, HW, c, hr, hS⟩ := hrel
        obtain ⟨ao5, cap5, rfl⟩ := hr.shape
        cases gk with
        | succ m =>
          have hif : (i : Int) < (js.length : Int) := by omega
          have hj : js[i]? = some (js[i]'(by omega)) := List.getElem?_eq_getElem (by omega)
          have hdrop : js.drop i = js[i]'(by omega) :: js.drop (i + 1) := List.drop_eq_getElem_cons (by omega)
          generalize js[i]'(by omega) = j at hj hdrop
          obtain ⟨ad1, rfl, hc1⟩ := (hr1.rd hS 1 rfl).at (niv_get hj)
          have hjn := (HSP.out.mem (List.mem_of_getElem? hj)).1
          obtain ⟨u, hu⟩ : ∃ u, us[j]? = some u := ⟨_, List.getElem?_eq_getElem hjn⟩
          obtain ⟨ad, rfl⟩ : ∃ ad, ao = some ad := by
            obtain ⟨ad, e, _⟩ := H0.out.1.at (j := j * 4 + 0) (by rw [uv_get us j 0 u hu (by omega)]; rfl)
            exact ⟨ad, e⟩
          obtain ⟨k0, k1, k2, k3⟩ := (H0.out.1.st hS).use hu
          obtain ⟨b1, b2, b3, b4⟩ := H0.out.2.2 u (List.mem_of_getElem? hu)
          have hji : (j : Int) < (us.length : Int) := by omega
          have HT : Hid (iv ((js.take i).map (numU us)) ++ [.int .i64 u.num] = iv ((js.take (i + 1)).map (numU us)) ∧ js.take (i + 1) = js.take i ++ [j]) := Lib.hid ⟨by
            rw [iv_snoc, List.take_add_one, hj, List.map_append, ← numU_at hu]
            rfl, by rw [List.take_add_one, hj]; rfl⟩
          obtain ⟨a, ha⟩ : ∃ a, aliveU us j = a := ⟨_, rfl⟩
          have hav : a = if u.all - u.dead < 0 then 0 else u.all - u.dead := by rw [← ha]; unfold aliveU; rw [hu]
          have hab : 0 ≤ a ∧ a ≤ 100 := by rw [hav]; split <;> omega
          obtain ⟨hab1, hab2⟩ := hab
          have HAV := Lib.hid (And.intro ha hav)
          have HD := Lib.hid hdrop
          have hS3 := hS.drew
          clear hj hu hdrop ha hav
          have hw1 : IntKind.i64.wrap (u.all - u.dead) = u.all - u.dead := IntWalk.i64_in _ (by omega)
          have hw2 : IntKind.i64.wrap (room - s) = room - s := IntWalk.i64_in _ (by omega)
          have hw3 : IntKind.i64.wrap (s + a) = s + a := IntWalk.i64_in _ (by omega)
          go_wp2_with fail
          go_region
          all_goals (
            rw [← HAV.out.2]
            by_cases q1 : room < s
            · have HF : Hid (wL us room js 0 = (js.take i, s)) := Lib.hid (by rw [HW.out, HD.out]; simp [wL, q1])
              have HR := Lib.hid (And.intro hr (hS3.pick [0] (by decide) [c] rfl))
              clear hr hS hS3 HW HD
              go_wp2_with fail
              go_ret2
              exact worth_end HF.out HSP.out HR.out.1 HR.out.2 (by have := hif; omega)
            · by_cases q2 : room - s < a
              · have HF : Hid (wL us room js 0 = (js.take i, s)) := Lib.hid (by rw [HW.out, HD.out]; simp [wL, q1, HAV.out.1, q2])
                have HR := Lib.hid (And.intro hr (hS3.pick [0] (by decide) [c] rfl))
                clear hr hS hS3 HW HD
                go_wp2_with fail
                go_ret2
                exact worth_end HF.out HSP.out HR.out.1 HR.out.2 (by have := hif; omega)
              · have HF : Hid (wL us room js 0 = (js.take (i + 1) ++ (wL us room (js.drop (i + 1)) (s + a)).1, (wL us room (js.drop (i + 1)) (s + a)).2)) := Lib.hid (by
                  rw [HW.out, HD.out, HT.out.2]
                  simp [wL, q1, HAV.out.1, q2])
                clear HW HD
                go_wp2_with (at_builtin; (refine wpList_app1 (w := wr.drew) 0 37 i0 (.int .i64 0) _ _ _ rfl rfl rfl rfl Try.underlying37 i0a i0b i0c i0d rfl hS3 rfl hr rfl ?_ ?_ ?_); (unfold maxLen; omega); omega; intro v4 c4 w5 hr4 hS5)
                rw [HT.out.1] at hr4
                go_roundg m
                case measure => omega
                case rel => exact ⟨i + 1, s + a, by omega, by go_num, by first | rfl | go_num, by omega, by omega, HF, c4, hr4, hS5⟩)
        | zero =>
          obtain rfl : i = js.length := by omega
          have hz : ¬ (js.length : Int) < (js.length : Int) := by omega
          have HF : Hid (wL us room js 0 = (js, s)) := Lib.hid (by rw [HW.out, List.take_length, List.drop_length]; simp [wL])
          rw [List.take_length] at hr
          have HR := Lib.hid (And.intro hr (hS.pick [0] (by decide) [c] rfl))
          clear hr hS hi
          go_wp2_with fail
          go_ret2
          refine worth_end (i := js.length) (by rw [List.take_length]; exact HF.out) HSP.out (by rw [List.take_length]; exact HR.out.1) HR.out.2 (Nat.le_refl _)
end Go.Proofs.Ytdhnmcdgiddhdab
