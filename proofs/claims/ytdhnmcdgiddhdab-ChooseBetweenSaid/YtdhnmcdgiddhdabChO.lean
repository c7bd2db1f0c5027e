/-
  Contract of choose.order.
-/
import Derived.Test.YtdhnmcdgiddhdabPureOrd
set_option linter.unusedVariables false
set_option linter.unusedSimpArgs false
namespace Go.Proofs.Ytdhnmcdgiddhdab
open Go.RowKit
set_option maxRecDepth 100000
theorem infoI : (Try.prog.info? 3).map (fun i => (i.zero, i.size, i.bytes)) = some (some (.int .i64 0), 1, 8) := by kernel_rfl
theorem insI_nil (vf : Value) (n : Nat) (hn : n = 0) (w : World) : Calls Try.prog 53 #[.slice none 0 0, .int .i64 0, .int .i64 (n : Int), vf] w fun e w' => e = .returned (.tuple #[]) ∧ w = w' := by
  have hz : ¬ (1 : Int) < (n : Int) := by omega
  go_enter Try.func53, Try.ntmps53
  go_wp2_with fail
  go_loopg [8, 9] 0 (fun m s8 s9 wr => s8 = .int .i64 1 ∧ w = wr)
  case atStart => exact ⟨rfl, rfl⟩
  case round =>
    obtain ⟨rfl, rfl⟩ := hrel
    go_wp2_with fail
    go_end0
    exact ⟨rfl, rfl⟩
theorem tabI_nil (vf : Value) (w : World) : Calls Try.prog 49 #[.slice none 0 0, .int .i64 0, vf] w fun e w' => e = .returned (.tuple #[]) ∧ w = w' := by
  go_enter Try.func49, Try.ntmps49
  go_wp2_with fail
  go_loopg [7, 8] 0 (fun m s7 s8 wr => s7 = .int .i64 0 ∧ s8 = .int .i64 20 ∧ w = wr)
  case atStart => exact ⟨rfl, rfl, rfl⟩
  case round =>
    obtain ⟨rfl, rfl, rfl⟩ := hrel
    go_wp2_with fail
    refine (insI_nil vf 0 rfl w).mono ?_
    rintro e w2 ⟨rfl, rfl⟩
    go_wp2_with fail
    go_loopg [6, 7, 8] 0 (fun m s6 s7 s8 wr => s6 = .int .i64 20 ∧ w = wr)
    case atStart => exact ⟨rfl, rfl⟩
    case round =>
      obtain ⟨rfl, rfl⟩ := hrel
      go_wp2_with fail
      go_end0
      exact ⟨rfl, rfl⟩
theorem stableI_nil (vf : Value) (w : World) : Calls Try.prog 39 #[.slice none 0 0, vf] w fun e w' => e = .returned (.tuple #[]) ∧ w = w' := by
  go_enter Try.func39, Try.ntmps39
  go_wp2_with fail
  refine (tabI_nil vf w).mono ?_
  rintro e w2 ⟨rfl, rfl⟩
  go_wp2_with fail
  go_end0
  exact ⟨rfl, rfl⟩
/-- Places, as whole numbers. -/
def niv (l : List Nat) : List Value := l.map fun (k : Nat) => Value.int .i64 (k : Int)
theorem niv_length (l : List Nat) : (niv l).length = l.length := by simp [niv]
theorem niv_get {l : List Nat} {i x : Nat} (h : l[i]? = some x) : (niv l)[i]? = some (.int .i64 (x : Int)) := by simp [niv, h]
theorem niv_snoc (l : List Nat) (x : Nat) : niv l ++ [.int .i64 (x : Int)] = niv (l ++ [x]) := by simp [niv]
theorem niv_one (l : List Nat) : ∀ u ∈ niv l, u.oneCell' = true := by
  intro u hu
  obtain ⟨b, _, rfl⟩ := List.mem_map.1 hu
  rfl
theorem niv_rw (f : Nat → Nat) (n : Nat) : rwI f n = niv ((List.range n).map f) := by simp [rwI, niv]
theorem niv_getD (ix : List Nat) : niv ix = rwI (fun k => ix.getD k 0) ix.length := by
  rw [niv_rw]
  congr 1
  apply List.ext_getElem?
  intro i
  rw [List.getElem?_map]
  by_cases hi : i < ix.length
  · rw [List.getElem?_range hi, List.getElem?_eq_getElem hi]
    simp [List.getD_eq_getElem?_getD, hi]
  · rw [List.getElem?_eq_none (by simpa using hi), List.getElem?_eq_none (by simp; omega)]
    rfl
def OrdOut (W : Nat) (us : List UseP) (w : World) (e : Ending) (w' : World) : Prop := ∃ v js c, e = .returned v ∧ RowC 3 1 v js.length (niv js) c ∧ SpecC (okU W us) (rU W us) (numU us) us.length js ∧ St w.heap.size w w' [c]
set_option maxHeartbeats 8000000 in
theorem chord_any (v : Value) (us : List UseP) (W : Nat) (w : World) (h : Rd w 4 v us.length (uv us)) (hW : W < 18446744073709551616) (hage : ∀ u ∈ us, u.age < 18446744073709551616) (hn : us.length ≤ 300) :
    Calls Try.prog 28 #[v, .float .f64 W] w (OrdOut W us w) := by
  obtain ⟨i0, i0a, i0b, i0c, i0d⟩ := info_parts infoI
  obtain ⟨ao, cap, rfl⟩ := h.shape
  have H0 := Lib.hid (And.intro h hage)
  have hnl : (us.length : Int) ≤ 300 := by omega
  have hS0 := (St.init w).alloc (.cells #[.slice ao us.length cap] 25)
  clear h hage
  go_enter Try.func28, Try.ntmps28
  go_wp2_with fail
  refine (gains_any _ us W _ (H0.out.1.st hS0) hW H0.out.2 (by omega)).mono ?_
  rintro e w2 ⟨v1, xs, c1, rfl, hr1, hg, hx64, hS1⟩
  obtain ⟨ao1, cap1, rfl⟩ := hr1.shape
  have hS2 := hS0.join hS1
  have HX := Lib.hid (And.intro hg hx64)
  clear hS0 hS1 hg hx64
  go_wp2_with fail
  have hS3 : St w.heap.size w (w2.alloc (.cells #[.slice ao1 xs.length cap1] 31)) [[(w2.heap.size, .cells #[.slice ao1 xs.length cap1] 31 (0, 0))], c1, [(w.heap.size, .cells #[.slice ao us.length cap] 25 (0, 0))]] := hS2.alloc _
  have hS4 := hS3.one_nil
  clear hS2 hS3
  have hxl3 : (xs.length : Int) ≤ 300 := by have := HX.out.1.1; omega
  go_loopg [6, 14] xs.length (fun m s6 s14 wr => ∃ i : Nat, i + m = xs.length ∧ s14 = .int .i64 (i : Int) ∧ ∃ (ix : List Nat) (c : List (Nat × Obj)), RowC 3 1 s6 ix.length (niv ix) c ∧ St w.heap.size w wr [c, [(w2.heap.size, .cells #[.slice ao1 xs.length cap1] 31 (0, 0))], c1, [(w.heap.size, .cells #[.slice ao us.length cap] 25 (0, 0))]] ∧ ix.length ≤ i ∧ Hid (ix = (List.range i).filter (okX xs)))
  case atStart => exact ⟨0, by omega, rfl, [], [], RowC.nil 3 1, hS4, by simp, Lib.hid rfl⟩
  case round =>
    clear hS4
    obtain ⟨i, hi, rfl, ix, c, hr, hS, hxl, HIX⟩ := hrel
    cases gk with
    | succ m =>
      obtain ⟨ao6, cap6, rfl⟩ := hr.shape
      have hif : (i : Int) < (xs.length : Int) := by omega
      obtain ⟨x, hx⟩ : ∃ x, xs[i]? = some x := ⟨_, List.getElem?_eq_getElem (by omega)⟩
      obtain ⟨ad1, rfl, hc1⟩ := (hr1.rd hS 2 rfl).at (fv_get xs i x hx)
      have hix : (ix.length : Int) ≤ 300 := by omega
      have HS1 : Hid ((List.range (i + 1)).filter (okX xs) = (List.range i).filter (okX xs) ++ if posN x then [i] else []) := Lib.hid (by
        have e : okX xs i = posN x := by unfold okX; rw [List.getD_eq_getElem?_getD, hx]; rfl
        rw [List.range_succ, List.filter_append]
        congr 1
        cases hp : posN x <;> simp [e, hp])
      clear hx
      by_cases hp : (FloatKind.f64.format.order x 0 == some .gt) = true
      · have HP : Hid (posN x = true) := Lib.hid hp
        go_wp2_with (at_builtin; (refine wpList_app1 0 53 i0 (.int .i64 0) _ _ _ rfl rfl rfl rfl Try.underlying53 i0a i0b i0c i0d rfl hS rfl hr rfl ?_ ?_ ?_); (unfold maxLen; omega); omega; intro v4 c4 w5 hr4 hS5)
        rw [niv_snoc] at hr4
        go_roundg m
        case measure => omega
        case rel => exact ⟨i + 1, by omega, by go_num, ix ++ [i], c4, by simpa using hr4, hS5, by simp; omega, Lib.hid (by rw [HS1.out, HP.out, if_pos rfl, HIX.out])⟩
      · have hp2 : (FloatKind.f64.format.order x 0 == some .gt) = false := by simpa using hp
        have HP : Hid (posN x = false) := Lib.hid hp2
        have HS := Lib.hid (And.intro hr hS)
        clear hp hr hS
        go_wp2_with fail
        go_roundg m
        case measure => omega
        case rel => exact ⟨i + 1, by omega, by go_num, ix, c, HS.out.1, HS.out.2, by omega, Lib.hid (by rw [HS1.out, HP.out, HIX.out]; simp)⟩
    | zero =>
      obtain rfl : i = xs.length := by omega
      have hz : ¬ (xs.length : Int) < (xs.length : Int) := by omega
      have HIX2 : Hid (ix = (List.range us.length).filter (okX xs)) := Lib.hid (by rw [HIX.out, HX.out.1.1])
      have hcmp : CmpI w.heap.size w [[(w2.heap.size, .cells #[.slice ao1 xs.length cap1] 31 (0, 0))], c1, [(w.heap.size, .cells #[.slice ao us.length cap] 25 (0, 0))]] (fun i => i < us.length) (cfO xs us) (.pointer (some ⟨w2.heap.size, 0, none⟩)) (.pointer (some ⟨w.heap.size, 0, none⟩)) := by
        intro wx cd hSx a b ha hb
        exact ordf_any w2.heap.size w.heap.size a b (.slice ao1 xs.length cap1) (.slice ao us.length cap) xs us wx (hSx.cell 1 rfl (List.mem_singleton.2 rfl) 0) (hSx.cell 3 rfl (List.mem_singleton.2 rfl) 0) (hr1.rd hSx 2 rfl) (H0.out.1.st hSx) HX.out.2 HX.out.1.1 ha hb
      have hmem : ∀ j ∈ ix, j < us.length ∧ okX xs j = true := by
        intro j hj
        rw [HIX2.out, List.mem_filter, List.mem_range] at hj
        exact hj
      have hinc : ix.Pairwise (· < ·) := by
        rw [HIX2.out]
        exact List.Pairwise.filter _ List.pairwise_lt_range
      rcases hr.2 with ⟨hv, hn0, hc0⟩ | ⟨g, cp, cur, hv, _⟩
      · subst hv hc0
        have hixe : ix = [] := List.eq_nil_of_length_eq_zero hn0
        have HB := Lib.hid (And.intro hS hixe)
        clear hr hS hcmp hmem hinc
        go_wp2_with fail
        refine (stableI_nil _ wr).mono ?_
        rintro e w5 ⟨rfl, rfl⟩
        go_wp2_with fail
        go_ret
        refine ⟨_, [], [], rfl, RowC.nil 3 1, spec_gains HX.out.1 ⟨by rw [← HIX2.out, HB.out.2], List.Pairwise.nil⟩, HB.out.1.pick [0] (by decide) [[]] rfl⟩
      · subst hv
        have HC := Lib.hid (stableI_any (n := ix.length) (g := g) (cap := cp) (befC_trans (fun i => xs.getD i 0) (numU us)) hcmp (fun k => ix.getD k 0) c wr (by unfold RowSI; rw [← niv_getD]; exact hr) hS (by omega)
          (fun k hk => by
            have : ix.getD k 0 ∈ ix := by rw [List.getD_eq_getElem?_getD, List.getElem?_eq_getElem hk]; exact List.getElem_mem _
            exact (hmem _ this).1)
          (fun p q hpq hq => by
            have hp := Nat.lt_trans hpq hq
            have e1 : ix.getD p 0 = ix[p] := by rw [List.getD_eq_getElem?_getD, List.getElem?_eq_getElem hp]; rfl
            have e2 : ix.getD q 0 = ix[q] := by rw [List.getD_eq_getElem?_getD, List.getElem?_eq_getElem hq]; rfl
            simp only [e1, e2]
            obtain ⟨a1, a2⟩ := hmem _ (List.getElem_mem hp)
            obtain ⟨b1, b2⟩ := hmem _ (List.getElem_mem hq)
            exact tell_ord HX.out.2 HX.out.1.1 (List.pairwise_iff_getElem.1 hinc p q hp hq hpq) b1 a2 b2))
        clear hr hS hcmp hmem hinc
        go_wp2_with fail
        refine HC.out.mono ?_
        rintro e w5 ⟨rfl, f', c5, p1, p2, p3, p4⟩
        have HF : Hid (RowC 3 1 (.slice (some ⟨g, 0, none⟩) ix.length cp) ((List.range ix.length).map f').length (niv ((List.range ix.length).map f')) c5 ∧ SpecC (okU W us) (rU W us) (numU us) us.length ((List.range ix.length).map f') ∧ St w.heap.size w w5 [c5]) := Lib.hid ⟨by
          rw [← niv_rw, List.length_map, List.length_range]
          exact p3, spec_gains HX.out.1 (sorted_ord HIX2.out p1 p2), p4.pick [0] (by decide) [c5] rfl⟩
        clear p1 p2 p3 p4 HC
        go_wp2_with fail
        go_ret
        exact ⟨_, _, c5, rfl, HF.out⟩
end Go.Proofs.Ytdhnmcdgiddhdab
