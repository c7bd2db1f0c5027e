/-
  The walk of LengthsMore.
-/
import Derived.Test.YtdgpbgdpdmikaabLenBegun
import Derived.Test.YtdgpbgdpdmikaabPureLenD
set_option linter.unusedVariables false
set_option linter.unusedSimpArgs false
namespace Go.Proofs.Ytdgpbgdpdmikaab
open Go.RowKit
set_option maxRecDepth 100000
theorem infoL : (Try.prog.info? 2).map (fun i => (i.zero, i.size, i.bytes)) = some (some (.int .i64 0), 1, 8) := by kernel_rfl
theorem iv_snoc (f : List Int) (x : Int) : iv f ++ [.int .i64 x] = iv (f ++ [x]) := by simp [iv]
theorem good_small {f : List Int} (h : badL f = false) : SmallF f ∧ f.length ≤ 300 ∧ ∀ x ∈ f, 0 ≤ x := by
  have hl : f.length ≤ 300 := by
    unfold badL at h
    rw [Bool.or_eq_false_iff] at h
    simpa using h.1
  refine ⟨⟨by omega, fun x hx => ?_⟩, hl, fun x hx => ?_⟩
  · obtain ⟨i, hi⟩ := List.mem_iff_getElem?.1 hx
    have := ok_bad h hi
    omega
  · obtain ⟨i, hi⟩ := List.mem_iff_getElem?.1 hx
    exact (ok_bad h hi).1
theorem lens_small {f : List Int} (h : f.length ≤ 300) (n : Nat) : SmallL (mkI (fun s => (lenP (fN f) s : Int)) n) := by
  intro y hy
  unfold mkI at hy
  obtain ⟨s, _, rfl⟩ := List.mem_map.1 hy
  by_cases hs : 0 < (fN f).getD s 0
  · have := lenP_bounds (by rw [fN_length]; exact h) hs
    omega
  · have := lenP_zero (F := fN f) (by rw [fN_length]; exact h) (s := s) (by omega)
    omega
theorem costI_lens {f : List Int} (h0 : ∀ x ∈ f, 0 ≤ x) (L : Nat → Nat) : costI f (mkI (fun s => (L s : Int)) f.length) = ((costP (fN f) L : Nat) : Int) := by
  have key : ∀ i, i ≤ f.length → costT f (mkI (fun s => (L s : Int)) f.length) i = ((((List.range i).map fun s => (fN f).getD s 0 * L s).sum : Nat) : Int) := by
    intro i
    induction i with
    | zero => intro _; simp [costT]
    | succ i ih =>
      intro hi
      obtain ⟨x, hx⟩ : ∃ x, f[i]? = some x := ⟨_, List.getElem?_eq_getElem (by omega)⟩
      rw [costT_succ hx (mkI_get _ _ i (by omega)), ih (by omega), List.range_succ, List.map_append, List.sum_append_nat, List.map_cons, List.map_nil, List.sum_singleton, fN_get f i x hx]
      have := h0 x (List.mem_of_getElem? hx)
      obtain ⟨X, rfl⟩ := Int.eq_ofNat_of_zero_le this
      simp
  unfold costI costP
  rw [mkI_length, Nat.min_self, key _ (Nat.le_refl _), fN_length]
theorem bad_snoc {f : List Int} {x : Int} (h : badL f = false) (hl : f.length < 300) (h0 : 0 ≤ x) (h1 : x ≤ 1073741824) : badL (f ++ [x]) = false := by
  unfold badL at *
  rw [Bool.or_eq_false_iff] at *
  refine ⟨by simp; omega, ?_⟩
  rw [List.any_append, h.2]
  simp [badF]
  omega
theorem fN_snoc (f : List Int) (x : Int) : fN (f ++ [x]) = fN f ++ [x.toNat] := by simp [fN]
set_option maxHeartbeats 4000000 in
theorem LengthsMore_walk (w : World) (v : Value) (n : Nat) (f0 : List Int) (h : Rd w 1 v n (f0.map (Value.int .i64))) (wf : ∀ z ∈ f0, (Lit.int .i64 z).wf = true) (sz : n * 8 ≤ 140737488351232) (x : Int) (wfx : (Lit.int .i64 x).wf = true) :
    Calls Try.prog 13 #[v, .int .i64 x] w fun e w' => e = .returned (.bool true) ∧ Below w.heap.size w w' := by
  obtain ⟨i0, i0a, i0b, i0c, i0d⟩ := info_parts infoL
  have hn : f0.length = n := by have := h.len; simpa using this
  subst hn
  have H1 := Lib.hid h
  clear h wf sz wfx
  go_enter Try.func13, Try.ntmps13
  go_wp2_with fail
  refine (begun6 _).mono ?_
  rintro e w1 ⟨rfl, hb⟩
  have hS := (St.init w).mono hb
  clear hb
  go_wp2_with fail
  refine (cut6_gen v f0 w1 (H1.out.st hS)).mono ?_
  rintro e w2 ⟨v', rfl, hgen, rfl⟩
  have hf : Rd w 1 v' (f0.take 305).length (iv (f0.take 305)) := hgen w H1.out
  have hfl : (f0.take 305).length ≤ 305 := by simp; omega
  generalize f0.take 305 = f at *
  obtain ⟨ao1, cap1, rfl⟩ := hf.shape
  have HF := Lib.hid (And.intro hf hS)
  clear hf hgen hS
  have hfi : (f.length : Int) ≤ 305 := by omega
  by_cases q1 : 300 ≤ f.length
  · have q1i : (300 : Int) ≤ (f.length : Int) := by omega
    go_wp2_with fail
    go_ret
    exact ⟨rfl, HF.out.2.below⟩
  have q1i : ¬ (300 : Int) ≤ (f.length : Int) := by omega
  by_cases q2 : x < 0
  · go_wp2_with fail
    go_ret
    exact ⟨rfl, HF.out.2.below⟩
  by_cases q3 : 1073741824 < x
  · go_wp2_with fail
    go_ret
    exact ⟨rfl, HF.out.2.below⟩
  go_wp2_with fail
  refine (of_any f _ w1 (by omega) (HF.out.1.st HF.out.2)).mono ?_
  rintro e w2 (⟨_, rfl, rfl⟩ | ⟨hgood, v6, c6, rfl, hr6, hS6⟩)
  · go_wp2_with fail
    go_ret
    exact ⟨rfl, HF.out.2.below⟩
  · obtain ⟨ao6, cap6, rfl⟩ := hr6.shape
    have hS7 := (HF.out.2.join hS6).one_nil
    have H6 := Lib.hid (And.intro hgood hr6)
    have hfw := HF.out.1.st hS7
    have hbs := bad_snoc hgood (by omega) (by omega) (show x ≤ 1073741824 by omega)
    have HB := Lib.hid hbs
    obtain ⟨g1, g2, g3⟩ := good_small hgood
    obtain ⟨g4, g5, g6⟩ := good_small hbs
    have hcost : costI f (mkI (fun s => (lenP (fN f) s : Int)) f.length) ≤ costI (f ++ [x]) (mkI (fun s => (lenP (fN (f ++ [x])) s : Int)) (f ++ [x]).length) := by
      rw [costI_lens g3, costI_lens g6, fN_snoc]
      have := cost_more (F := fN f) (x := x.toNat) (by rw [fN_length]; omega)
      omega
    have HG := Lib.hid (And.intro g1 (And.intro (lens_small g2 f.length) (And.intro g4 (And.intro (lens_small g5 (f ++ [x]).length) hcost))))
    clear hgood hr6 hS6 hbs g1 g2 g3 g4 g5 g6 hcost
    go_wp2_with (first | (at_builtin; (refine wpList_app 0 35 i0 (.int .i64 0) _ _ rfl rfl rfl rfl Try.underlying35 i0a i0b i0c i0d rfl (by decide) hS7 rfl (RowC.nil 2 1) hfw (iv_one f) ?_ ?_ ?_); (unfold maxLen; omega); omega; intro v7 c7 w7 hr7 hS8) | (at_builtin; (refine wpList_app1 0 35 i0 (.int .i64 0) _ _ _ rfl rfl rfl rfl Try.underlying35 i0a i0b i0c i0d rfl hS8 rfl hr7 rfl ?_ ?_ ?_); (unfold maxLen; omega); omega; intro v9 c9 w9 hr9 hS9))
    simp only [Nat.zero_add, List.nil_append] at hr9
    rw [iv_snoc] at hr9
    have hgl : (f ++ [x]).length = f.length + 1 := by simp
    have hr9' : RowC 2 1 v9 (f ++ [x]).length (iv (f ++ [x])) c9 := by rw [hgl]; exact hr9
    have hS10 : St w.heap.size w w9 [c9, c6] := hS9
    have H9 := Lib.hid (And.intro hr9' hS10)
    clear hr9 hr9' hS9 hS10 hS8 hS7 hr7 hfw
    have HGL := Lib.hid hgl
    clear hgl
    generalize f ++ [x] = gx at *
    go_wp2_with fail
    refine (of_any gx v9 w9 (by have := HGL.out; omega) (H9.out.1.rd H9.out.2 0 rfl)).mono ?_
    rintro e w10 (⟨hbad, _⟩ | ⟨_, v10, c10, rfl, hr10, hS11⟩)
    · rw [HB.out] at hbad; cases hbad
    · obtain ⟨ao10, cap10, rfl⟩ := hr10.shape
      have hS12 := H9.out.2.join hS11
      have H12 := Lib.hid (And.intro hr10 hS12)
      have HFR := Lib.hid (HF.out.1.st hS12)
      clear hr10 hS11 hS12
      go_wp2_with fail
      refine (lcost_any _ _ gx (mkI (fun s => (lenP (fN gx) s : Int)) gx.length) w10 (H9.out.1.rd H12.out.2 1 rfl) (by rw [mkI_length]; exact H12.out.1.rd H12.out.2 0 rfl) HG.out.2.2.1 HG.out.2.2.2.1).mono ?_
      rintro e w11 ⟨rfl, hd⟩
      have HS13 := Lib.hid (H12.out.2.Drew hd)
      have HFR2 : Hid (Rd w11 1 (.slice ao1 f.length cap1) f.length (iv f)) := Lib.hid (HF.out.1.st HS13.out)
      clear hd
      go_wp2_with fail
      refine (lcost_any _ _ f (mkI (fun s => (lenP (fN f) s : Int)) f.length) w11 HFR2.out (by rw [mkI_length]; exact H6.out.2.rd HS13.out 2 rfl) HG.out.1 HG.out.2.1).mono ?_
      rintro e w12 ⟨rfl, hd⟩
      have HS14 := Lib.hid (HS13.out.Drew hd).below
      have hle := HG.out.2.2.2.2
      clear hd
      generalize costI f (mkI (fun s => (lenP (fN f) s : Int)) f.length) = y1 at *
      generalize costI gx (mkI (fun s => (lenP (fN gx) s : Int)) gx.length) = y2 at *
      go_wp2_with fail
      go_ret
      exact ⟨by simp [hle], HS14.out⟩
end Go.Proofs.Ytdgpbgdpdmikaab
