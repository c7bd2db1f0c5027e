/-
  The walk of LengthsScale.
-/
import Derived.Test.YtdgpbgdpdmikaabLenLaw
set_option linter.unusedVariables false
set_option linter.unusedSimpArgs false
namespace Go.Proofs.Ytdgpbgdpdmikaab
open Go.RowKit
set_option maxRecDepth 100000
theorem scale_row (f : List Int) (k : Int) {i : Nat} {x : Int} (hx : f[i]? = some x) : iv ((f.take i).map (· * k)) ++ [.int .i64 (x * k)] = iv ((f.take (i + 1)).map (· * k)) := by
  rw [iv_snoc, List.take_add_one, hx]
  simp
theorem scale_in {f : List Int} {k : Int} (h : ∀ x ∈ f, 0 ≤ x ∧ x ≤ 1048576) (hk : 1 ≤ k) (hk2 : k ≤ 100) : ∀ x ∈ f.map (· * k), 0 ≤ x ∧ x ≤ 1073741824 := by
  intro y hy
  obtain ⟨x, hx, rfl⟩ := List.mem_map.1 hy
  have h1 := h x hx
  have h2 := Int.mul_le_mul h1.2 hk2 (by omega) (by omega : (0 : Int) ≤ 1048576)
  have h3 := Int.mul_nonneg h1.1 (show 0 ≤ k by omega)
  omega
theorem fN_scale {f : List Int} {k : Int} (h : ∀ x ∈ f, 0 ≤ x) (hk : 1 ≤ k) : fN (f.map (· * k)) = (fN f).map (· * k.toNat) := by
  unfold fN
  rw [List.map_map, List.map_map]
  apply List.map_congr_left
  intro x hx
  have h1 := h x hx
  obtain ⟨X, rfl⟩ := Int.eq_ofNat_of_zero_le h1
  obtain ⟨K, rfl⟩ := Int.eq_ofNat_of_zero_le (show 0 ≤ k by omega)
  show ((X : Int) * (K : Int)).toNat = (X : Int).toNat * (K : Int).toNat
  rw [← Int.natCast_mul]
  simp only [Int.toNat_natCast]
theorem scale_costs {f : List Int} {k : Int} (hl : f.length ≤ 300) (h : ∀ x ∈ f, 0 ≤ x ∧ x ≤ 1048576) (hk : 1 ≤ k) (hk2 : k ≤ 100) :
    costI f (mkI (fun s => (lenP (fN f) s : Int)) f.length) * k = costI (f.map (· * k)) (mkI (fun s => (lenP (fN (f.map (· * k))) s : Int)) (f.map (· * k)).length) := by
  rw [costI_lens (fun x hx => (h x hx).1), costI_lens (fun x hx => (scale_in h hk hk2 x hx).1), fN_scale (fun x hx => (h x hx).1) hk]
  rw [cost_scale (by rw [fN_length]; exact hl) k.toNat (by omega)]
  rw [Int.natCast_mul, Int.toNat_of_nonneg (by omega)]
theorem costI_in {f l : List Int} (hf : SmallF f) (hl : SmallL l) : -171798691840000 ≤ costI f l ∧ costI f l ≤ 171798691840000 := by
  have := costT_small hf hl _ (Nat.le_refl _)
  have h1 := hf.1
  unfold costI
  generalize hm : min f.length l.length = m at *
  have : m ≤ 400 := by omega
  omega
set_option maxHeartbeats 4000000 in
theorem LengthsScale_walk (w : World) (v : Value) (n : Nat) (f0 : List Int) (h : Rd w 1 v n (f0.map (Value.int .i64))) (wf : ∀ z ∈ f0, (Lit.int .i64 z).wf = true) (sz : n * 8 ≤ 140737488351232) (k : Int) (wfx : (Lit.int .i64 k).wf = true) :
    Calls Try.prog 12 #[v, .int .i64 k] w fun e w' => e = .returned (.bool true) ∧ Below w.heap.size w w' := by
  obtain ⟨i0, i0a, i0b, i0c, i0d⟩ := info_parts infoL
  have hn : f0.length = n := by have := h.len; simpa using this
  subst hn
  have H1 := Lib.hid h
  clear h wf sz wfx
  go_enter Try.func12, Try.ntmps12
  go_wp2_with fail
  refine (begun6 _).mono ?_
  rintro e w1 ⟨rfl, hb⟩
  have hS := (St.init w).mono hb
  clear hb
  go_wp2_with fail
  refine (cut6_gen v f0 w1 (H1.out.st hS)).mono ?_
  rintro e w2 ⟨v', rfl, hgen, rfl⟩
  have hf : Rd w 1 v' (f0.take 305).length (iv (f0.take 305)) := hgen w H1.out
  have hfl : (f0.take 305).length ≤ 305 := by simp; omega
  generalize f0.take 305 = f at *
  obtain ⟨ao1, cap1, rfl⟩ := hf.shape
  have HF := Lib.hid (And.intro hf hS)
  clear hf hgen
  have hfi : (f.length : Int) ≤ 305 := by omega
  by_cases q2 : k < 1
  · go_wp2_with fail
    go_ret
    exact ⟨rfl, HF.out.2.below⟩
  by_cases q3 : 100 < k
  · go_wp2_with fail
    go_ret
    exact ⟨rfl, HF.out.2.below⟩
  have hS1 := hS.one_nil
  clear hS
  go_wp2_with fail
  go_loopg [6, 7] f.length (fun m s6 s7 wr => ∃ i : Nat, i + m = f.length ∧ s7 = .int .i64 (i : Int) ∧ Hid (∀ x ∈ f.take i, 0 ≤ x ∧ x ≤ 1048576) ∧ ∃ c, RowC 2 1 s6 i (iv ((f.take i).map (· * k))) c ∧ St w.heap.size w wr [c])
  case atStart => exact ⟨0, by omega, rfl, Lib.hid (by simp), _, RowC.nil 2 1, hS1⟩
  case round =>
    clear hS1
    obtain ⟨i, hi, rfl, HB, c, hr, hS⟩ := hrel
    obtain ⟨ao6, cap6, rfl⟩ := hr.shape
    cases gk with
    | succ m =>
      have hif : (i : Int) < (f.length : Int) := by omega
      obtain ⟨x, hx⟩ : ∃ x, f[i]? = some x := ⟨_, List.getElem?_eq_getElem (by omega)⟩
      obtain ⟨ad1, rfl, hc1⟩ := (HF.out.1.st hS).at (iv_get f i x hx)
      have HX := Lib.hid hx
      clear hx
      by_cases q4 : x < 0
      · go_wp2_with fail
        go_ret
        exact ⟨rfl, hS.below⟩
      by_cases q5 : 1048576 < x
      · go_wp2_with fail
        go_ret
        exact ⟨rfl, hS.below⟩
      have h2 := Int.mul_le_mul (show x ≤ 1048576 by omega) (show k ≤ 100 by omega) (by omega) (by omega : (0 : Int) ≤ 1048576)
      have h3 := Int.mul_nonneg (show 0 ≤ x by omega) (show 0 ≤ k by omega)
      have r1 : IntKind.i64.wrap (x * k) = x * k := IntWalk.i64_in _ (by omega)
      go_wp2_with (at_builtin; (refine wpList_app1 0 35 i0 (.int .i64 0) _ _ _ rfl rfl rfl rfl Try.underlying35 i0a i0b i0c i0d rfl hS rfl hr rfl ?_ ?_ ?_); (unfold maxLen; omega); omega; intro v1 c1 w5 hr1 hS5)
      go_roundg m
      case measure => omega
      case rel =>
        rw [scale_row f k HX.out] at hr1
        refine ⟨i + 1, by omega, by go_num, Lib.hid ?_, c1, hr1, hS5⟩
        intro z hz
        rw [List.take_add_one, HX.out, List.mem_append] at hz
        rcases hz with hz | hz
        · exact HB.out z hz
        · simp at hz; omega
    | zero =>
      have hif : i = f.length := by omega
      subst hif
      have hz : ¬ (f.length : Int) < (f.length : Int) := by omega
      have hr' : RowC 2 1 (.slice ao6 f.length cap6) (f.map (· * k)).length (iv (f.map (· * k))) c := by
        rw [List.length_map]
        have := hr
        rwa [List.take_length] at this
      have hB := HB.out
      rw [List.take_length] at hB
      clear hi HB hr
      have HR := Lib.hid (And.intro hr' hS)
      clear hr' hS
      by_cases q4 : 300 < f.length
      · have q4i : (300 : Int) < (f.length : Int) := by omega
        go_wp2_with fail
        go_ret
        exact ⟨rfl, HR.out.2.below⟩
      have q4i : ¬ (300 : Int) < (f.length : Int) := by omega
      have hgood : badL f = false := bad_of (by omega) (fun x hx => by have := hB x hx; omega)
      have hgoodg : badL (f.map (· * k)) = false := bad_of (by simp; omega) (scale_in hB (by omega) (by omega))
      have hcost := scale_costs (by omega) hB (show 1 ≤ k by omega) (show k ≤ 100 by omega)
      obtain ⟨g1, g2, g3⟩ := good_small hgood
      obtain ⟨g4, g5, g6⟩ := good_small hgoodg
      have hin := costI_in g4 (lens_small g5 (f.map (· * k)).length)
      have HGO := Lib.hid (And.intro hgood hgoodg)
      have HG := Lib.hid (And.intro g1 (And.intro (lens_small g2 f.length) (And.intro g4 (And.intro (lens_small g5 (f.map (· * k)).length) (And.intro hcost hin)))))
      have HL := Lib.hid (show (f.map (· * k)).length = f.length by simp)
      have HSH : Hid (∃ ao cap, (Value.slice ao6 f.length cap6) = .slice ao (f.map (· * k)).length cap) := Lib.hid ⟨ao6, cap6, by rw [HL.out]⟩
      clear hgood hgoodg hcost g1 g2 g3 g4 g5 g6 hin hB HSH
      generalize f.map (· * k) = gx at *
      go_wp2_with fail
      refine (of_any f _ wr (by omega) (HF.out.1.st HR.out.2)).mono ?_
      rintro e w2 (⟨hbad, _⟩ | ⟨_, v6, c6, rfl, hr6, hS6⟩)
      · rw [HGO.out.1] at hbad; cases hbad
      obtain ⟨ao7, cap7, rfl⟩ := hr6.shape
      have hS7 := HR.out.2.join hS6
      have H6 := Lib.hid (And.intro hr6 hS7)
      clear hr6 hS6 hS7
      go_wp2_with fail
      refine (of_any gx _ w2 (by have := HL.out; omega) (HR.out.1.rd H6.out.2 1 rfl)).mono ?_
      rintro e w10 (⟨hbad, _⟩ | ⟨_, v10, c10, rfl, hr10, hS11⟩)
      · rw [HGO.out.2] at hbad; cases hbad
      obtain ⟨ao10, cap10, rfl⟩ := hr10.shape
      have hS12 := H6.out.2.join hS11
      have H12 := Lib.hid (And.intro hr10 hS12)
      have HFR : Hid (Rd w10 1 (.slice ao1 f.length cap1) f.length (iv f)) := Lib.hid (HF.out.1.st H12.out.2)
      clear hr10 hS11 hS12
      go_wp2_with fail
      refine (lcost_any _ _ f (mkI (fun s => (lenP (fN f) s : Int)) f.length) w10 HFR.out (by rw [mkI_length]; exact H6.out.1.rd H12.out.2 1 rfl) HG.out.1 HG.out.2.1).mono ?_
      rintro e w11 ⟨rfl, hd⟩
      have HS13 := Lib.hid (H12.out.2.Drew hd)
      clear hd
      have r1 : IntKind.i64.wrap (costI f (mkI (fun s => (lenP (fN f) s : Int)) f.length) * k) = costI f (mkI (fun s => (lenP (fN f) s : Int)) f.length) * k := IntWalk.i64_in _ (by
        have h1 := HG.out.2.2.2.2
        omega)
      go_wp2_with fail
      refine (lcost_any _ _ gx (mkI (fun s => (lenP (fN gx) s : Int)) gx.length) w11 (HR.out.1.rd HS13.out 2 rfl) (by rw [mkI_length]; exact H12.out.1.rd HS13.out 0 rfl) HG.out.2.2.1 HG.out.2.2.2.1).mono ?_
      rintro e w12 ⟨rfl, hd⟩
      have HS14 := Lib.hid (HS13.out.Drew hd).below
      have hle := HG.out.2.2.2.2.1
      clear hd
      generalize costI f (mkI (fun s => (lenP (fN f) s : Int)) f.length) = y1 at *
      generalize costI gx (mkI (fun s => (lenP (fN gx) s : Int)) gx.length) = y2 at *
      go_wp2_with fail
      go_ret
      exact ⟨by simp [hle], HS14.out⟩
end Go.Proofs.Ytdgpbgdpdmikaab
