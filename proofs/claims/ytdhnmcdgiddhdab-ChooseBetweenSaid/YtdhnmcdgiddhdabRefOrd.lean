/-
  Contract of the reference's Order.
-/
import Derived.Test.YtdhnmcdgiddhdabPureOrd
import Derived.Test.YtdhnmcdgiddhdabGuard
import Derived.Deep.RegionWith
import Derived.BigRegion
set_option linter.unusedVariables false
set_option linter.unusedSimpArgs false
namespace Go.Proofs.Ytdhnmcdgiddhdab
open Go.RowKit Ieee
set_option maxRecDepth 100000
theorem infoUR : (Try.prog.info? 36).map (fun i => (i.zero, i.size, i.bytes)) = some (some (.agg #[.int .i64 0, .int .i64 0, .int .i64 0, .float .f64 0]), 4, 32) := by kernel_rfl
theorem ord_pos {x y : Nat} (hx : x < 18446744073709551616) (hy : y < 18446744073709551616) (h1 : posN x = true) (h2 : posN y = true) : (double.order x y == some .lt) = decide (x < y) ∧ (double.order x y == some .eq) = decide (x = y) := by
  obtain ⟨a1, a2, a3⟩ := posN_spec hx h1
  obtain ⟨b1, b2, b3⟩ := posN_spec hy h2
  have s1 : ∀ z, z < 18446744073709551616 → fkey z = (z : Int) → 0 < z → skey z = (z : Int) := by
    intro z hz h h0
    rw [skey_of z hz]
    unfold fkey at h
    by_cases q : z < 9223372036854775808
    · rw [if_pos q]
    · rw [if_neg q] at h; omega
  rw [order_lt_iff x y a1 b1, order_eq_iff x y a1 b1, s1 x hx a2 a3, s1 y hy b2 b3]
  exact ⟨by rw [decide_eq_decide]; omega, by rw [decide_eq_decide]; omega⟩
theorem Rd.lits4 (w : World) (X : Array Value) (T : TypeId) (hn : X.size = 4) : Rd (w.alloc (.cells X T)) 4 (.slice (some ⟨w.heap.size, 0, none⟩) 1 1) 1 X.toList := by
  have h := Rd.lits w X T 4 hn (by unfold maxLen; omega)
  refine ⟨_, 1, rfl, by simp [maxLen], by simp [hn], by simp, fun ad e j u hu => ?_⟩
  cases e
  obtain ⟨ad', e', hc⟩ := h.at hu
  cases e'
  exact hc
def getU (us : List UseP) (j : Nat) : UseP := us.getD j ⟨0, 0, 0, 0⟩
theorem getU_at {us : List UseP} {j : Nat} {u : UseP} (h : us[j]? = some u) : getU us j = u := by unfold getU; rw [List.getD_eq_getElem?_getD, h]; rfl
def RowU (us : List UseP) (B : Nat) (w0 : World) (v : Value) (js : List Nat) (wr : World) : Prop := ∃ c, RowC 36 4 v js.length (uv (js.map (getU us))) c ∧ St B w0 wr [c]
theorem uv_one (us : List UseP) : ∀ u ∈ uv us, u.oneCell' = true := by
  intro u hu
  unfold uv at hu
  rw [List.mem_flatten] at hu
  obtain ⟨l, hl, hu⟩ := hu
  obtain ⟨x, _, rfl⟩ := List.mem_map.1 hl
  unfold useC at hu
  simp only [List.mem_cons, List.not_mem_nil, or_false] at hu
  rcases hu with rfl | rfl | rfl | rfl <;> rfl
theorem refgain_quiet {d a : Int} {age W r : Nat} (h : gainP d a age W = some r) (h1 : age < 18446744073709551616) (h2 : W < 18446744073709551616) (wx : World) (n : Nat) : Calls Try.prog 13 #[.int .i64 d, .int .i64 a, .float .f64 age, .float .f64 W] (wx.drewN n) fun e w'' => e = .returned (.float .f64 r) ∧ ∃ m, w'' = wx.drewN m := by
  refine (refgain_any d a age W _ h1 h2).mono ?_
  rintro e w2 ⟨x, rfl, hx, hd⟩
  rw [h] at hx
  obtain ⟨_, rfl⟩ := hx
  obtain ⟨k, rfl⟩ := hd.out
  exact ⟨rfl, n + k, World.drewN_drewN ..⟩
theorem fop_lt {op : BinOp} {o1 o2 : Option Nat} {r : Nat} (h : fop op o1 o2 = some r) : r < 18446744073709551616 := by
  cases o1 with
  | none => cases h
  | some a =>
    cases o2 with
    | none => cases h
    | some b =>
      have := floatBits_wf (show floatBits op .f64 a b = some r from h)
      simpa [Lit.wf] using this
/-- A row with a hole. -/
def HoleU (us : List UseP) (js : List Nat) (k : Nat) (g cap B : Nat) (w0 wr : World) : Prop := ∃ y c, RowC 36 4 (.slice (some ⟨g, 0, none⟩) (js.length + 1) cap) (js.length + 1) (uv ((js.take k).map (getU us) ++ y :: (js.drop k).map (getU us))) c ∧ St B w0 wr [c]
theorem set4 (A C : List Value) (b0 b1 b2 b3 v0 v1 v2 v3 : Value) (n : Nat) (h : A.length = n) : ((((A ++ ([b0, b1, b2, b3] ++ C)).set n v0).set (n + 1) v1).set (n + 2) v2).set (n + 3) v3 = A ++ ([v0, v1, v2, v3] ++ C) := by
  subst h
  simp [List.set_append]
theorem uv_hole (us : List UseP) (js : List Nat) (k : Nat) (y v : UseP) (hk : k ≤ js.length) :
    ((((uv ((js.take k).map (getU us) ++ y :: (js.drop k).map (getU us))).set (k * 4) (.int .i64 v.num)).set (k * 4 + 1) (.int .i64 v.dead)).set (k * 4 + 2) (.int .i64 v.all)).set (k * 4 + 3) (.float .f64 v.age) = uv ((js.take k).map (getU us) ++ v :: (js.drop k).map (getU us)) := by
  have e : ∀ z : UseP, uv ((js.take k).map (getU us) ++ z :: (js.drop k).map (getU us)) = uv ((js.take k).map (getU us)) ++ (useC z ++ uv ((js.drop k).map (getU us))) := by
    intro z
    rw [uv_append]
    rfl
  rw [e, e]
  exact set4 _ _ _ _ _ _ _ _ _ _ _ (by rw [uv_len, List.length_map, List.length_take, Nat.min_eq_left hk])
section
variable {us : List UseP} {js : List Nat} {k g cap B : Nat} {w0 wr : World}
theorem HoleU.drewN (h : HoleU us js k g cap B w0 wr) (n : Nat) : HoleU us js k g cap B w0 (wr.drewN n) := by
  obtain ⟨y, c, hr, hS⟩ := h
  exact ⟨y, c, hr, hS.drewN n⟩
theorem HoleU.drew (h : HoleU us js k g cap B w0 wr) : HoleU us js k g cap B w0 wr.drew := by
  obtain ⟨y, c, hr, hS⟩ := h
  exact ⟨y, c, hr, hS.drew⟩
theorem HoleU.put (h : HoleU us js k g cap B w0 wr) (hk : k ≤ js.length) (v : UseP) :
    ∃ c, RowC 36 4 (.slice (some ⟨g, 0, none⟩) (js.length + 1) cap) (js.length + 1) (uv ((js.take k).map (getU us) ++ v :: (js.drop k).map (getU us))) c ∧ St B w0 ((((wr.setCell ⟨g, k * 4, none⟩ (.int .i64 v.num)).setCell ⟨g, k * 4 + 1, none⟩ (.int .i64 v.dead)).setCell ⟨g, k * 4 + 2, none⟩ (.int .i64 v.all)).setCell ⟨g, k * 4 + 3, none⟩ (.float .f64 v.age)) [c] := by
  obtain ⟨y, c, hr, hS⟩ := h
  obtain ⟨c1, h1, s1⟩ := hr.store hS 0 rfl rfl (k * 4) (.int .i64 v.num)
  obtain ⟨c2, h2, s2⟩ := h1.store s1 0 rfl rfl (k * 4 + 1) (.int .i64 v.dead)
  obtain ⟨c3, h3, s3⟩ := h2.store s2 0 rfl rfl (k * 4 + 2) (.int .i64 v.all)
  obtain ⟨c4, h4, s4⟩ := h3.store s3 0 rfl rfl (k * 4 + 3) (.float .f64 v.age)
  rw [uv_hole us js k y v hk] at h4
  exact ⟨c4, h4, s4⟩
theorem HoleU.step (h : HoleU us js (k + 1) g cap B w0 wr) (hk : k + 1 ≤ js.length) {j : Nat} {v : UseP} (hj : js[k]? = some j) (hv : us[j]? = some v) :
    HoleU us js k g cap B w0 ((((wr.setCell ⟨g, (k + 1) * 4, none⟩ (.int .i64 v.num)).setCell ⟨g, (k + 1) * 4 + 1, none⟩ (.int .i64 v.dead)).setCell ⟨g, (k + 1) * 4 + 2, none⟩ (.int .i64 v.all)).setCell ⟨g, (k + 1) * 4 + 3, none⟩ (.float .f64 v.age)) := by
  obtain ⟨c, h1, h2⟩ := h.put hk v
  refine ⟨v, c, ?_, h2⟩
  have e : (js.take (k + 1)).map (getU us) ++ v :: (js.drop (k + 1)).map (getU us) = (js.take k).map (getU us) ++ v :: (js.drop k).map (getU us) := by
    have hk' := (List.getElem?_eq_some_iff.1 hj)
    obtain ⟨hk1, hk2⟩ := hk'
    rw [List.take_add_one, hj, List.drop_eq_getElem_cons hk1, List.map_append, List.append_assoc, hk2, List.map_cons, getU_at hv]
    simp [getU_at hv]
  rw [← e]
  exact h1
theorem HoleU.fill (h : HoleU us js k g cap B w0 wr) (hk : k ≤ js.length) {i : Nat} {v : UseP} (hv : us[i]? = some v) :
    RowU us B w0 (.slice (some ⟨g, 0, none⟩) (js.length + 1) cap) (js.take k ++ i :: js.drop k) ((((wr.setCell ⟨g, k * 4, none⟩ (.int .i64 v.num)).setCell ⟨g, k * 4 + 1, none⟩ (.int .i64 v.dead)).setCell ⟨g, k * 4 + 2, none⟩ (.int .i64 v.all)).setCell ⟨g, k * 4 + 3, none⟩ (.float .f64 v.age)) := by
  obtain ⟨c, h1, h2⟩ := h.put hk v
  refine ⟨c, ?_, h2⟩
  have e : (js.take k ++ i :: js.drop k).map (getU us) = (js.take k).map (getU us) ++ v :: (js.drop k).map (getU us) := by
    rw [List.map_append, List.map_cons, getU_at hv]
  have e2 : (js.take k ++ i :: js.drop k).length = js.length + 1 := by simp; omega
  rw [e, e2]
  exact h1
theorem HoleU.dest (h : HoleU us js k g cap B w0 wr) (hk : k ≤ js.length) : ∃ y : UseP, (wr.cell? ⟨g, k * 4, none⟩ = some (.int .i64 y.num) ∧ wr.cell? ⟨g, k * 4 + 1, none⟩ = some (.int .i64 y.dead) ∧ wr.cell? ⟨g, k * 4 + 2, none⟩ = some (.int .i64 y.all) ∧ wr.cell? ⟨g, k * 4 + 3, none⟩ = some (.float .f64 y.age)) ∧ wr.frozen? ⟨g, k * 4, none⟩ = false ∧ wr.frozen? ⟨g, k * 4 + 1, none⟩ = false ∧ wr.frozen? ⟨g, k * 4 + 2, none⟩ = false ∧ wr.frozen? ⟨g, k * 4 + 3, none⟩ = false := by
  obtain ⟨y, c, hr, hS⟩ := h
  have hy : ((js.take k).map (getU us) ++ y :: (js.drop k).map (getU us))[k]? = some y := by
    have e : ((js.take k).map (getU us)).length = k := by simp; omega
    rw [List.getElem?_append_right (by omega), e, Nat.sub_self]
    rfl
  have hc : ∀ q x, q < 4 → (useC y)[q]? = some x → wr.cell? ⟨g, k * 4 + q, none⟩ = some x := fun q x hq hx => hr.cellAt hS 0 rfl (by rw [uv_get _ k q y hy hq]; exact hx)
  exact ⟨y, ⟨hc 0 _ (by omega) rfl, hc 1 _ (by omega) rfl, hc 2 _ (by omega) rfl, hc 3 _ (by omega) rfl⟩, hr.freeAt hS 0 rfl _, hr.freeAt hS 0 rfl _, hr.freeAt hS 0 rfl _, hr.freeAt hS 0 rfl _⟩
theorem HoleU.src (h : HoleU us js k g cap B w0 wr) (hk : k ≤ js.length) {m j : Nat} {v : UseP} (hm : m < k) (hj : js[m]? = some j) (hv : us[j]? = some v) : wr.cell? ⟨g, m * 4, none⟩ = some (.int .i64 v.num) ∧ wr.cell? ⟨g, m * 4 + 1, none⟩ = some (.int .i64 v.dead) ∧ wr.cell? ⟨g, m * 4 + 2, none⟩ = some (.int .i64 v.all) ∧ wr.cell? ⟨g, m * 4 + 3, none⟩ = some (.float .f64 v.age) := by
  obtain ⟨y, c, hr, hS⟩ := h
  have hy : ((js.take k).map (getU us) ++ y :: (js.drop k).map (getU us))[m]? = some v := by
    rw [List.getElem?_append_left (by simp; omega), List.getElem?_map, List.getElem?_take, if_pos hm, hj]
    show some (getU us j) = some v
    rw [getU_at hv]
  have hc : ∀ q x, q < 4 → (useC v)[q]? = some x → wr.cell? ⟨g, m * 4 + q, none⟩ = some x := fun q x hq hx => hr.cellAt hS 0 rfl (by rw [uv_get _ m q v hy hq]; exact hx)
  exact ⟨hc 0 _ (by omega) rfl, hc 1 _ (by omega) rfl, hc 2 _ (by omega) rfl, hc 3 _ (by omega) rfl⟩
end
theorem okU_gain {W : Nat} {us : List UseP} {j : Nat} {v : UseP} (h : okU W us j = true) (hv : us[j]? = some v) : ∃ r, gainP v.dead v.all v.age W = some r ∧ posN r = true ∧ rU W us j = r := by
  unfold okU gU at h
  rw [hv] at h
  unfold rU gU
  rw [hv]
  simp only at h ⊢
  cases hg : gainP v.dead v.all v.age W with
  | none => rw [hg] at h; cases h
  | some r =>
    rw [hg] at h
    unfold posO at h ⊢
    cases hp : posN r with
    | false => simp [hp] at h
    | true => exact ⟨r, rfl, hp, by simp [hp]⟩
def ROrdOut (W : Nat) (us : List UseP) (w : World) (e : Ending) (w' : World) : Prop := ∃ v js c, e = .returned v ∧ RowC 36 4 v js.length (uv (js.map (getU us))) c ∧ SpecC (okU W us) (rU W us) (numU us) us.length js ∧ St w.heap.size w w' [c]
set_option maxHeartbeats 8000000 in
theorem reforder_any (v : Value) (us : List UseP) (W : Nat) (w : World) (h : Rd w 4 v us.length (uv us)) (hW : W < 18446744073709551616) (hage : ∀ u ∈ us, u.age < 18446744073709551616) (hn : us.length ≤ 300) :
    Calls Try.prog 15 #[v, .float .f64 W] w (ROrdOut W us w) := by
  obtain ⟨i0, i0a, i0b, i0c, i0d⟩ := info_parts infoUR
  obtain ⟨ao, cap, rfl⟩ := h.shape
  have H0 := Lib.hid (And.intro h hage)
  have hnl : (us.length : Int) ≤ 300 := by omega
  have hS0 := (St.init w).one_nil
  clear h hage
  go_enter Try.func15, Try.ntmps15
  go_wp2_with fail
  go_loopg [5, 6] us.length (fun m s5 s6 wr => ∃ i : Nat, i + m = us.length ∧ s6 = .int .i64 (i : Int) ∧ ∃ js : List Nat, RowU us w.heap.size w s5 js wr ∧ js.length ≤ i ∧ Hid (SpecC (okU W us) (rU W us) (numU us) i js))
  case atStart => exact ⟨0, by omega, rfl, [], ⟨[], RowC.nil 36 4, hS0⟩, by simp, Lib.hid (SpecC.nil _ _ _)⟩
  case round =>
    clear hS0
    obtain ⟨i, hi, rfl, js, ⟨c, hr, hS⟩, hjl, HJ⟩ := hrel
    obtain ⟨ao5, cap5, rfl⟩ := hr.shape
    cases gk with
    | succ m =>
      have hif : (i : Int) < (us.length : Int) := by omega
      obtain ⟨u, hu⟩ : ∃ u, us[i]? = some u := ⟨_, List.getElem?_eq_getElem (by omega)⟩
      obtain ⟨ad, rfl⟩ : ∃ ad, ao = some ad := by
        obtain ⟨ad, e, _⟩ := H0.out.1.at (j := i * 4 + 0) (by rw [uv_get us i 0 u hu (by omega)]; rfl)
        exact ⟨ad, e⟩
      obtain ⟨k0, k1, k2, k3⟩ := (H0.out.1.st hS).use hu
      have hage := H0.out.2 u (List.mem_of_getElem? hu)
      have HU := Lib.hid hu
      clear hu
      cases hgo : gainP u.dead u.all u.age W with
      | none =>
        have HSK : Hid (SpecC (okU W us) (rU W us) (numU us) (i + 1) js) := Lib.hid (HJ.out.skip (by unfold okU gU; rw [HU.out]; simp only [hgo]; rfl))
        go_wp2_with fail
        go_region_with ((go_at_call 13; refine (refgain_any u.dead u.all u.age W _ hage hW).mono ?_; rintro e w2 ⟨x, rfl, hx, hd⟩))
        all_goals (
          have hp : (FloatKind.f64.format.order x 0 == some .gt) = false := posN_nan (by rw [hgo] at hx; exact hx.2)
          have HS := Lib.hid (And.intro hr (hS.drew.Drew hd))
          clear hx hd hr hS
          go_wp2_with fail
          go_roundg m
          case measure => omega
          case rel => exact ⟨i + 1, by omega, by go_num, js, ⟨c, HS.out⟩, by omega, HSK⟩)
      | some r =>
        have hle := refgain_quiet hgo hage hW
        have hr64 : r < 18446744073709551616 := fop_lt hgo
        have HGO := Lib.hid hgo
        clear hgo
        go_wp2_with fail
        go_quiet ((go_at_call 13; exact hle _ _))
        have hS2 := hS.drewN nq
        generalize wr.drewN nq = w2 at hS2 ⊢
        cases hp : posN r with
        | false =>
          have hp2 : (FloatKind.f64.format.order r 0 == some .gt) = false := hp
          have HSK : Hid (SpecC (okU W us) (rU W us) (numU us) (i + 1) js) := Lib.hid (HJ.out.skip (by unfold okU gU; rw [HU.out]; simp only [HGO.out]; unfold posO; simp [hp]))
          have HS := Lib.hid (And.intro hr hS2)
          clear hr hS hS2
          go_wp2_with fail
          go_roundg m
          case measure => omega
          case rel => exact ⟨i + 1, by omega, by go_num, js, ⟨c, HS.out⟩, by omega, HSK⟩
        | true =>
          have hp2 : (FloatKind.f64.format.order r 0 == some .gt) = true := hp
          clear k0 k1 k2 k3
          obtain ⟨k0, k1, k2, k3⟩ := (H0.out.1.st hS2).use HU.out
          have hjl3 : (js.length : Int) ≤ 300 := by omega
          go_wp2_with (at_builtin; (refine wpList_app 0 26 i0 (.agg #[.int .i64 0, .int .i64 0, .int .i64 0, .float .f64 0]) _ _ rfl rfl rfl rfl Try.underlying26 i0a i0b i0c i0d rfl (by decide) (hS2.alloc' _) rfl hr (Rd.lits4 w2 _ 36 rfl) (by intro z hz; exact uv_one [u] z (by simpa [uv, useC] using hz)) ?_ ?_ ?_); (unfold maxLen; omega); omega; intro v1 c1 w3 hr1 hS3)
          have e1 : uv (js.map (getU us)) ++ [.int .i64 u.num, .int .i64 u.dead, .int .i64 u.all, .float .f64 u.age] = uv ((js.take js.length).map (getU us) ++ u :: (js.drop js.length).map (getU us)) := by
            rw [List.take_length, List.drop_length, uv_append]
            rfl
          have hr2 : RowC 36 4 v1 (js.length + 1) (uv ((js.take js.length).map (getU us) ++ u :: (js.drop js.length).map (getU us))) c1 := e1 ▸ hr1
          obtain ⟨ao1, cap1, rfl⟩ := hr2.shape
          obtain ⟨g1, rfl⟩ := hr2.head (by omega)
          have HO : Hid (HoleU us js js.length g1 cap1 w.heap.size w w3) := Lib.hid ⟨u, c1, hr2, hS3⟩
          have HPP := Lib.hid hp
          clear e1 hr2 hr1 hS3 hS2 hr hS k0 k1 k2 k3 hp hp2
          go_wp2_with fail
          go_loopg [8] js.length (fun k s8 wk => s8 = .int .i64 (k : Int) ∧ k ≤ js.length ∧ Hid (HoleU us js k g1 cap1 w.heap.size w wk) ∧ Hid (∀ y ∈ js.drop k, aftC (rU W us) (numU us) i y))
          case atStart => exact ⟨rfl, Nat.le_refl _, HO, Lib.hid (by simp)⟩
          case round =>
            clear HO
            obtain ⟨rfl, hk, HO, HA⟩ := hrel
            have hku : wr.cell? (ad.add (i * 4)) = some (.int .i64 u.num) ∧ wr.cell? ⟨(ad.add (i * 4)).block, (ad.add (i * 4)).off + 1, none⟩ = some (.int .i64 u.dead) ∧ wr.cell? ⟨(ad.add (i * 4)).block, (ad.add (i * 4)).off + 2, none⟩ = some (.int .i64 u.all) ∧ wr.cell? ⟨(ad.add (i * 4)).block, (ad.add (i * 4)).off + 3, none⟩ = some (.float .f64 u.age) := by
              obtain ⟨_, _, _, hSx⟩ := HO.out
              exact (H0.out.1.st hSx).use HU.out
            have hgk : (gk : Int) < (js.length : Int) + 1 := by omega
            by_cases hk0 : gk = 0
            · have hk0i : ¬ (0 : Int) < (gk : Int) := by omega
              obtain ⟨k0, k1, k2, k3⟩ := hku
              obtain ⟨y, ⟨d0, d1, d2, d3⟩, f0, f1, f2, f3⟩ := HO.out.dest hk
              have HF := Lib.hid (HO.out.fill hk HU.out)
              have HIN : Hid (SpecC (okU W us) (rU W us) (numU us) (i + 1) (js.take gk ++ i :: js.drop gk)) := Lib.hid (HJ.out.insert (by unfold okU gU; rw [HU.out]; simp only [HGO.out]; unfold posO; simp [HPP.out]) hk HA.out (fun y h => by omega))
              clear hk0
              go_wp2_with fail
              go_roundg m
              case measure => omega
              case rel => exact ⟨i + 1, by omega, by go_num, _, HF.out, by simp; omega, HIN⟩
            · obtain ⟨k, rfl⟩ : ∃ k, gk = k + 1 := ⟨gk - 1, by omega⟩
              have hkp : (0 : Int) < ((k + 1 : Nat) : Int) := by omega
              have hks : (k : Int) < (js.length : Int) + 1 := by omega
              obtain ⟨j, hj⟩ : ∃ j, js[k]? = some j := ⟨_, List.getElem?_eq_getElem (by omega)⟩
              obtain ⟨hjn, hjok⟩ := HJ.out.mem (List.mem_of_getElem? hj)
              obtain ⟨v, hv⟩ : ∃ v, us[j]? = some v := ⟨_, List.getElem?_eq_getElem (by omega)⟩
              obtain ⟨h0, hg0, hp0, hr0⟩ := okU_gain hjok hv
              have hru : rU W us i = r := by unfold rU gU; rw [HU.out]; simp only [HGO.out]; unfold posO; simp [HPP.out]
              have hnu : numU us i = u.num := by unfold numU; rw [HU.out]
              have hnv : numU us j = v.num := by unfold numU; rw [hv]
              have hoki : okU W us i = true := by unfold okU gU; rw [HU.out]; simp only [HGO.out]; unfold posO; simp [HPP.out]
              obtain ⟨o1, o2⟩ := ord_pos (fop_lt hg0) hr64 hp0 HPP.out
              have o1' : (FloatKind.f64.format.order h0 r == some .lt) = decide (h0 < r) := o1
              have o2' : (FloatKind.f64.format.order h0 r == some .eq) = decide (h0 = r) := o2
              have haft : aftC (rU W us) (numU us) i j ↔ (h0 < r ∨ (h0 = r ∧ u.num < v.num)) := by unfold aftC; rw [hr0, hru, hnu, hnv]
              have HAF := Lib.hid haft
              have hdrop : ∀ y ∈ js.drop k, y = j ∨ y ∈ js.drop (k + 1) := by
                intro y hy
                obtain ⟨hk1, hk2⟩ := List.getElem?_eq_some_iff.1 hj
                rw [List.drop_eq_getElem_cons hk1, hk2] at hy
                exact List.mem_cons.1 hy
              have HA2' : Hid (aftC (rU W us) (numU us) i j → ∀ y ∈ js.drop k, aftC (rU W us) (numU us) i y) := Lib.hid (by
                intro h y hy
                rcases hdrop y hy with rfl | hy
                · exact h
                · exact HA.out y hy)
              have HIN' : Hid (¬ aftC (rU W us) (numU us) i j → SpecC (okU W us) (rU W us) (numU us) (i + 1) (js.take (k + 1) ++ i :: js.drop (k + 1))) := Lib.hid (by
                intro h
                refine HJ.out.insert hoki hk HA.out (fun y _ hy => ?_)
                rw [Nat.add_sub_cancel, hj] at hy
                cases hy
                exact h)
              have hle2 := refgain_quiet hg0 (H0.out.2 v (List.mem_of_getElem? hv)) hW
              obtain ⟨s0, s1, s2, s3⟩ := HO.out.src hk (Nat.lt_succ_self k) hj hv
              have HJV := Lib.hid (And.intro hj hv)
              clear haft hdrop hoki hnu hnv hru hr0 hg0 hp0 hjok hj hv hku o1 o2
              go_wp2_with fail
              go_quiet ((go_at_call 13; exact hle2 _ _))
              have HO2 : Hid (HoleU us js (k + 1) g1 cap1 w.heap.size w (wr.drewN nq)) := Lib.hid (HO.out.drewN nq)
              generalize wr.drewN nq = w4 at HO2 ⊢
              clear s0 s1 s2 s3 hle2
              obtain ⟨s0, s1, s2, s3⟩ := HO2.out.src hk (Nat.lt_succ_self k) HJV.out.1 HJV.out.2
              obtain ⟨k0, k1, k2, k3⟩ : w4.cell? (ad.add (i * 4)) = some (.int .i64 u.num) ∧ w4.cell? ⟨(ad.add (i * 4)).block, (ad.add (i * 4)).off + 1, none⟩ = some (.int .i64 u.dead) ∧ w4.cell? ⟨(ad.add (i * 4)).block, (ad.add (i * 4)).off + 2, none⟩ = some (.int .i64 u.all) ∧ w4.cell? ⟨(ad.add (i * 4)).block, (ad.add (i * 4)).off + 3, none⟩ = some (.float .f64 u.age) := by
                obtain ⟨_, _, _, hSx⟩ := HO2.out
                exact (H0.out.1.st hSx).use HU.out
              obtain ⟨y, ⟨d0, d1, d2, d3⟩, f0, f1, f2, f3⟩ := HO2.out.dest hk
              have HSTEP' : Hid (HoleU us js k g1 cap1 w.heap.size w ((((w4.drew.setCell ⟨g1, (k + 1) * 4, none⟩ (.int .i64 v.num)).setCell ⟨g1, (k + 1) * 4 + 1, none⟩ (.int .i64 v.dead)).setCell ⟨g1, (k + 1) * 4 + 2, none⟩ (.int .i64 v.all)).setCell ⟨g1, (k + 1) * 4 + 3, none⟩ (.float .f64 v.age))) := Lib.hid (HO2.out.drew.step hk HJV.out.1 HJV.out.2)
              have HF := Lib.hid (HO2.out.drew.fill hk HU.out)
              go_wp2_with fail
              by_cases q1 : h0 < r
              · have HA3 := Lib.hid (HA2'.out (HAF.out.2 (.inl q1)))
                have p1 : (FloatKind.f64.format.order h0 r == some .lt) = true := by rw [o1']; simpa using q1
                clear o1' o2' q1 hk0
                go_wp2_with (first | ((with_reducible refine wpStill_plain ?_ ?_ (fun _ _ => ?_)); rfl; rfl) | (with_reducible refine wpStill_nil ?_) | ((with_reducible refine wpStill_skipg 4 true ?_ ?_ (fun _ _ => ?_)); rfl; kernel_rfl) | ((with_reducible refine wpStill_skipg 8 true ?_ ?_ (fun _ _ => ?_)); rfl; kernel_rfl) | ((with_reducible refine wp_draw_all (id := 11) mixed ?_ (fun _ _ => ?_)); kernel_rfl))
                go_roundg k
                case measure => omega
                case rel => exact ⟨by first | rfl | go_num, by omega, HSTEP', HA3⟩
              · have p1 : (FloatKind.f64.format.order h0 r == some .lt) = false := by rw [o1']; simpa using q1
                by_cases q2 : h0 = r
                · have p2 : (FloatKind.f64.format.order h0 r == some .eq) = true := by rw [o2']; simpa using q2
                  by_cases q3 : u.num < v.num
                  · have HA3 := Lib.hid (HA2'.out (HAF.out.2 (.inr ⟨q2, q3⟩)))
                    clear o1' o2' q1 q2 hk0
                    go_wp2_with (first | ((with_reducible refine wpStill_plain ?_ ?_ (fun _ _ => ?_)); rfl; rfl) | (with_reducible refine wpStill_nil ?_) | ((with_reducible refine wpStill_wantg 4 true ?_ ?_ ?_ (fun _ _ => ?_)); rfl; kernel_rfl; rfl) | ((with_reducible refine wpStill_wantg 8 true ?_ ?_ ?_ (fun _ _ => ?_)); rfl; kernel_rfl; rfl) | ((with_reducible refine wp_draw_all (id := 11) mixed ?_ (fun _ _ => ?_)); kernel_rfl))
                    go_roundg k
                    case measure => omega
                    case rel => exact ⟨by first | rfl | go_num, by omega, HSTEP', HA3⟩
                  · have HIN := Lib.hid (HIN'.out (fun h => (HAF.out.1 h).elim (fun h => q1 h) (fun h => q3 h.2)))
                    clear o1' o2' q1 q2 hk0
                    go_wp2_with (first | ((with_reducible refine wpStill_plain ?_ ?_ (fun _ _ => ?_)); rfl; rfl) | (with_reducible refine wpStill_nil ?_) | ((with_reducible refine wpStill_wantg 4 true ?_ ?_ ?_ (fun _ _ => ?_)); rfl; kernel_rfl; rfl) | ((with_reducible refine wpStill_wantg 8 true ?_ ?_ ?_ (fun _ _ => ?_)); rfl; kernel_rfl; rfl) | ((with_reducible refine wp_draw_all (id := 11) mixed ?_ (fun _ _ => ?_)); kernel_rfl))
                    go_roundg m
                    case measure => omega
                    case rel => exact ⟨i + 1, by omega, by go_num, _, HF.out, by simp; omega, HIN⟩
                · have p2 : (FloatKind.f64.format.order h0 r == some .eq) = false := by rw [o2']; simpa using q2
                  have HIN := Lib.hid (HIN'.out (fun h => (HAF.out.1 h).elim (fun h => q1 h) (fun h => q2 h.1)))
                  clear o1' o2' q1 q2 hk0
                  go_wp2_with (first | ((with_reducible refine wpStill_plain ?_ ?_ (fun _ _ => ?_)); rfl; rfl) | (with_reducible refine wpStill_nil ?_) | ((with_reducible refine wpStill_wantg 4 true ?_ ?_ ?_ (fun _ _ => ?_)); rfl; kernel_rfl; rfl) | ((with_reducible refine wpStill_skipg 8 true ?_ ?_ (fun _ _ => ?_)); rfl; kernel_rfl) | ((with_reducible refine wp_draw_all (id := 11) mixed ?_ (fun _ _ => ?_)); kernel_rfl))
                  go_roundg m
                  case measure => omega
                  case rel => exact ⟨i + 1, by omega, by go_num, _, HF.out, by simp; omega, HIN⟩
    | zero =>
      obtain rfl : i = us.length := by omega
      have hz : ¬ (us.length : Int) < (us.length : Int) := by omega
      have HR := Lib.hid (And.intro hr hS)
      clear hr hS
      go_wp2_with fail
      go_ret
      exact ⟨_, js, c, rfl, HR.out.1, HJ.out, HR.out.2⟩
end Go.Proofs.Ytdhnmcdgiddhdab
