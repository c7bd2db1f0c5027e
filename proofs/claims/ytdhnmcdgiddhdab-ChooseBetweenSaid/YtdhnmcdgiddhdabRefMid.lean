/-
  Contracts of the reference's Median and Mean.
-/
import Derived.Test.YtdhnmcdgiddhdabMid
import Derived.BigQuiet
import Derived.BigRegion
set_option linter.unusedVariables false
set_option linter.unusedSimpArgs false
namespace Go.Proofs.Ytdhnmcdgiddhdab
open Go.RowKit
set_option maxRecDepth 100000
def rowF (l : List Nat) (k y : Nat) : List Nat := l.take k ++ y :: l.drop k
theorem rowF_length (l : List Nat) (k y : Nat) (h : k ≤ l.length) : (rowF l k y).length = l.length + 1 := by simp [rowF]; omega
theorem rowF_full (l : List Nat) (y : Nat) : rowF l l.length y = l ++ [y] := by simp [rowF]
theorem rowF_get (l : List Nat) (k y : Nat) {m : Nat} (h : m < k) (hk : k ≤ l.length) : (rowF l k y)[m]? = l[m]? := by
  unfold rowF
  rw [List.getElem?_append_left (by simp; omega), List.getElem?_take, if_pos h]
theorem rowF_at (l : List Nat) (k y : Nat) (hk : k ≤ l.length) : (rowF l k y)[k]? = some y := by
  unfold rowF
  rw [List.getElem?_append_right (by simp; omega)]
  have : k - (l.take k).length = 0 := by simp; omega
  rw [this]
  rfl
theorem rowF_set (l : List Nat) (k y z : Nat) (hk : k ≤ l.length) : (rowF l k y).set k z = rowF l k z := by
  unfold rowF
  rw [List.set_append, if_neg (by simp; omega)]
  have : k - (l.take k).length = 0 := by simp; omega
  rw [this]
  rfl
theorem rowF_step {l : List Nat} {k z : Nat} (h : l[k]? = some z) : rowF l (k + 1) z = rowF l k z := by
  unfold rowF
  obtain ⟨hk, rfl⟩ := List.getElem?_eq_some_iff.1 h
  rw [List.take_add_one, h, List.append_assoc, List.drop_eq_getElem_cons hk]
  rfl
theorem fv_set (l : List Nat) (i v : Nat) : (fv l).set i (.float .f64 v) = fv (l.set i v) := by simp [fv, List.map_set]
theorem fv_snoc (l : List Nat) (x : Nat) : fv l ++ [.float .f64 x] = fv (l ++ [x]) := by simp [fv]
/-- A row with a hole. -/
def HoleF (s : List Nat) (k : Nat) (g cap B : Nat) (w0 wr : World) : Prop := ∃ y c, RowC 29 1 (.slice (some ⟨g, 0, none⟩) (s.length + 1) cap) (s.length + 1) (fv (rowF s k y)) c ∧ St B w0 wr [c]
theorem HoleF.step {s : List Nat} {k g cap B z : Nat} {w0 wr : World} (h : HoleF s (k + 1) g cap B w0 wr) (hz : s[k]? = some z) (n : Nat) : HoleF s k g cap B w0 ((wr.drewN n).setCell ⟨g, k + 1, none⟩ (.float .f64 z)) := by
  obtain ⟨y, c, hr, hS⟩ := h
  have hk := (List.getElem?_eq_some_iff.1 hz).1
  obtain ⟨c', h1, h2⟩ := hr.store (hS.drewN n) 0 rfl rfl (k + 1) (.float .f64 z)
  rw [fv_set, rowF_set _ _ _ _ (by omega), rowF_step hz] at h1
  exact ⟨z, c', h1, h2⟩
def RowInF (B : Nat) (w0 : World) (v : Value) (s : List Nat) (wr : World) : Prop := ∃ c, RowC 29 1 v s.length (fv s) c ∧ St B w0 wr [c]
theorem HoleF.fill {s : List Nat} {k g cap B : Nat} {w0 wr : World} (h : HoleF s k g cap B w0 wr) (hk : k ≤ s.length) (x n : Nat) (h1 : posG s x k = posG s x s.length) (h2 : posG s x k = k) : RowInF B w0 (.slice (some ⟨g, 0, none⟩) (s.length + 1) cap) (insF s x) ((wr.drewN n).setCell ⟨g, k, none⟩ (.float .f64 x)) := by
  obtain ⟨y, c, hr, hS⟩ := h
  obtain ⟨c', h3, h4⟩ := hr.store (hS.drewN n) 0 rfl rfl k (.float .f64 x)
  rw [fv_set, rowF_set _ _ _ _ hk] at h3
  refine ⟨c', ?_, h4⟩
  rw [insF_length]
  unfold insF
  rw [← h1, h2]
  exact h3
theorem HoleF.at {s : List Nat} {k g cap B : Nat} {w0 wr : World} (h : HoleF s k g cap B w0 wr) (hk : k ≤ s.length) : (∃ y, wr.cell? ⟨g, k, none⟩ = some (.float .f64 y)) ∧ wr.frozen? ⟨g, k, none⟩ = false := by
  obtain ⟨y, c, hr, hS⟩ := h
  exact ⟨⟨y, hr.cellAt hS 0 rfl (fv_get _ k y (rowF_at s k y hk))⟩, hr.freeAt hS 0 rfl k⟩
theorem HoleF.drewN {s : List Nat} {k g cap B : Nat} {w0 wr : World} (h : HoleF s k g cap B w0 wr) (n : Nat) : HoleF s k g cap B w0 (wr.drewN n) := by
  obtain ⟨y, c, hr, hS⟩ := h
  exact ⟨y, c, hr, hS.drewN n⟩
theorem HoleF.below {s : List Nat} {k g cap B m z : Nat} {w0 wr : World} (h : HoleF s k g cap B w0 wr) (hk : k ≤ s.length) (hm : m < k) (hz : s[m]? = some z) : wr.cell? ⟨g, m, none⟩ = some (.float .f64 z) := by
  obtain ⟨y, c, hr, hS⟩ := h
  exact hr.cellAt hS 0 rfl (fv_get _ m z (by rw [rowF_get _ _ _ hm hk]; exact hz))
set_option maxHeartbeats 4000000 in
theorem refmean_any (v : Value) (l : List Nat) (w : World) (h : Rd w 1 v l.length (fv l)) (hl : ∀ x ∈ l, x < 18446744073709551616) (hn : l.length ≤ 1000000) :
    Calls Try.prog 22 #[v] w (MedOut (meanV l) w) := by
  obtain ⟨ao, cap, rfl⟩ := h.shape
  have H0 := Lib.hid (And.intro h hl)
  have hnl : (l.length : Int) ≤ 1000000 := by omega
  clear h hl
  go_enter Try.func22, Try.ntmps22
  go_wp2_with fail
  go_loopg [3, 4] l.length (fun m s3 s4 wr => ∃ i x : Nat, i + m = l.length ∧ s4 = .int .i64 (i : Int) ∧ s3 = .float .f64 x ∧ IsF (meanS (l.take i)) x ∧ Drew w wr)
  case atStart => exact ⟨0, 0, by omega, rfl, rfl, isf_some 0 (by omega), Drew.refl _⟩
  case round =>
    obtain ⟨i, x, hi, rfl, rfl, hx, hd⟩ := hrel
    obtain ⟨nd, rfl⟩ := hd.out
    clear hd
    cases gk with
    | succ m =>
      have hif : (i : Int) < (l.length : Int) := by omega
      obtain ⟨y, hy⟩ : ∃ y, l[i]? = some y := ⟨_, List.getElem?_eq_getElem (by omega)⟩
      obtain ⟨ad, rfl, hc⟩ := H0.out.1.at (fv_get l i y hy)
      obtain ⟨z, n1, hq, hz⟩ := op_any (P := Try.prog) (w.drewN nd) .add (by simp) 29 hx (isf_some y (H0.out.2 y (List.mem_of_getElem? hy)))
      rw [World.drewN_drewN] at hq
      rw [← meanS_succ hy] at hz
      have HZ := Lib.hid hz
      clear hz hx hy
      go_wp2_with fail
      go_roundg m
      case measure => omega
      case rel => exact ⟨i + 1, z, by omega, by go_num, rfl, HZ.out, Drew.mk _ _⟩
    | zero =>
      obtain rfl : i = l.length := by omega
      have hz : ¬ (l.length : Int) < (l.length : Int) := by omega
      rw [List.take_length] at hx
      obtain ⟨z, n1, hq, hz2⟩ := op_any (P := Try.prog) (w.drewN nd) .quo (by simp) 29 hx (isf_some _ (fint_lt (l.length : Int)))
      rw [World.drewN_drewN] at hq
      have HZ := Lib.hid (show IsF (meanV l) z from hz2)
      clear hz2 hx hi
      have e1 := run_convert_int_float (P := Try.prog) (w.drewN nd) 3 29 .i64 .f64 (l.length : Int) (by rw [Try.underlying3]; rfl) Try.underlying29
      generalize floatOfInt .f64 (l.length : Int) = fl at hq e1
      go_wp2_with fail
      go_ret
      exact ⟨_, rfl, HZ.out, ((St.init w).drewN _).below⟩
set_option maxHeartbeats 8000000 in
theorem refmedian_any (v : Value) (l : List Nat) (w : World) (h : Rd w 1 v l.length (fv l)) (hl : ∀ x ∈ l, x < 18446744073709551616) (hn : l.length ≤ 100000) :
    Calls Try.prog 21 #[v] w (MedOut (medV (medS l)) w) := by
  obtain ⟨i0, i0a, i0b, i0c, i0d⟩ := info_parts infoF
  obtain ⟨ao, cap, rfl⟩ := h.shape
  have H0 := Lib.hid (And.intro h hl)
  have hnl : (l.length : Int) ≤ 100000 := by omega
  have hS0 := (St.init w).one_nil
  clear h hl
  go_enter Try.func21, Try.ntmps21
  go_wp2_with fail
  go_loopg [3, 4] l.length (fun m s3 s4 wr => ∃ i : Nat, i + m = l.length ∧ s4 = .int .i64 (i : Int) ∧ ∃ s : List Nat, RowInF w.heap.size w s3 s wr ∧ s.length ≤ i ∧ Hid (s = medS (l.take i)))
  case atStart => exact ⟨0, by omega, rfl, [], ⟨[], RowC.nil 29 1, hS0⟩, by simp, Lib.hid rfl⟩
  case round =>
    clear hS0
    obtain ⟨i, hi, rfl, s, ⟨c, hr, hS⟩, hsl, HM⟩ := hrel
    obtain ⟨ao3, cap3, rfl⟩ := hr.shape
    cases gk with
    | succ m =>
      have hif : (i : Int) < (l.length : Int) := by omega
      obtain ⟨x, hx⟩ : ∃ x, l[i]? = some x := ⟨_, List.getElem?_eq_getElem (by omega)⟩
      obtain ⟨ad, rfl, hc⟩ := (H0.out.1.st hS).at (fv_get l i x hx)
      have hx64 := H0.out.2 x (List.mem_of_getElem? hx)
      have HX := Lib.hid (medS_succ hx)
      have hsi : (s.length : Int) ≤ 100000 := by omega
      have hna : (FloatKind.f64.format.order x x != some .eq) = nanB x := by
        have h := order_self x
        show (!(Ieee.double.order x x == some .eq)) = _
        rw [h]; simp
      cases hnx : nanB x with
      | true =>
        rw [hnx] at hna
        have HN := Lib.hid hnx
        have HS := Lib.hid (And.intro hr hS)
        clear hnx hx hr hS
        go_wp2_with (first | ((with_reducible refine wpStill_plain ?_ ?_ (fun _ _ => ?_)); rfl; rfl) | (with_reducible refine wpStill_nil ?_) | ((with_reducible refine wp_draw_all (id := 5) mixed ?_ (fun _ _ => ?_)); kernel_rfl))
        go_roundg m
        case measure => omega
        case rel => exact ⟨i + 1, by omega, by go_num, s, ⟨c, HS.out.1, HS.out.2.drew⟩, by omega, Lib.hid (by rw [HX.out, HN.out, if_pos rfl]; exact HM.out)⟩
      | false =>
        rw [hnx] at hna
        have HN := Lib.hid hnx
        have HXI := Lib.hid hx
        clear hnx hx
        have hkl := posG_le s x s.length
        go_wp2_with (first | ((with_reducible refine wpStill_plain ?_ ?_ (fun _ _ => ?_)); rfl; rfl) | (with_reducible refine wpStill_nil ?_) | (at_builtin; (refine wpList_app1 (w := wr.drew) 0 31 i0 (.float .f64 0) _ _ _ rfl rfl rfl rfl Try.underlying31 i0a i0b i0c i0d rfl (hS.drew) rfl hr rfl ?_ ?_ ?_); (unfold maxLen; omega); omega; intro v1 c1 w1 hr1 hS1) | ((with_reducible refine wp_draw_all (id := 5) mixed ?_ (fun _ _ => ?_)); kernel_rfl))
        rw [fv_snoc, ← rowF_full] at hr1
        obtain ⟨ao1, cap1, rfl⟩ := hr1.shape
        obtain ⟨g1, rfl⟩ := hr1.head (by omega)
        have HH : Hid (HoleF s s.length g1 cap1 w.heap.size w w1) := Lib.hid ⟨x, c1, hr1, hS1⟩
        have HB1 := Lib.hid hS1.below
        clear hr hS hr1 hS1 hna hc
        go_wp2_with fail
        go_loopg [5] s.length (fun k s5 wk => s5 = .int .i64 (k : Int) ∧ k ≤ s.length ∧ Hid (posG s x k = posG s x s.length) ∧ Hid (HoleF s k g1 cap1 w.heap.size w wk))
        case atStart => exact ⟨rfl, Nat.le_refl _, Lib.hid rfl, HH⟩
        case round =>
          obtain ⟨rfl, hk, HK, HO⟩ := hrel
          have hcl : wr.cell? (ad.add i) = some (.float .f64 x) := by
            obtain ⟨_, _, _, hSx⟩ := HO.out
            obtain ⟨ad', e', hcl⟩ := (H0.out.1.st hSx).at (fv_get l i x HXI.out)
            cases e'
            exact hcl
          have HON := Lib.hid (fun n => HO.out.drewN n)
          obtain ⟨⟨y0, hcy⟩, hfr⟩ := HO.out.at hk
          cases gk with
          | zero =>
            have HF := Lib.hid (fun n => HO.out.fill hk x n HK.out rfl)
            have hil := insF_length s x
            go_wp2_with fail
            go_quiet (fail)
            obtain ⟨⟨y1, hcy2⟩, hfr2⟩ := (HON.out nq).at hk
            go_wp2_with fail
            go_roundg m
            case measure => omega
            case rel => exact ⟨i + 1, by omega, by go_num, insF s x, HF.out _, by omega, Lib.hid (by rw [HX.out, HN.out, ← HM.out]; rfl)⟩
          | succ k =>
            obtain ⟨y, hy⟩ : ∃ y, s[k]? = some y := ⟨_, List.getElem?_eq_getElem (by omega)⟩
            have hkp : (0 : Int) < (k : Int) + 1 := by omega
            have hks : (k : Int) + 1 ≤ (s.length : Int) := by omega
            have hky := HO.out.below hk (Nat.lt_succ_self k) hy
            have hy2 := H0.out.2 y (medS_mem i (HM.out ▸ List.mem_of_getElem? hy)).1
            cases hb : lessP x y with
            | true =>
              have HR : Hid (∀ n, HoleF s k g1 cap1 w.heap.size w ((wr.drewN n).setCell ⟨g1, k + 1, none⟩ (.float .f64 y))) := Lib.hid (fun n => HO.out.step hy n)
              have HK2 : Hid (posG s x k = posG s x s.length) := Lib.hid (by rw [← posG_yes hy hb]; exact HK.out)
              have hle : ∀ n, Calls Try.prog 33 #[.float .f64 x, .float .f64 y] (wr.drewN n) fun e w'' => e = .returned (.bool true) ∧ ∃ m, w'' = wr.drewN m := fun n => quiet_same (hb ▸ refless_any x y _ hx64 hy2)
              clear hy hb HO HK
              go_wp2_with fail
              go_quiet ((go_at_call 33; exact hle _))
              obtain ⟨⟨y1, hcy2⟩, hfr2⟩ := (HON.out nq).at hk
              go_wp2_with fail
              go_roundg k
              case measure => omega
              case rel => exact ⟨by go_num, by omega, HK2, Lib.hid (HR.out _)⟩
            | false =>
              have HF := Lib.hid (fun n => HO.out.fill hk x n HK.out (posG_no hy hb))
              have hil := insF_length s x
              have hle : ∀ n, Calls Try.prog 33 #[.float .f64 x, .float .f64 y] (wr.drewN n) fun e w'' => e = .returned (.bool false) ∧ ∃ m, w'' = wr.drewN m := fun n => quiet_same (hb ▸ refless_any x y _ hx64 hy2)
              clear hy hb HO HK
              go_wp2_with fail
              go_quiet ((go_at_call 33; exact hle _))
              obtain ⟨⟨y1, hcy2⟩, hfr2⟩ := (HON.out nq).at hk
              go_wp2_with fail
              go_roundg m
              case measure => omega
              case rel => exact ⟨i + 1, by omega, by go_num, insF s x, HF.out _, by omega, Lib.hid (by rw [HX.out, HN.out, ← HM.out]; rfl)⟩
    | zero =>
      obtain rfl : i = l.length := by omega
      have hz : ¬ (l.length : Int) < (l.length : Int) := by omega
      have HM2 : Hid (s = medS l) := Lib.hid (by have := HM.out; rwa [List.take_length] at this)
      have HS := Lib.hid (And.intro hr hS)
      have HMEM : Hid (∀ y ∈ s, y < 18446744073709551616) := Lib.hid (fun y hy => H0.out.2 y (medS_mem l.length (HM.out ▸ hy)).1)
      clear hr hS HM hi
      have hsi : (s.length : Int) ≤ 100000 := by omega
      by_cases q0 : s.length = 0
      · have q0i : ((s.length : Int) == 0) = true := by simp [q0]
        have HV : Hid (medV s = none) := Lib.hid (by unfold medV; rw [if_pos q0])
        have hrz : ratioP 0 0 = none := by decide +kernel
        clear q0
        go_wp2_with fail
        refine (refratio_any 0 0 wr).mono ?_
        rintro e w4 ⟨z, rfl, hz2, hd⟩
        rw [hrz] at hz2
        have HZ := Lib.hid (And.intro hz2 hd)
        clear hz2 hd
        go_wp2_with fail
        go_ret
        exact ⟨_, rfl, by rw [← HM2.out, HV.out]; exact HZ.out.1, (HS.out.2.Drew HZ.out.2).below⟩
      · have q0i : ((s.length : Int) == 0) = false := by simp; intro e; rw [e] at q0; exact q0 rfl
        have hh : s.length / 2 < s.length := by omega
        obtain ⟨b, hb⟩ : ∃ b, s[s.length / 2]? = some b := ⟨_, List.getElem?_eq_getElem hh⟩
        obtain ⟨ad3, rfl, hc3⟩ := (HS.out.1.rd HS.out.2 0 rfl).at (fv_get s _ b hb)
        have hb64 := HMEM.out b (List.mem_of_getElem? hb)
        have htd : Int.tdiv (s.length : Int) 2 = ((s.length / 2 : Nat) : Int) := by rw [Int.tdiv_eq_ediv_of_nonneg (by omega)]; omega
        have htm : Int.tmod (s.length : Int) 2 = ((s.length % 2 : Nat) : Int) := by rw [Int.tmod_eq_emod_of_nonneg (by omega)]; omega
        by_cases q1 : s.length % 2 = 1
        · have q1i : (((s.length % 2 : Nat) : Int) == 1) = true := by rw [q1]; rfl
          have HV : Hid (medV s = some b) := Lib.hid (by unfold medV; rw [if_neg q0, if_pos q1, hb])
          clear q0 hb
          go_wp2_with fail
          go_ret
          exact ⟨_, rfl, by rw [← HM2.out, HV.out]; exact isf_some b hb64, HS.out.2.below⟩
        · have q1i : (((s.length % 2 : Nat) : Int) == 1) = false := by rw [beq_eq_false_iff_ne]; omega
          have hh2 : s.length / 2 - 1 < s.length := by omega
          obtain ⟨a, ha⟩ : ∃ a, s[s.length / 2 - 1]? = some a := ⟨_, List.getElem?_eq_getElem hh2⟩
          obtain ⟨ad4, e4, hc4⟩ := (HS.out.1.rd HS.out.2 0 rfl).at (fv_get s _ a ha)
          cases e4
          have ha64 := HMEM.out a (List.mem_of_getElem? ha)
          obtain ⟨z1, n1, h1, f1⟩ := op_any (P := Try.prog) wr.drew .add (by simp) 29 (isf_some a ha64) (isf_some b hb64)
          obtain ⟨z2, n2, h2, f2⟩ := op_any (P := Try.prog) (wr.drewN (1 + n1)) .quo (by simp) 29 f1 (isf_some 4611686018427387904 (by omega))
          have HV : Hid (IsF (medV s) z2) := Lib.hid (by
            have e : medV s = fop .quo (fop .add (some a) (some b)) (some 4611686018427387904) := by unfold medV; rw [if_neg q0, if_neg q1, ha, hb]
            rw [e]
            exact f2)
          have hw1 : ((s.length / 2 : Nat) : Int) - 1 = ((s.length / 2 - 1 : Nat) : Int) := by omega
          have hw2 : IntKind.i64.wrap (((s.length / 2 : Nat) : Int) - 1) = ((s.length / 2 - 1 : Nat) : Int) := by rw [← hw1]; exact IntWalk.i64_in _ (by omega)
          have hw3 : ((s.length / 2 - 1 : Nat) : Int) < (s.length : Int) := by omega
          have hw4 : ((s.length / 2 : Nat) : Int) < (s.length : Int) := by omega
          clear q0 hb ha f1 f2 q1
          generalize s.length / 2 - 1 = i1 at *
          generalize s.length / 2 = i2 at *
          go_wp2_with fail
          go_region
          all_goals (
            go_wp2_with fail
            go_ret
            exact ⟨_, rfl, by rw [← HM2.out]; exact HV.out, (HS.out.2.drewN _).below⟩)
end Go.Proofs.Ytdhnmcdgiddhdab
