/-
  Contract of choose.Median.
-/
import Derived.Test.YtdhnmcdgiddhdabMid
import Derived.WalkMore
set_option linter.unusedVariables false
set_option linter.unusedSimpArgs false
namespace Go.Proofs.Ytdhnmcdgiddhdab
open Go.RowKit
set_option maxRecDepth 100000
set_option maxHeartbeats 8000000 in
theorem median_any (v : Value) (l : List Nat) (w : World) (h : Rd w 1 v l.length (fv l)) (hl : ∀ x ∈ l, x < 18446744073709551616) (hn : l.length ≤ 100000) :
    Calls Try.prog 17 #[v] w (MedOut (medV (medS l)) w) := by
  obtain ⟨ao, cap, rfl⟩ := h.shape
  have H0 := Lib.hid (And.intro h hl)
  have hnl : (l.length : Int) ≤ 100000 := by omega
  have hS0 := (St.init w).one_nil
  clear h hl
  go_enter Try.func17, Try.ntmps17
  go_wp2_with fail
  go_step3
  go_wp2_with fail
  go_step3
  go_wp2_with fail
  go_loopg [3, 10] l.length (fun m s3 s10 wr => ∃ i : Nat, i + m = l.length ∧ s10 = .int .i64 (i : Int) ∧ ∃ (s : List Nat) (c : List (Nat × Obj)), RowC 29 1 s3 s.length (fv s) c ∧ St w.heap.size w wr [c] ∧ s.length ≤ i ∧ Hid (s = medS (l.take i)))
  case atStart => exact ⟨0, by omega, rfl, [], [], RowC.nil 29 1, hS0, by simp, Lib.hid rfl⟩
  case round =>
    clear hS0
    obtain ⟨i, hi, rfl, s, c, hr, hS, hsl, HM⟩ := hrel
    obtain ⟨ao3, cap3, rfl⟩ := hr.shape
    cases gk with
    | succ m =>
      have hif : (i : Int) < (l.length : Int) := by omega
      obtain ⟨x, hx⟩ : ∃ x, l[i]? = some x := ⟨_, List.getElem?_eq_getElem (by omega)⟩
      obtain ⟨ad, rfl, hc⟩ := (H0.out.1.st hS).at (fv_get l i x hx)
      have hx64 := H0.out.2 x (List.mem_of_getElem? hx)
      have HX := Lib.hid (medS_succ hx)
      have HS := Lib.hid (And.intro hr hS)
      clear hx hr hS
      have hsi : (s.length : Int) ≤ 100000 := by omega
      go_wp2_with fail
      refine (isnan_any x wr).mono ?_
      rintro e w2 ⟨rfl, rfl⟩
      cases hnx : nanB x with
      | true =>
        have HN := Lib.hid hnx
        clear hnx
        go_wp2_with fail
        go_roundg m
        case measure => omega
        case rel => exact ⟨i + 1, by omega, by go_num, s, c, HS.out.1, HS.out.2, by omega, Lib.hid (by rw [HX.out, HN.out, if_pos rfl]; exact HM.out)⟩
      | false =>
        have HN := Lib.hid hnx
        clear hnx
        have hkl := posG_le s x s.length
        have HP : Hid (posG s x s.length = posG s x s.length) := Lib.hid rfl
        go_wp2_with fail
        go_loopg [6] s.length (fun k s6 wk => s6 = .int .i64 (k : Int) ∧ k ≤ s.length ∧ Hid (posG s x k = posG s x s.length) ∧ wr = wk)
        case atStart => exact ⟨rfl, Nat.le_refl _, Lib.hid rfl, rfl⟩
        case round =>
          obtain ⟨rfl, hk, HK, rfl⟩ := hrel
          have hfin : ∀ k, posG s x k = posG s x s.length → posG s x k = k → s.take k ++ x :: s.drop k = insF s x := by
            intro k e1 e2
            unfold insF
            rw [← e1, e2]
          have HFIN := Lib.hid hfin
          clear hfin
          have hdone : gk = 0 ∨ (0 < gk ∧ ∃ y, s[gk - 1]? = some y) := by
            by_cases e : gk = 0
            · exact .inl e
            · exact .inr ⟨by omega, _, List.getElem?_eq_getElem (by omega)⟩
          rcases hdone with hk0 | ⟨hk0, y, hy⟩
          · have hk0i : ¬ (0 : Int) < (gk : Int) := by omega
            have HLI := Lib.hid (HFIN.out gk HK.out (by rw [hk0]; rfl))
            clear hk0
            go_wp2_with fail
            refine (insertfl_any _ s x gk HS.out.1 HS.out.2 (by omega) hk).mono ?_
            rintro e w5 ⟨v5, c5, rfl, hr5, hS5⟩
            rw [HLI.out] at hr5
            have hil := insF_length s x
            go_wp2_with fail
            go_roundg m
            case measure => omega
            case rel => exact ⟨i + 1, by omega, by go_num, insF s x, c5, hr5, hS5, by omega, Lib.hid (by rw [HX.out, HN.out, ← HM.out]; rfl)⟩
          · obtain ⟨k, rfl⟩ : ∃ k, gk = k + 1 := ⟨gk - 1, by omega⟩
            rw [Nat.add_sub_cancel] at hy
            have hkp : (0 : Int) < ((k + 1 : Nat) : Int) := by omega
            have hks : (k : Int) < (s.length : Int) := by omega
            obtain ⟨ad3, rfl, hc3⟩ := (HS.out.1.rd HS.out.2 0 rfl).at (fv_get s k y hy)
            have hy64 := (medS_mem i (HM.out ▸ List.mem_of_getElem? hy)).1
            have HY := Lib.hid hy
            have hy2 := H0.out.2 y hy64
            clear hy hy64
            go_wp2_with fail
            refine (less_any x y wr hx64 hy2).mono ?_
            rintro e w4 ⟨rfl, rfl⟩
            rcases Bool.eq_false_or_eq_true (lessP x y) with hb | hb
            · have HB := Lib.hid hb
              rw [hb]
              clear hb
              go_wp2_with fail
              go_roundg k
              case measure => omega
              case rel => exact ⟨by first | rfl | go_num, by omega, Lib.hid (by rw [← posG_yes HY.out HB.out]; exact HK.out), rfl⟩
            · have HLI := Lib.hid (HFIN.out (k + 1) HK.out (posG_no HY.out hb))
              rw [hb]
              clear hb
              go_wp2_with fail
              refine (insertfl_any _ s x (k + 1) HS.out.1 HS.out.2 (by omega) hk).mono ?_
              rintro e w5 ⟨v5, c5, rfl, hr5, hS5⟩
              rw [HLI.out] at hr5
              have hil := insF_length s x
              go_wp2_with fail
              go_roundg m
              case measure => omega
              case rel => exact ⟨i + 1, by omega, by go_num, insF s x, c5, hr5, hS5, by omega, Lib.hid (by rw [HX.out, HN.out, ← HM.out]; rfl)⟩
    | zero =>
      obtain rfl : i = l.length := by omega
      have hz : ¬ (l.length : Int) < (l.length : Int) := by omega
      have HM2 : Hid (s = medS l) := Lib.hid (by have := HM.out; rwa [List.take_length] at this)
      have HS := Lib.hid (And.intro hr hS)
      have HMEM : Hid (∀ y ∈ s, y < 18446744073709551616) := Lib.hid (fun y hy => H0.out.2 y (medS_mem l.length (HM.out ▸ hy)).1)
      clear hr hS HM hi
      rw [← HM2.out]
      have hsi : (s.length : Int) ≤ 100000 := by omega
      by_cases q0 : s.length = 0
      · have q0i : ((s.length : Int) == 0) = true := by simp [q0]
        have HV : Hid (medV s = none) := Lib.hid (by unfold medV; rw [if_pos q0])
        clear q0
        go_wp2_with fail
        refine (nan_any wr).mono ?_
        rintro e w4 ⟨rfl, rfl⟩
        go_wp2_with fail
        (try rw [Exit.noGoto_ret])
        go_ret
        exact ⟨_, rfl, by rw [← HM2.out, HV.out]; exact isf_nan _ (by omega) (by decide), HS.out.2.below⟩
      · have q0i : ((s.length : Int) == 0) = false := by simp; intro e; rw [e] at q0; exact q0 rfl
        have hh : s.length / 2 < s.length := by omega
        obtain ⟨b, hb⟩ : ∃ b, s[s.length / 2]? = some b := ⟨_, List.getElem?_eq_getElem hh⟩
        obtain ⟨ad3, rfl, hc3⟩ := (HS.out.1.rd HS.out.2 0 rfl).at (fv_get s _ b hb)
        have hb64 := HMEM.out b (List.mem_of_getElem? hb)
        have htd : Int.tdiv (s.length : Int) 2 = ((s.length / 2 : Nat) : Int) := by rw [Int.tdiv_eq_ediv_of_nonneg (by omega)]; omega
        have htm : Int.tmod (s.length : Int) 2 = ((s.length % 2 : Nat) : Int) := by rw [Int.tmod_eq_emod_of_nonneg (by omega)]; omega
        by_cases q1 : s.length % 2 = 1
        · have q1i : (((s.length % 2 : Nat) : Int) == 1) = true := by rw [q1]; rfl
          have HV : Hid (medV s = some b) := Lib.hid (by unfold medV; rw [if_neg q0, if_pos q1, hb])
          clear q0 hb
          go_wp2_with fail
          (try rw [Exit.noGoto_ret])
          go_ret
          exact ⟨_, rfl, by rw [← HM2.out, HV.out]; exact isf_some b hb64, HS.out.2.below⟩
        · have q1i : (((s.length % 2 : Nat) : Int) == 1) = false := by rw [beq_eq_false_iff_ne]; omega
          have hh2 : s.length / 2 - 1 < s.length := by omega
          obtain ⟨a, ha⟩ : ∃ a, s[s.length / 2 - 1]? = some a := ⟨_, List.getElem?_eq_getElem hh2⟩
          obtain ⟨ad4, e4, hc4⟩ := (HS.out.1.rd HS.out.2 0 rfl).at (fv_get s _ a ha)
          cases e4
          have ha64 := HMEM.out a (List.mem_of_getElem? ha)
          obtain ⟨z1, n1, h1, f1⟩ := op_any (P := Try.prog) wr.drew .add (by simp) 29 (isf_some a ha64) (isf_some b hb64)
          obtain ⟨z2, n2, h2, f2⟩ := op_any (P := Try.prog) (wr.drewN (1 + n1)) .quo (by simp) 29 f1 (isf_some 4611686018427387904 (by omega))
          have HV : Hid (IsF (medV s) z2) := Lib.hid (by
            have e : medV s = fop .quo (fop .add (some a) (some b)) (some 4611686018427387904) := by unfold medV; rw [if_neg q0, if_neg q1, ha, hb]
            rw [e]
            exact f2)
          have hw1 : ((s.length / 2 : Nat) : Int) - 1 = ((s.length / 2 - 1 : Nat) : Int) := by omega
          have hw2 : IntKind.i64.wrap (((s.length / 2 : Nat) : Int) - 1) = ((s.length / 2 - 1 : Nat) : Int) := by rw [← hw1]; exact IntWalk.i64_in _ (by omega)
          have hw3 : ((s.length / 2 - 1 : Nat) : Int) < (s.length : Int) := by omega
          have hw4 : ((s.length / 2 : Nat) : Int) < (s.length : Int) := by omega
          clear q0 hb ha f1 f2 q1
          generalize s.length / 2 - 1 = i1 at *
          generalize s.length / 2 = i2 at *
          go_wp2_with fail
          trace_state
          go_region
          all_goals (
            go_wp2_with fail
            (try rw [Exit.noGoto_ret])
            go_ret
            exact ⟨_, rfl, by rw [← HM2.out]; exact HV.out, (HS.out.2.drewN _).below⟩)
end Go.Proofs.Ytdhnmcdgiddhdab
