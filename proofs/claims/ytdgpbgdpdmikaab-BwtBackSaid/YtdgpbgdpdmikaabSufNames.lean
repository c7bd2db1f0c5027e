/-
  Contract of the sorter's names.
-/
import Derived.Test.YtdgpbgdpdmikaabSufInd
import Derived.WalkMore
set_option linter.unusedVariables false
set_option linter.unusedSimpArgs false
namespace Go.Proofs.Ytdgpbgdpdmikaab
open Go.RowKit
set_option maxRecDepth 100000
theorem tI_set (s : List Nat) (i v : Nat) : (tI s).set i (v : Int) = tI (s.set i v) := by
  unfold tI
  rw [List.map_set]
  rfl
/-- The last mark; -1. -/
def lastI (Ms : List Nat) (t : Nat) : Int := if t = 0 then -1 else (Ms.getD (t - 1) 0 : Int)
structure NmTo (s T Ms : List Nat) (i t : Nat) (R : List Nat) : Prop where
  tk : Ms.take t = (T.take i).filter (lms s)
  tl : t ≤ Ms.length
  len : R.length = (marksP s).length
  r : ∀ (u m : Nat), u < t → Ms[u]? = some m → R[cntM s m]? = some (nmAt s Ms u)
theorem NmTo.skip {s T Ms : List Nat} {i t : Nat} {R : List Nat} (h : NmTo s T Ms i t R) (m : Nat) (hm : T[i]? = some m) (hl : lms s m = false) : NmTo s T Ms (i + 1) t R :=
  ⟨by rw [List.take_add_one, hm, List.filter_append, h.tk]; simp [hl], h.tl, h.len, h.r⟩
theorem NmTo.at {s T Ms : List Nat} (hMs : Ms = T.filter (lms s)) {i t : Nat} {R : List Nat} (h : NmTo s T Ms i t R) (m : Nat) (hm : T[i]? = some m) (hl : lms s m = true) : Ms[t]? = some m := by
  have hi := (List.getElem?_eq_some_iff.1 hm).1
  have h1 : T = T.take i ++ (m :: T.drop (i + 1)) := by
    have h2 := List.drop_eq_getElem_cons hi
    rw [(List.getElem?_eq_some_iff.1 hm).2] at h2
    rw [← h2, List.take_append_drop]
  have h3 : Ms = Ms.take t ++ (m :: (T.drop (i + 1)).filter (lms s)) := by
    rw [h.tk]
    conv => lhs; rw [hMs, h1, List.filter_append]
    simp [hl]
  have h4 : (Ms.take t).length = t := by rw [List.length_take]; have := h.tl; omega
  rw [h3, List.getElem?_append_right (by rw [h4]; exact Nat.le_refl _), h4]
  simp
theorem NmTo.step {s T Ms : List Nat} (hMs : Ms = T.filter (lms s)) (hnd : Ms.Nodup) {i t : Nat} {R : List Nat} (h : NmTo s T Ms i t R) (m : Nat) (hm : T[i]? = some m) (hl : lms s m = true) : NmTo s T Ms (i + 1) (t + 1) (R.set (cntM s m) (nmAt s Ms t)) := by
  have hat := h.at hMs m hm hl
  have hlt := (List.getElem?_eq_some_iff.1 hat).1
  refine ⟨?_, by omega, by rw [List.length_set]; exact h.len, ?_⟩
  · rw [List.take_add_one, hat, h.tk, List.take_add_one, hm, List.filter_append]
    simp [hl]
  · intro u x hu hx
    by_cases e : u = t
    · subst e
      rw [hat] at hx
      cases hx
      have h1 := (List.getElem?_eq_some_iff.1 (marksP_at s m hl)).1
      rw [List.getElem?_set_self (by rw [h.len]; exact h1)]
    · have hne : x ≠ m := by
        rintro rfl
        exact e (nodup_at hnd hx hat)
      have h1 := h.r u x (by omega) hx
      have hxl : lms s x = true := by
        have := List.mem_of_getElem? hx
        rw [hMs] at this
        exact (List.mem_filter.1 this).2
      have hc : cntM s m ≠ cntM s x := by
        intro e2
        have h5 := marksP_at s m hl
        have h6 := marksP_at s x hxl
        rw [e2] at h5
        rw [h5] at h6
        cases h6
        exact hne rfl
      rw [List.getElem?_set_ne hc]
      exact h1
theorem NmTo.init (s T Ms : List Nat) : NmTo s T Ms 0 0 (List.replicate (marksP s).length 0) := ⟨by simp, by omega, by simp, by intro u m h; omega⟩
theorem filter_perm_marks {s T : List Nat} (hT : T.Perm (List.range s.length)) : (T.filter (lms s)).Perm (marksP s) := hT.filter _
theorem NmTo.named {s T Ms : List Nat} (hMs : Ms = T.filter (lms s)) (hT : T.Perm (List.range s.length)) (hs : ∀ (i j a b : Nat), T[i]? = some a → T[j]? = some b → i < j → lexle (preK s a) (preK s b))
    {t : Nat} {R : List Nat} (h : NmTo s T Ms s.length t R) : Named s R ∧ ∀ x ∈ R, x ≤ nmAt s Ms (t - 1) := by
  have hTl : T.length = s.length := by have := hT.length_eq; simpa using this
  have hp : Ms.Perm (marksP s) := by rw [hMs]; exact filter_perm_marks hT
  have htk := h.tk
  rw [← hTl, List.take_length, ← hMs] at htk
  have ht : Ms.length ≤ t := by
    have := congrArg List.length htk
    rw [List.length_take] at this
    omega
  have htl := h.tl
  have hfind : ∀ k, k < (marksP s).length → ∃ (u m : Nat), Ms[u]? = some m ∧ cntM s m = k := by
    intro k hk
    have h1 : (marksP s)[k]? = some (marksP s)[k] := List.getElem?_eq_getElem hk
    obtain ⟨u, hu⟩ := List.mem_iff_getElem?.1 (hp.symm.subset (List.mem_of_getElem? h1))
    exact ⟨u, _, hu, (marksP_idx s k _ h1).2.2⟩
  refine ⟨named_of hp ?_ h.len ?_, ?_⟩
  · intro i j a b ha hb hij
    rw [hMs] at ha hb
    obtain ⟨i', j', h1, h2, h3⟩ := filter_order T _ i j a b ha hb hij
    exact hs i' j' a b h2 h3 h1
  · intro u k m hu hk
    have h1 := (marksP_idx s k m hk).2.2
    have h2 := h.r u m (by have := (List.getElem?_eq_some_iff.1 hu).1; omega) hu
    rw [h1] at h2
    unfold ch
    rw [List.getD_eq_getElem?_getD, h2]
    rfl
  · intro x hx
    obtain ⟨k, hk⟩ := List.mem_iff_getElem?.1 hx
    obtain ⟨u, m, hu, hc⟩ := hfind k (by rw [← h.len]; exact (List.getElem?_eq_some_iff.1 hk).1)
    have hul := (List.getElem?_eq_some_iff.1 hu).1
    have h2 := h.r u m (by omega) hu
    rw [hc, hk] at h2
    cases h2
    have := nmAt_mono s Ms u (t - 1 - u)
    rwa [show u + (t - 1 - u) = t - 1 from by omega] at this
def NamesOut (s : List Nat) (w : World) (e : Ending) (w' : World) : Prop :=
  ∃ (u : Value) (R : List Nat) (g : Nat) (c : HL), e = .returned (.tuple #[u, .int .i64 (g : Int)]) ∧ RowC 3 1 u R.length (iv (tI R)) c ∧ St w.heap.size w w' [c] ∧ Named s R ∧ (∀ x ∈ R, x ≤ g) ∧ g ≤ s.length
theorem nmAt_le (s Ms : List Nat) : ∀ t, nmAt s Ms t ≤ t
  | 0 => Nat.le_refl _
  | t + 1 => by have := nmAt_le s Ms t; rw [nmAt]; split <;> omega
set_option maxHeartbeats 4000000 in
theorem names_any (p : Nat) (s T : List Nat) (v4 : Value) (w : World) (hn : s.length ≤ 1000000) (hn1 : 1 ≤ s.length) (hT : T.Perm (List.range s.length)) (hs : ∀ (i j a b : Nat), T[i]? = some a → T[j]? = some b → i < j → lexle (preK s a) (preK s b))
    (hR : ∀ w', Below w.heap.size w w' → SoR w' p s) (hA : ∀ w', Below w.heap.size w w' → w'.cell? ⟨p, 4, none⟩ = some v4 ∧ Rd w' 1 v4 s.length (iv (tI T))) :
    Calls Try.prog 45 #[.pointer (some ⟨p, 0, none⟩)] w (NamesOut s w) := by
  obtain ⟨i0, i0a, i0b, i0c, i0d⟩ := info_parts infoInt
  have hTl : T.length = s.length := by have := hT.length_eq; simpa using this
  have hml := marksP_lt s hn1
  have hnl : (s.length : Int) ≤ 1000000 := by omega
  have hmi : ((marksP s).length : Int) ≤ 1000000 := by omega
  have HT := Lib.hid (And.intro hT hs)
  have HR := Lib.hid hR
  have HA := Lib.hid hA
  have hS := St.init w
  obtain ⟨⟨v0, c0, r0⟩, ⟨v5, c5, r5⟩, ⟨v6, c6, r6⟩⟩ := hR w hS.below
  obtain ⟨ao5, cap5, rfl⟩ := r5.shape
  obtain ⟨ao6, cap6, rfl⟩ := r6.shape
  obtain ⟨ao4, cap4, rfl⟩ := (hA w hS.below).2.shape
  have HTl := Lib.hid hTl
  clear hT hs hR hA r0 r5 r6 c0 hTl
  go_enter Try.func45, Try.ntmps45
  have c4 := (HA.out w hS.below).1
  go_wp2_with fail
  go_step3
  go_wp2_with (at_make; (refine wpList_mk (n := (marksP s).length) 37 i0 (.int .i64 0) _ _ rfl rfl _ _ _ _ rfl rfl Try.underlying37 i0a i0b i0c i0d rfl ?_ ?_ ?_ ?_ hS ?_); omega; omega; omega; (unfold maxLen; omega); intro g cl w1 hr hS1)
  have HQ : Hid (RowC 3 1 (.slice (some ⟨g, 0, none⟩) (marksP s).length (marksP s).length) (marksP s).length (iv (tI (List.replicate (marksP s).length 0))) cl ∧ St w.heap.size w w1 [cl] ∧ NmTo s T (T.filter (lms s)) 0 0 (List.replicate (marksP s).length 0)) :=
    Lib.hid ⟨by rw [show tI (List.replicate (marksP s).length 0) = List.replicate (marksP s).length 0 from by simp [tI], iv_replicate]; exact hr, hS1, NmTo.init _ _ _⟩
  have c4 := (HA.out w1 hS1.below).1
  clear hr hS hS1
  go_step3
  go_wp2_with fail
  clear c4 c5 c6
  go_loopg [5, 6, 20] s.length (fun m s5 s6 s20 wr => ∃ i : Nat, i + m = s.length ∧ s20 = .int .i64 (i : Int) ∧ ∃ (t : Nat) (R : List Nat) (cl : HL), t ≤ i ∧ s5 = .int .i64 (nmAt s (T.filter (lms s)) (t - 1) : Int) ∧ s6 = .int .i64 (lastI (T.filter (lms s)) t) ∧
    Hid (RowC 3 1 (.slice (some ⟨g, 0, none⟩) (marksP s).length (marksP s).length) (marksP s).length (iv (tI R)) cl ∧ St w.heap.size w wr [cl] ∧ NmTo s T (T.filter (lms s)) i t R))
  case atStart => exact ⟨0, by omega, rfl, 0, _, _, by omega, rfl, rfl, HQ⟩
  case round =>
    clear HQ
    obtain ⟨i, hi, rfl, t, R, cl, hti, rfl, rfl, HQ⟩ := hrel
    have hS := HQ.out.2.1
    have hr := HQ.out.1
    have hb := hS.below
    cases gk with
    | zero =>
      obtain rfl : i = s.length := by omega
      have hnm := HQ.out.2.2.named rfl HT.out.1 HT.out.2
      have hrl := HQ.out.2.2.len
      have HN := Lib.hid (And.intro hnm hrl)
      clear hnm hrl hi
      go_wp2_with fail
      (try rw [Exit.noGoto_ret])
      go_ret2
      exact ⟨_, R, _, cl, rfl, by rw [HN.out.2]; exact hr, hS, HN.out.1.1, HN.out.1.2, by have := nmAt_le s (T.filter (lms s)) (t - 1); omega⟩
    | succ m =>
      have hlt : i < s.length := by omega
      obtain ⟨y, hy⟩ : ∃ y, T[i]? = some y := ⟨_, List.getElem?_eq_getElem (by rw [HTl.out]; exact hlt)⟩
      have hyn : y < s.length := by have := HT.out.1.subset (List.mem_of_getElem? hy); simpa using this
      have hyT : (tI T)[i]? = some (y : Int) := by unfold tI; rw [List.getElem?_map, hy]; rfl
      obtain ⟨k4, r4⟩ := HA.out wr hb
      obtain ⟨ad4, rfl, hc4⟩ := r4.at (iv_get _ i _ hyT)
      obtain ⟨_, _, ⟨v6', k6, r6⟩⟩ := HR.out wr hb
      obtain ⟨ao6', cap6', rfl⟩ := r6.shape
      obtain ⟨ad6, rfl, hc6⟩ := r6.at (iv_get _ y _ (mkI_get (numP s) (s.length + 1) y (by omega)))
      have hym : (y : Int) < s.length + 1 := by omega
      have HY := Lib.hid hy
      clear hyT hy r4 r6
      cases hl : lms s y with
      | false =>
        have hnp : numP s y = -1 := by unfold numP; rw [hl]; rfl
        rw [hnp] at hc6
        have HSK := Lib.hid (HQ.out.2.2.skip y HY.out hl)
        clear hnp hl
        go_wp2_with fail
        go_roundg m
        case measure => omega
        case rel => exact ⟨i + 1, by omega, by go_num, t, R, cl, by omega, rfl, rfl, Lib.hid ⟨hr, hS, HSK.out⟩⟩
      | true =>
        have hnp : numP s y = (cntM s y : Int) := by unfold numP; rw [hl]; rfl
        rw [hnp] at hc6
        have hat := HQ.out.2.2.at rfl y HY.out hl
        have hnd : (T.filter (lms s)).Nodup := (List.Perm.nodup_iff (filter_perm_marks HT.out.1)).2 (marksP_ok s).nd
        have hst := HQ.out.2.2.step rfl hnd y HY.out hl
        have hkl := (List.getElem?_eq_some_iff.1 (marksP_at s y hl)).1
        have hRl := HQ.out.2.2.len
        obtain ⟨z, hz⟩ : ∃ z, (tI R)[cntM s y]? = some z := ⟨_, List.getElem?_eq_getElem (by rw [tI_length]; omega)⟩
        have hlr := hr.cellAt hS 0 rfl (iv_get _ _ z hz)
        have hfr := hr.freeAt hS 0 rfl (cntM s y)
        have hni := nmAt_le s (T.filter (lms s)) (t - 1)
        have hnb : (nmAt s (T.filter (lms s)) (t - 1) : Int) ≤ 1000000 := by omega
        have hlen : (marksP s).length ≤ s.length := by omega
        have hci : ((cntM s y : Nat) : Int) < ((marksP s).length : Int) := by omega
        have HST := Lib.hid (And.intro hst hat)
        have hlast : lastI (T.filter (lms s)) (t + 1) = (y : Int) := by
          unfold lastI
          rw [if_neg (by omega), Nat.add_sub_cancel, List.getD_eq_getElem?_getD, hat]
          rfl
        have HLA := Lib.hid hlast
        clear hnp hst hat hz hlast hRl
        by_cases ht : t = 0
        · subst ht
          have q1 : lastI (T.filter (lms s)) 0 = -1 := rfl
          rw [q1]
          have HST2 : NmTo s T (T.filter (lms s)) (i + 1) 1 (R.set (cntM s y) 0) := HST.out.1
          have HST3 := Lib.hid HST2
          clear HST2 q1
          rw [show nmAt s (T.filter (lms s)) (0 - 1) = 0 from rfl]
          go_wp2_with fail
          go_roundg m
          case measure => omega
          case rel =>
            obtain ⟨c', hr', hS'⟩ := hr.store hS 0 rfl rfl (cntM s y) (.int .i64 0)
            rw [iv_set, show ((0 : Int)) = ((0 : Nat) : Int) from rfl, tI_set] at hr'
            exact ⟨i + 1, by omega, by go_num, 1, _, c', by omega, rfl, by rw [HLA.out], Lib.hid ⟨hr', hS', HST3.out⟩⟩
        · obtain ⟨x, hx⟩ : ∃ x, (T.filter (lms s))[t - 1]? = some x := ⟨_, List.getElem?_eq_getElem (by have := HQ.out.2.2.tl; omega)⟩
          have hxl : lms s x = true := (List.mem_filter.1 (List.mem_of_getElem? hx)).2
          have hxy : x ≠ y := by
            rintro rfl
            have := nodup_at hnd hx HST.out.2
            omega
          have q1 : lastI (T.filter (lms s)) t = (x : Int) := by
            unfold lastI
            rw [if_neg ht, List.getD_eq_getElem?_getD, hx]
            rfl
          rw [q1]
          have hnm : nmAt s (T.filter (lms s)) t = nmAt s (T.filter (lms s)) (t - 1) + (if preK s x = preK s y then 0 else 1) := by
            obtain ⟨t', rfl⟩ : ∃ t', t = t' + 1 := ⟨t - 1, by omega⟩
            rw [nmAt, Nat.add_sub_cancel]
            rw [Nat.add_sub_cancel] at hx
            rw [List.getD_eq_getElem?_getD, hx, List.getD_eq_getElem?_getD, HST.out.2]
            rfl
          have HNM := Lib.hid hnm
          have hx0 : (0 : Int) ≤ (x : Int) := by omega
          clear q1 hnm hx hnd
          have hxs : x < s.length := by have := lms_lt hxl; omega
          go_wp2_with fail
          refine (same_any p s x y wr (HR.out wr hb) hn hxl hl hxy).mono ?_
          rintro e w6 ⟨rfl, hd⟩
          obtain ⟨nd, rfl⟩ := hd.out
          have hS6 := hS.drewN nd
          have HS6 := Lib.hid hS6
          clear hS6 hd
          by_cases he : preK s x = preK s y
          · rw [show decide (preK s x = preK s y) = true from by simp [he]]
            have HNM2 : Hid (nmAt s (T.filter (lms s)) t = nmAt s (T.filter (lms s)) (t - 1)) := Lib.hid (by rw [HNM.out, if_pos he]; rfl)
            clear he
            go_wp2_with fail
            go_roundg m
            case measure => omega
            case rel =>
              obtain ⟨c', hr', hS'⟩ := hr.store HS6.out 0 rfl rfl (cntM s y) (.int .i64 (nmAt s (T.filter (lms s)) (t - 1) : Int))
              rw [iv_set, tI_set, ← HNM2.out] at hr'
              refine ⟨i + 1, by omega, by go_num, t + 1, _, c', by omega, by rw [Nat.add_sub_cancel, HNM2.out], by rw [HLA.out], Lib.hid ⟨hr', ?_, HST.out.1⟩⟩
              rw [← HNM2.out] at hS'
              rw [← HNM2.out]
              exact hS'
          · rw [show decide (preK s x = preK s y) = false from by simp [he]]
            have HNM2 : Hid (nmAt s (T.filter (lms s)) t = nmAt s (T.filter (lms s)) (t - 1) + 1) := Lib.hid (by rw [HNM.out, if_neg he])
            clear he
            go_wp2_with fail
            go_roundg m
            case measure => omega
            case rel =>
              have e1 : (nmAt s (T.filter (lms s)) (t - 1) : Int) + 1 = (nmAt s (T.filter (lms s)) t : Int) := by rw [HNM2.out]; simp
              rw [e1]
              obtain ⟨c', hr', hS'⟩ := hr.store HS6.out 0 rfl rfl (cntM s y) (.int .i64 (nmAt s (T.filter (lms s)) t : Int))
              rw [iv_set, tI_set] at hr'
              exact ⟨i + 1, by omega, by go_num, t + 1, _, c', by omega, by rw [Nat.add_sub_cancel], by rw [HLA.out], Lib.hid ⟨hr', hS', HST.out.1⟩⟩
end Go.Proofs.Ytdgpbgdpdmikaab
