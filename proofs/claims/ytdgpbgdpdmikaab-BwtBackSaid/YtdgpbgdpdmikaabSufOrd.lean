/-
  Contract of suffix.order: what it hands back is the suffix array.
-/
import Derived.Test.YtdgpbgdpdmikaabSufPrep
set_option linter.unusedVariables false
set_option linter.unusedSimpArgs false
namespace Go.Proofs.Ytdgpbgdpdmikaab
open Go.RowKit
set_option maxRecDepth 100000
def OrderOut (s : List Nat) (w : World) (e : Ending) (w' : World) : Prop :=
  ∃ (v : Value) (T : List Nat) (c : HL), e = .returned v ∧ RowC 3 1 v s.length (iv (tI T)) c ∧ T.length = s.length ∧ St w.heap.size w w' [c] ∧ IsSA s T
theorem isSA_small (s : List Nat) (h : s.length < 2) : IsSA s (List.range s.length) := by
  refine ⟨List.Perm.refl _, ?_⟩
  have : s.length = 0 ∨ s.length = 1 := by omega
  rcases this with e | e <;> rw [e]
  · exact List.Pairwise.nil
  · exact List.pairwise_singleton _ _
theorem isSA_none {s : List Nat} {mx : Nat} {A : List Int} (h : Induced s mx (marksP s) A) (hmx : ∀ x ∈ s, x ≤ mx) (h0 : (marksP s).length = 0) : ∃ T : List Nat, A = tI T ∧ T.length = s.length ∧ IsSA s T := by
  obtain ⟨T, rfl, hT⟩ := h.isSA (marksP_ok s) hmx (by
    intro i j a b ha
    have := (List.getElem?_eq_some_iff.1 ha).1
    omega)
  exact ⟨T, rfl, by have := hT.perm.length_eq; simpa using this, hT⟩
/-- What the first pass gives to names. -/
theorem first_pass {s : List Nat} {mx : Nat} {A : List Int} (h : Induced s mx (marksP s) A) (hmx : ∀ x ∈ s, x ≤ mx) :
    ∃ T : List Nat, A = tI T ∧ T.Perm (List.range s.length) ∧ ∀ (i j a b : Nat), T[i]? = some a → T[j]? = some b → i < j → lexle (preK s a) (preK s b) := by
  obtain ⟨T, rfl, hT⟩ := h.perm (marksP_ok s) hmx
  refine ⟨T, rfl, hT, ?_⟩
  intro i j a b ha hb hij
  have hal : a < s.length := by have := hT.subset (List.mem_of_getElem? ha); simpa using this
  exact h.sorted (marksP_ok s) hmx (Keys.pre (marksP_ok s)) (s.length - a) a b i j (by omega) hij (by rw [List.getElem?_map, ha]; rfl) (by rw [List.getElem?_map, hb]; rfl)
theorem mkAt_ch (s : List Nat) (k : Nat) (h : k < (marksP s).length) : ch (marksP s) k = mkAt s k := by
  unfold ch mkAt
  rw [List.getD_eq_getElem?_getD, List.getD_eq_getElem?_getD, List.getElem?_eq_getElem h]
  rfl
theorem mk_marks (s T : List Nat) (n : Nat) (h : T.length = n) : mkI (fun j => if j < n then (mkAt s (ch T j) : Int) else 0) n = tI (T.map (mkAt s)) := by
  apply List.ext_getElem?
  intro i
  by_cases hi : i < n
  · rw [mkI_get _ _ _ hi, if_pos hi, tI_get _ _ (by simpa [h] using hi)]
    unfold ch
    rw [List.getD_eq_getElem?_getD, List.getD_eq_getElem?_getD, List.getElem?_map, List.getElem?_eq_getElem (by omega)]
    rfl
  · rw [List.getElem?_eq_none (by rw [mkI_length]; omega), List.getElem?_eq_none (by rw [tI_length]; simp [h]; omega)]
/-- The second pass, by the marks in order. -/
theorem second_pass {s R T : List Nat} {mx : Nat} {A : List Int} (hN : Named s R) (hT : IsSA R T) (hmx : ∀ x ∈ s, x ≤ mx) (h : Induced s mx (T.map (mkAt s)) A) : ∃ U : List Nat, A = tI U ∧ U.length = s.length ∧ IsSA s U := by
  obtain ⟨h1, h2⟩ := hN.marks hT
  obtain ⟨U, rfl, hU⟩ := h.isSA h1 hmx h2
  exact ⟨U, rfl, by have := hU.perm.length_eq; simpa using this, hU⟩
theorem order_small (s : List Nat) (mx : Nat) (sv : Value) (w : World) (hN : s.length < 2) (hT : Rd w 1 sv s.length (iv (tI s))) :
    Calls Try.prog 39 #[sv, .int .i64 (mx : Int)] w (OrderOut s w) := by
  obtain ⟨i0, i0a, i0b, i0c, i0d⟩ := info_parts infoInt
  obtain ⟨ao, cap, rfl⟩ := hT.shape
  have hS := St.init w
  have hnl : (s.length : Int) < 2 := by omega
  go_enter Try.func39, Try.ntmps39
  go_wp2_with (at_make; (refine wpList_mk (n := s.length) 37 i0 (.int .i64 0) _ _ rfl rfl _ _ _ _ rfl rfl Try.underlying37 i0a i0b i0c i0d rfl ?_ ?_ ?_ ?_ hS ?_); omega; omega; omega; (unfold maxLen; omega); intro g cl w1 hr hS1)
  go_ret
  refine ⟨_, List.range s.length, cl, rfl, ?_, by simp, hS1, isSA_small s hN⟩
  have e : iv (tI (List.range s.length)) = List.replicate s.length (.int .i64 0) := by
    have : s.length = 0 ∨ s.length = 1 := by omega
    rcases this with e | e <;> rw [e] <;> rfl
  rw [e]
  exact hr
set_option maxHeartbeats 8000000 in
theorem order_big (s : List Nat) (mx : Nat) (sv : Value) (w : World) (hN : 2 ≤ s.length) (hn : s.length ≤ 1000000) (hm : mx ≤ 1000000) (hmx : ∀ x ∈ s, x ≤ mx) (hT : Rd w 1 sv s.length (iv (tI s)))
    (ih : ∀ (R : List Nat) (g : Nat) (u : Value) (w' : World), R.length < s.length → R.length ≤ 1000000 → g ≤ 1000000 → (∀ x ∈ R, x ≤ g) → Rd w' 1 u R.length (iv (tI R)) → Calls Try.prog 39 #[u, .int .i64 (g : Int)] w' (OrderOut R w')) :
    Calls Try.prog 39 #[sv, .int .i64 (mx : Int)] w (OrderOut s w) := by
  obtain ⟨i0, i0a, i0b, i0c, i0d⟩ := info_parts infoInt
  obtain ⟨ao, cap, rfl⟩ := hT.shape
  have hnl : ¬ (s.length : Int) < 2 := by omega
  have HMX := Lib.hid hmx
  have HT := Lib.hid hT
  have HIH := Lib.hid ih
  clear hmx hT ih
  go_enter Try.func39, Try.ntmps39
  go_wp2_with fail
  refine (prepare_any s mx _ w (by omega) hn hm HMX.out HT.out).mono ?_
  rintro e w1 ⟨p, v1, v2, v3, v4, v5, v6, c1, c2, c3, c4, c5, c6, rfl, h1, h2, h3, h4, h5, h6, hS1⟩
  obtain ⟨ao5, cap5, rfl⟩ := h5.shape
  have k5 := hS1.cell 0 rfl (List.mem_singleton.2 rfl) 5
  have HP := Lib.hid (And.intro h1 (And.intro h2 (And.intro h3 (And.intro h4 (And.intro h5 h6)))))
  have HS1 := Lib.hid hS1
  clear h1 h2 h3 h4 h5 h6 hS1
  go_wp2_with fail
  refine (induce_any (F := [c5, c6]) p s mx (marksP s) _ v1 v2 v3 v4 _ v6 _ _ ⟨by omega, hn, hm, HMX.out, marksP_ok s⟩ HS1.out HP.out.1 HP.out.2.1 HP.out.2.2.1 HP.out.2.2.2.1 (fun w' c4' h => HT.out.keep h.below) (fun w' c4' h => HP.out.2.2.2.2.1.rd h 5 rfl)).mono ?_
  rintro e w2 ⟨rfl, A, c4', h4', hS2, hA⟩
  have k5 := hS2.cell 0 rfl (List.mem_singleton.2 rfl) 5
  have k4 := hS2.cell 0 rfl (List.mem_singleton.2 rfl) 4
  have HQ := Lib.hid (And.intro h4' (And.intro hS2 hA))
  clear h4' hS2 hA
  by_cases hz : (marksP s).length = 0
  · have hz1 : ¬ (0 : Int) < ((marksP s).length : Int) := by omega
    have HZ := Lib.hid hz
    clear hz
    go_wp2_with fail
    go_ret
    obtain ⟨T, rfl, hTl, hsa⟩ := isSA_none HQ.out.2.2 HMX.out HZ.out
    exact ⟨_, T, c4', rfl, HQ.out.1, hTl, HQ.out.2.1.pick [4] (by decide) [c4'] rfl, hsa⟩
  · have hz1 : (0 : Int) < ((marksP s).length : Int) := by omega
    have hz2 : 0 < (marksP s).length := by omega
    obtain ⟨T, hAT, hTp, hTs⟩ := first_pass HQ.out.2.2 HMX.out
    have h4' := HQ.out.1
    rw [hAT] at h4'
    have HF := Lib.hid (And.intro hTp (And.intro hTs h4'))
    clear hz hAT hTp hTs h4'
    go_wp2_with fail
    refine (names_any p s T v4 w2 hn (by omega) HF.out.1 HF.out.2.1 ?_ ?_).mono ?_
    · intro w' hb
      have h := HQ.out.2.1.mono hb
      exact ⟨⟨_, h.cell 0 rfl (List.mem_singleton.2 rfl) 0, HT.out.keep h.below⟩, ⟨_, h.cell 0 rfl (List.mem_singleton.2 rfl) 5, HP.out.2.2.2.2.1.rd h 5 rfl⟩, ⟨_, h.cell 0 rfl (List.mem_singleton.2 rfl) 6, HP.out.2.2.2.2.2.rd h 6 rfl⟩⟩
    · intro w' hb
      have h := HQ.out.2.1.mono hb
      exact ⟨h.cell 0 rfl (List.mem_singleton.2 rfl) 4, HF.out.2.2.rd h 4 rfl⟩
    rintro e w3 ⟨u, R, g, cR, rfl, hR, hS3, hNm, hRg, hgs⟩
    obtain ⟨aoR, capR, rfl⟩ := hR.shape
    have hRl := hNm.len
    have hRn : R.length < s.length := by rw [hRl]; exact marksP_lt s (by omega)
    have hR0 : 0 < R.length := by omega
    have hRi : (R.length : Int) ≤ 1000000 := by omega
    replace hS3 := HQ.out.2.1.join hS3
    have HN := Lib.hid (And.intro hNm (And.intro hRg (And.intro hR hRl)))
    clear hNm hRg hR hRl k4 k5
    go_wp2_with (at_make; (refine wpList_mk (n := R.length) 37 i0 (.int .i64 0) _ _ rfl rfl _ _ _ _ rfl rfl Try.underlying37 i0a i0b i0c i0d rfl ?_ ?_ ?_ ?_ hS3 ?_); omega; omega; omega; (unfold maxLen; omega); intro gm cM w4 hrM hS4)
    have HM4 := Lib.hid (And.intro hrM hS4)
    clear hrM hS3 hS4
    go_wp2_with fail
    refine (HIH.out R g _ w4 hRn (by omega) (by omega) HN.out.2.1 (HN.out.2.2.1.rd HM4.out.2 1 rfl)).mono ?_
    rintro e w5 ⟨v, T', cT, rfl, hrT, hTl, hS5, hsa⟩
    obtain ⟨gT, capT, _, rfl, _⟩ := hrT.form hR0
    replace hS5 := HM4.out.2.join hS5
    have HQ5 := Lib.hid (And.intro hrT (And.intro hS5 (And.intro hsa hTl)))
    have HM0 : Hid (RowC 3 1 (.slice (some ⟨gm, 0, none⟩) R.length R.length) R.length (iv (mkI (fun j => if j < 0 then (mkAt s (ch T' j) : Int) else 0) R.length)) cM) := Lib.hid (by
      rw [mkI_congr _ (fun _ => 0) _ (fun j _ => if_neg (by omega)), mkI_const, iv_replicate]
      exact HM4.out.1)
    clear hrT hTl hS5 hsa HM4
    obtain ⟨g5, rfl⟩ := HP.out.2.2.2.2.1.head hz2
    go_wp2_with fail
    go_loopg [44] R.length (fun m s44 wr => ∃ i : Nat, i + m = R.length ∧ s44 = .int .i64 (i : Int) ∧ ∃ cM, Hid (RowC 3 1 (.slice (some ⟨gm, 0, none⟩) R.length R.length) R.length (iv (mkI (fun j => if j < i then (mkAt s (ch T' j) : Int) else 0) R.length)) cM ∧ St w.heap.size w wr [cT, cM, cR, soB p (.slice ao s.length cap) v1 v2 v3 v4 (.slice (some ⟨g5, 0, none⟩) (marksP s).length cap5) v6, c1, c2, c3, c4', c5, c6]))
    case atStart => exact ⟨0, by omega, rfl, cM, Lib.hid ⟨HM0.out, HQ5.out.2.1⟩⟩
    case round =>
      clear HM0
      obtain ⟨i, hi, rfl, cM, HL⟩ := hrel
      have hM := HL.out.1
      have hS := HL.out.2
      cases gk with
      | zero =>
        obtain rfl : i = R.length := by omega
        rw [mk_marks s T' R.length HQ5.out.2.2.2] at hM
        obtain ⟨mok, mord⟩ := HN.out.1.marks HQ5.out.2.2.1
        have hml : (T'.map (mkAt s)).length = R.length := by rw [List.length_map, HQ5.out.2.2.2]
        have hS' := hS.pick [3, 4, 5, 6, 7, 8, 9, 1] (by decide) [soB p (.slice ao s.length cap) v1 v2 v3 v4 (.slice (some ⟨g5, 0, none⟩) (marksP s).length cap5) v6, c1, c2, c3, c4', c5, c6, cM] rfl
        have HE := Lib.hid (And.intro hM (And.intro hS' (And.intro mok hml)))
        clear hM hS hS' HL mok mord hml hi
        go_wp2_with fail
        go_ways
        refine (induce_any (F := [c5, c6, cM]) p s mx (T'.map (mkAt s)) _ v1 v2 v3 v4 _ v6 _ A ⟨by omega, hn, hm, HMX.out, HE.out.2.2.1⟩ HE.out.2.1 HP.out.1 HP.out.2.1 HP.out.2.2.1 HQ.out.1 (fun w' c4'' h => HT.out.keep h.below) (fun w' c4'' h => by rw [HE.out.2.2.2]; exact HE.out.1.rd h 7 rfl)).mono ?_
        rintro e w6 ⟨rfl, A2, c4'', h4'', hS6, hA2⟩
        have k4 := hS6.cell 0 rfl (List.mem_singleton.2 rfl) 4
        have HZ := Lib.hid (And.intro h4'' (And.intro hS6 hA2))
        clear h4'' hS6 hA2
        go_wp2_with fail
        go_ret
        obtain ⟨U, rfl, hUl, hsa⟩ := second_pass HN.out.1 HQ5.out.2.2.1 HMX.out HZ.out.2.2
        exact ⟨_, U, c4'', rfl, HZ.out.1, hUl, HZ.out.2.1.pick [4] (by decide) [c4''] rfl, hsa⟩
      | succ m =>
        have hlt : i < R.length := by omega
        have hil : (i : Int) < (R.length : Int) := by omega
        have hTi : i < T'.length := by rw [HQ5.out.2.2.2]; exact hlt
        have hlT := HQ5.out.1.cellAt hS 0 rfl (iv_get _ i _ (tI_get T' i hTi))
        have hkR : ch T' i < R.length := by have := HQ5.out.2.2.1.perm.subset (ch_mem T' i hTi); simpa using this
        have hkm : ch T' i < (marksP s).length := by rw [← HN.out.2.2.2]; exact hkR
        have hki : (ch T' i : Int) < ((marksP s).length : Int) := by omega
        have hx5 := hS.cell 3 rfl (List.mem_singleton.2 rfl) 5
        have hl5 := HP.out.2.2.2.2.1.cellAt hS 8 rfl (iv_get _ (ch T' i) _ (tI_get (marksP s) (ch T' i) hkm))
        rw [mkAt_ch s _ hkm] at hl5
        have hlM := hM.cellAt hS 1 rfl (iv_get _ i _ (mkI_get _ _ i hlt))
        rw [if_neg (Nat.lt_irrefl i)] at hlM
        have hfM := hM.freeAt hS 1 rfl i
        clear hTi
        go_wp2_with fail
        go_roundg m
        case measure => omega
        case rel =>
          obtain ⟨cM', hM', hS'⟩ := hM.store hS 1 rfl rfl i (.int .i64 (mkAt s (ch T' i) : Int))
          rw [iv_set, mkI_set, mkI_congr _ (fun j => if j < i + 1 then (mkAt s (ch T' j) : Int) else 0) _ (fun j _ => by
            by_cases hj : j = i
            · subst hj
              rw [if_pos rfl, if_pos (by omega)]
            · rw [if_neg hj]
              by_cases h2 : j < i
              · rw [if_pos h2, if_pos (by omega)]
              · rw [if_neg h2, if_neg (by omega)])] at hM'
          exact ⟨i + 1, by omega, by go_num, cM', Lib.hid ⟨hM', hS'⟩⟩
theorem order_any : ∀ (N : Nat) (s : List Nat) (mx : Nat) (sv : Value) (w : World), s.length ≤ N → s.length ≤ 1000000 → mx ≤ 1000000 → (∀ x ∈ s, x ≤ mx) → Rd w 1 sv s.length (iv (tI s)) →
    Calls Try.prog 39 #[sv, .int .i64 (mx : Int)] w (OrderOut s w)
  | 0, s, mx, sv, w, hN, _, _, _, hT => order_small s mx sv w (by omega) hT
  | N + 1, s, mx, sv, w, hN, hn, hm, hmx, hT => by
    by_cases h : s.length < 2
    · exact order_small s mx sv w h hT
    · exact order_big s mx sv w (by omega) hn hm hmx hT fun R g u w' h1 h2 h3 h4 h5 => order_any N R g u w' (by omega) h2 h3 h4 h5
end Go.Proofs.Ytdgpbgdpdmikaab
