/-
  Contract of the sorter's induce.
-/
import Derived.Test.YtdgpbgdpdmikaabSuf
set_option linter.unusedVariables false
set_option linter.unusedSimpArgs false
namespace Go.Proofs.Ytdgpbgdpdmikaab
open Go.RowKit
set_option maxRecDepth 100000
/-- The sorter's own block. -/
def soB (p : Nat) (sv v1 v2 v3 v4 v5 v6 : Value) : HL := [(p, Obj.cells #[sv, v1, v2, v3, v4, v5, v6] 72 (0, 0))]
def litP (s : List Nat) (mx c : Nat) : Int := if c ≤ mx then (lB s c : Int) else 0
/-- What induce is told, and leaves. -/
structure IndIn (s : List Nat) (mx : Nat) (M : List Nat) : Prop where
  n1 : 1 ≤ s.length
  n : s.length ≤ 1000000
  m : mx ≤ 1000000
  mx : ∀ x ∈ s, x ≤ mx
  ok : MarksOk s M
theorem MarksOk.len {s M : List Nat} (h : MarksOk s M) : M.length ≤ s.length := by
  have : M ⊆ List.range s.length := fun x hx => by have := (h.mem x).1 hx; simpa using this.1
  have := h.nd.length_le_of_subset this
  simpa using this
def IndOut (B : Nat) (w0 : World) (s : List Nat) (mx : Nat) (M : List Nat) (obj c1 c2 c3 : HL) (v4 : Value) (F : List HL) (e : Ending) (w' : World) : Prop :=
  e = .returned (.tuple #[]) ∧ ∃ A c4, RowC 3 1 v4 s.length (iv A) c4 ∧ St B w0 w' (obj :: c1 :: c2 :: c3 :: c4 :: F) ∧ Induced s mx M A
section
variable {B : Nat} {w0 w : World} {F : List HL} {c1 c2 c3 c4 : HL}
set_option maxHeartbeats 4000000 in
theorem induce_any (p : Nat) (s : List Nat) (mx : Nat) (M : List Nat) (sv v1 v2 v3 v4 v5 v6 vm : Value) (A0 : List Int) (hI : IndIn s mx M) (hS : St B w0 w (soB p sv v1 v2 v3 v4 v5 v6 :: c1 :: c2 :: c3 :: c4 :: F))
    (h1 : RowC 4 1 v1 s.length (bl (mkB (sm s) s.length)) c1) (h2 : RowC 3 1 v2 (mx + 2) (iv (mkI (fun c => (gB s c : Int)) (mx + 2))) c2) (h3 : RowC 3 1 v3 (mx + 2) (iv (mkI (litP s mx) (mx + 2))) c3) (h4 : RowC 3 1 v4 s.length (iv A0) c4)
    (hT : ∀ w' c4', St B w0 w' (soB p sv v1 v2 v3 v4 v5 v6 :: c1 :: c2 :: c3 :: c4' :: F) → Rd w' 1 sv s.length (iv (tI s)))
    (hM : ∀ w' c4', St B w0 w' (soB p sv v1 v2 v3 v4 v5 v6 :: c1 :: c2 :: c3 :: c4' :: F) → Rd w' 1 vm M.length (iv (tI M))) :
    Calls Try.prog 44 #[.pointer (some ⟨p, 0, none⟩), vm] w (IndOut B w0 s mx M (soB p sv v1 v2 v3 v4 v5 v6) c1 c2 c3 v4 F) := by
  obtain ⟨in1, inn, inm, imx, iok⟩ := hI
  have HMX := Lib.hid imx
  have hA0 : A0.length = s.length := by have := h4.len; simpa [iv_length] using this
  obtain ⟨g4, cap4, cur4, rfl, hc4⟩ := h4.form (by omega)
  obtain ⟨g2, cap2, cur2, rfl, hc2⟩ := h2.form (by omega)
  obtain ⟨g3, cap3, cur3, rfl, hc3⟩ := h3.form (by omega)
  obtain ⟨g1, cap1, cur1, rfl, hc1⟩ := h1.form (by omega)
  have hml := iok.len
  have hnl : (s.length : Int) ≤ 1000000 := by omega
  have hmi : (mx : Int) ≤ 1000000 := by omega
  have hMl : (M.length : Int) ≤ 1000000 := by omega
  have HT := Lib.hid hT
  have HM := Lib.hid hM
  have H123 := Lib.hid (And.intro h1 (And.intro h2 h3))
  have hat0 := hT w c4 hS
  obtain ⟨aot, capt, rfl⟩ := hat0.shape
  obtain ⟨adt, rfl, _⟩ := hat0.at (iv_get _ 0 _ (tI_get s 0 (by omega)))
  obtain ⟨aom, capm, rfl⟩ := (hM w c4 hS).shape
  have HS := Lib.hid (And.intro hS h4)
  have HO : Hid (∀ w' X, St B w0 w' (soB p (.slice (some adt) s.length capt) (.slice (some ⟨g1, 0, none⟩) s.length cap1) (.slice (some ⟨g2, 0, none⟩) (mx + 2) cap2) (.slice (some ⟨g3, 0, none⟩) (mx + 2) cap3) (.slice (some ⟨g4, 0, none⟩) s.length cap4) v5 v6 :: X) →
      w'.cell? ⟨p, 0, none⟩ = some (.slice (some adt) s.length capt) ∧ w'.cell? ⟨p, 1, none⟩ = some (.slice (some ⟨g1, 0, none⟩) s.length cap1) ∧ w'.cell? ⟨p, 2, none⟩ = some (.slice (some ⟨g2, 0, none⟩) (mx + 2) cap2) ∧ w'.cell? ⟨p, 3, none⟩ = some (.slice (some ⟨g3, 0, none⟩) (mx + 2) cap3) ∧ w'.cell? ⟨p, 4, none⟩ = some (.slice (some ⟨g4, 0, none⟩) s.length cap4)) :=
    Lib.hid fun w' X h => ⟨h.cell 0 rfl (List.mem_singleton.2 rfl) 0, h.cell 0 rfl (List.mem_singleton.2 rfl) 1, h.cell 0 rfl (List.mem_singleton.2 rfl) 2, h.cell 0 rfl (List.mem_singleton.2 rfl) 3, h.cell 0 rfl (List.mem_singleton.2 rfl) 4⟩
  have HTX : Hid (∀ w' c4', St B w0 w' (soB p (.slice (some adt) s.length capt) (.slice (some ⟨g1, 0, none⟩) s.length cap1) (.slice (some ⟨g2, 0, none⟩) (mx + 2) cap2) (.slice (some ⟨g3, 0, none⟩) (mx + 2) cap3) (.slice (some ⟨g4, 0, none⟩) s.length cap4) v5 v6 :: c1 :: c2 :: c3 :: c4' :: F) → ∀ k, k < s.length → w'.cell? (adt.add k) = some (.int .i64 (ch s k : Int))) := Lib.hid fun w' c4' h k hk => by
    obtain ⟨ad', e, hc⟩ := (hT w' c4' h).at (iv_get _ k _ (tI_get s k hk))
    cases e
    exact hc
  clear hc1 hc2 hc3 hc4 hT hM h1 h2 h3 hat0 imx hS h4
  generalize soB p (.slice (some adt) s.length capt) (.slice (some ⟨g1, 0, none⟩) s.length cap1) (.slice (some ⟨g2, 0, none⟩) (mx + 2) cap2) (.slice (some ⟨g3, 0, none⟩) (mx + 2) cap3) (.slice (some ⟨g4, 0, none⟩) s.length cap4) v5 v6 = obj at *
  have hx4 := (HO.out _ _ HS.out.1).2.2.2.2
  go_enter Try.func44, Try.ntmps44
  go_wp2_with fail
  clear hx4
  go_loopg [19] s.length (fun m s19 wr => ∃ i : Nat, i + m = s.length ∧ s19 = .int .i64 (i : Int) ∧ ∃ c4, Hid (RowC 3 1 (.slice (some ⟨g4, 0, none⟩) s.length cap4) s.length (iv (List.replicate i (-1) ++ A0.drop i)) c4 ∧ St B w0 wr (obj :: c1 :: c2 :: c3 :: c4 :: F)))
  case atStart => exact ⟨0, by omega, rfl, c4, Lib.hid ⟨by simpa using HS.out.2, HS.out.1⟩⟩
  case round =>
    clear HS
    obtain ⟨i, hi, rfl, c4, HQ⟩ := hrel
    have hS := HQ.out.2
    have h4 := HQ.out.1
    obtain ⟨hx0, hx1, hx2, hx3, hx4⟩ := HO.out _ _ hS
    cases gk with
    | zero =>
      obtain rfl : i = s.length := by omega
      clear hi HQ
      rw [List.drop_of_length_le (by omega), List.append_nil] at h4
      go_wp2_with fail
      refine (clonei_any _ _ _ _ (H123.out.2.2.rd hS 3 rfl) (by omega)).mono ?_
      rintro e w1 ⟨va, ca, rfl, hra, hsa⟩
      obtain ⟨ga, capa, cura, rfl, _⟩ := hra.form (by omega)
      have HQ : Hid (InvM s mx M 0 (List.replicate s.length (-1)) (mkI (litP s mx) (mx + 2)) ∧ RowC 3 1 (.slice (some ⟨g4, 0, none⟩) s.length cap4) s.length (iv (List.replicate s.length (-1))) c4 ∧ RowC 3 1 (.slice (some ⟨ga, 0, none⟩) (mx + 2) capa) (mx + 2) (iv (mkI (litP s mx) (mx + 2))) ca ∧ St B w0 w1 (ca :: obj :: c1 :: c2 :: c3 :: c4 :: F)) :=
        Lib.hid ⟨InvM.init s mx M _ HMX.out (mkI_length _ _) (fun c hc => by rw [mkI_get _ _ _ (by omega)]; unfold litP; rw [if_pos hc]), h4, hra, hS.join hsa⟩
      clear hra hsa hS h4 hx0 hx1 hx2 hx3 hx4
      go_wp2_with fail
      go_loopg [36] M.length (fun m s36 wr => ∃ k : Nat, k + m = M.length ∧ s36 = .int .i64 (k : Int) ∧ ∃ (sa at_ : List Int) (ca c4 : HL), Hid (InvM s mx M k sa at_ ∧ RowC 3 1 (.slice (some ⟨g4, 0, none⟩) s.length cap4) s.length (iv sa) c4 ∧ RowC 3 1 (.slice (some ⟨ga, 0, none⟩) (mx + 2) capa) (mx + 2) (iv at_) ca ∧ St B w0 wr (ca :: obj :: c1 :: c2 :: c3 :: c4 :: F)))
      case atStart => exact ⟨0, by omega, rfl, _, _, _, _, HQ⟩
      case round =>
        clear HQ
        obtain ⟨k, hk, rfl, sa, at_, ca, c4, HQ⟩ := hrel
        have hS := HQ.out.2.2.2
        have h4 := HQ.out.2.1
        have ha := HQ.out.2.2.1
        obtain ⟨hx0, hx1, hx2, hx3, hx4⟩ := HO.out _ _ hS.tl
        cases gk with
        | zero =>
          obtain rfl : k = M.length := by omega
          clear hk ha
          have hS2 := hS.tl
          have HIM := Lib.hid HQ.out.1
          clear HQ hS
          go_wp2_with fail
          refine (clonei_any _ _ _ _ (H123.out.2.1.rd hS2 2 rfl) (by omega)).mono ?_
          rintro e w2 ⟨vb, cb, rfl, hrb, hsb⟩
          obtain ⟨gb, capb, curb, rfl, _⟩ := hrb.form (by omega)
          have hS := hS2.join hsb
          replace hS : St B w0 w2 (cb :: obj :: c1 :: c2 :: c3 :: c4 :: F) := hS
          obtain ⟨hi1, hi2⟩ := InvL.init HIM.out iok HMX.out in1 (mkI_length (fun c => (gB s c : Int)) (mx + 2)) (fun c hc => mkI_get _ _ _ (by omega))
          have HI2 := Lib.hid hi2
          clear hS2 hsb hi2 hx0 hx1 hx2 hx3 hx4
          obtain ⟨q, hq⟩ : ∃ q, s.length = q + 1 := ⟨s.length - 1, by omega⟩
          have hqn : s.length - 1 = q := by omega
          have hqi : (s.length : Int) - 1 = (q : Int) := by omega
          rw [hqn] at hi1
          have hqc : ch s q ≤ mx := HMX.out _ (ch_mem s q (by omega))
          have hql : q < s.length := by omega
          have HQN := Lib.hid (And.intro hqn hqi)
          have hqs : (q : Int) ≤ 1000000 := by omega
          obtain ⟨hx0, hx1, hx2, hx3, hx4⟩ := HO.out _ _ hS.tl
          have hct := HTX.out w2 c4 hS.tl q hql
          have hgb : (mkI (fun c => (gB s c : Int)) (mx + 2))[ch s q]? = some (gB s (ch s q) : Int) := mkI_get _ _ _ (by omega)
          have hla := hrb.cellAt hS 0 rfl (iv_get _ _ _ hgb)
          obtain ⟨z, hz⟩ : ∃ z, sa[gB s (ch s q)]? = some z := ⟨_, List.getElem?_eq_getElem (by rw [HIM.out.len]; exact hi1)⟩
          have hl4 := h4.cellAt hS 5 rfl (iv_get _ _ z hz)
          have hf4 := h4.freeAt hS 5 rfl (gB s (ch s q))
          have HGB := Lib.hid hgb
          have hgi : (gB s (ch s q) : Int) ≤ 1000000 := by omega
          clear hgb hz hqn hq
          go_upto_region 14 with (fail)
          go_cut [8] (fun s8 wc => s8 = .int .i64 (s.length : Int) ∧ ∃ c4', Hid (RowC 3 1 (.slice (some ⟨g4, 0, none⟩) s.length cap4) s.length (iv (sa.set (gB s (ch s q)) (q : Int))) c4' ∧ St B w0 wc (cb :: obj :: c1 :: c2 :: c3 :: c4' :: F)))
          case first =>
            go_wp2_with (first | ((with_reducible refine wpStill_plain ?_ ?_ (fun _ _ => ?_)); rfl; rfl) | (with_reducible refine wpStill_nil ?_) | ((with_reducible refine wp_draw_tail (id := 14) 18 mixed ?_ (fun _ hK => ?_)); kernel_rfl; simp only [List.take_succ_cons, List.take_zero, List.drop_succ_cons, List.drop_zero] at hK ⊢))
            go_meet
            case rel =>
              obtain ⟨c4', h4', hS'⟩ := h4.store hS.drew 5 rfl rfl (gB s (ch s q)) (.int .i64 (q : Int))
              exact ⟨rfl, c4', Lib.hid ⟨by rw [← iv_set]; exact h4', hS'⟩⟩
          case rest =>
            obtain ⟨rfl, c4', HC⟩ := hcut
            clear hS h4 hx0 hx1 hx2 hx3 hx4 hct hla hl4 hf4
            have hS := HC.out.2
            obtain ⟨hx0, hx1, hx2, hx3, hx4⟩ := HO.out _ _ hS.tl
            have hct := HTX.out wc c4' hS.tl q hql
            have hla := hrb.cellAt hS 0 rfl (iv_get _ _ _ HGB.out)
            have hfa := hrb.freeAt hS 0 rfl (ch s q)
            obtain ⟨cb', hb', hS'⟩ := hrb.store hS 0 rfl rfl (ch s q) (.int .i64 ((gB s (ch s q) : Int) + 1))
            rw [iv_set] at hb'
            have hi2 := HI2.out
            rw [HQN.out.1, HQN.out.2] at hi2
            have HL0 := Lib.hid (And.intro hi2 (And.intro HC.out.1 (And.intro hb' hS')))
            clear hi2 hb' hS' HI2 hrb
            go_wp2_with fail
            go_loopg [111] s.length (fun m s111 wr => ∃ i : Nat, i + m = s.length ∧ s111 = .int .i64 (i : Int) ∧ ∃ (sa at_ : List Int) (cb c4 : HL), Hid (InvL s mx M i sa at_ ∧ RowC 3 1 (.slice (some ⟨g4, 0, none⟩) s.length cap4) s.length (iv sa) c4 ∧ RowC 3 1 (.slice (some ⟨gb, 0, none⟩) (mx + 2) capb) (mx + 2) (iv at_) cb ∧ St B w0 wr (cb :: obj :: c1 :: c2 :: c3 :: c4 :: F)))
            case atStart => exact ⟨0, by omega, rfl, _, _, _, _, HL0⟩
            case round =>
              clear HL0 hS hx0 hx1 hx2 hx3 hx4 hct hla hfa
              obtain ⟨i, hi, rfl, sa, at_, cb, c4, HQ⟩ := hrel
              have hS := HQ.out.2.2.2
              have h4 := HQ.out.2.1
              have hb := HQ.out.2.2.1
              obtain ⟨hx0, hx1, hx2, hx3, hx4⟩ := HO.out _ _ hS.tl
              cases gk with
              | zero =>
                obtain rfl : i = s.length := by omega
                clear hi hb
                have hS2 := hS.tl
                have HIL := Lib.hid HQ.out.1
                have hG := HQ.out.1.great iok HMX.out
                have HG := Lib.hid hG
                clear HQ hS hG
                go_wp2_with fail
                refine (clonei_any _ _ _ _ (H123.out.2.1.rd hS2 2 rfl) (by omega)).mono ?_
                rintro e w3 ⟨vd, cd, rfl, hrd, hsd⟩
                obtain ⟨gd, capd, curd, rfl, _⟩ := hrd.form (by omega)
                have hS := hS2.join hsd
                replace hS : St B w0 w3 (cd :: obj :: c1 :: c2 :: c3 :: c4 :: F) := hS
                have HQ : Hid (InvS s mx sa s.length sa (mkI (fun c => (gB s c : Int)) (mx + 2)) ∧ RowC 3 1 (.slice (some ⟨g4, 0, none⟩) s.length cap4) s.length (iv sa) c4 ∧ RowC 3 1 (.slice (some ⟨gd, 0, none⟩) (mx + 2) capd) (mx + 2) (iv (mkI (fun c => (gB s c : Int)) (mx + 2))) cd ∧ St B w0 w3 (cd :: obj :: c1 :: c2 :: c3 :: c4 :: F)) :=
                  Lib.hid ⟨InvS.init HG.out HMX.out (mkI_length _ _) (fun c hc => mkI_get _ _ _ (by omega)), h4, hrd, hS⟩
                obtain ⟨sa0, hsa0⟩ : ∃ x, x = sa := ⟨_, rfl⟩
                rw [← hsa0] at HIL HG
                have HQ' : Hid (InvS s mx sa0 s.length sa (mkI (fun c => (gB s c : Int)) (mx + 2)) ∧ RowC 3 1 (.slice (some ⟨g4, 0, none⟩) s.length cap4) s.length (iv sa) c4 ∧ RowC 3 1 (.slice (some ⟨gd, 0, none⟩) (mx + 2) capd) (mx + 2) (iv (mkI (fun c => (gB s c : Int)) (mx + 2))) cd ∧ St B w0 w3 (cd :: obj :: c1 :: c2 :: c3 :: c4 :: F)) := by rw [hsa0]; exact HQ
                clear hS2 hsd hx0 hx1 hx2 hx3 hx4 h4 hS hrd HQ hsa0
                go_wp2_with fail
                go_loopg [11] s.length (fun i s11 wr => i ≤ s.length ∧ s11 = .int .i64 ((i : Int) - 1) ∧ ∃ (sa at_ : List Int) (cd c4 : HL), Hid (InvS s mx sa0 i sa at_ ∧ RowC 3 1 (.slice (some ⟨g4, 0, none⟩) s.length cap4) s.length (iv sa) c4 ∧ RowC 3 1 (.slice (some ⟨gd, 0, none⟩) (mx + 2) capd) (mx + 2) (iv at_) cd ∧ St B w0 wr (cd :: obj :: c1 :: c2 :: c3 :: c4 :: F)))
                case atStart => exact ⟨Nat.le_refl _, by rw [HQN.out.2], _, _, _, _, HQ'⟩
                case round =>
                  clear HQ'
                  obtain ⟨hin, rfl, sa, at_, cd, c4, HQ⟩ := hrel
                  have hS := HQ.out.2.2.2
                  have h4 := HQ.out.2.1
                  have hd := HQ.out.2.2.1
                  obtain ⟨hx0, hx1, hx2, hx3, hx4⟩ := HO.out _ _ hS.tl
                  cases gk with
                  | zero =>
                    go_wp2_with fail
                    go_end0
                    exact ⟨rfl, sa, c4, h4, hS.tl, ⟨sa0, _, _, HIL.out, HQ.out.1⟩⟩
                  | succ i =>
                    have e : (((i + 1 : Nat) : Int) - 1) = (i : Int) := by omega
                    rw [e]
                    clear e
                    have hlt : i < s.length := by omega
                    have hii : (i : Int) ≤ 1000000 := by omega
                    obtain ⟨y, hy⟩ : ∃ y, sa[i]? = some y := ⟨_, List.getElem?_eq_getElem (by rw [HQ.out.1.len]; exact hlt)⟩
                    have hyr := HQ.out.1.rng y (List.mem_of_getElem? hy)
                    have hl4 := h4.cellAt hS 5 rfl (iv_get _ _ y hy)
                    by_cases q1 : y < 1
                    · have hsk := HQ.out.1.skip HG.out HMX.out hlt y hy (fun h => by omega)
                      have HSK := Lib.hid hsk
                      clear hsk hy
                      go_wp2_with fail
                      go_roundg i
                      case measure => omega
                      case rel => exact ⟨by omega, by go_num, _, _, cd, c4, Lib.hid ⟨HSK.out, h4, hd, hS⟩⟩
                    · obtain ⟨P, rfl⟩ : ∃ P : Nat, y = (P : Int) + 1 := ⟨(y - 1).toNat, by omega⟩
                      have hPn : P < s.length := by omega
                      have hl1 := H123.out.1.cellAt hS 2 rfl (bl_get _ P _ (mkB_get (sm s) s.length P hPn))
                      cases hsm : sm s P with
                      | false =>
                        rw [hsm] at hl1
                        have hsk := HQ.out.1.skip HG.out HMX.out hlt _ hy (fun h => by
                          have h2 := h.2
                          rw [show ((P : Int) + 1).toNat - 1 = P from by omega, hsm] at h2
                          cases h2)
                        have HSK := Lib.hid hsk
                        clear hsk hy
                        go_wp2_with fail
                        go_roundg i
                        case measure => omega
                        case rel => exact ⟨by omega, by go_num, _, _, cd, c4, Lib.hid ⟨HSK.out, h4, hd, hS⟩⟩
                      | true =>
                        rw [hsm] at hl1
                        obtain ⟨hP1, a, hat, han, hstep⟩ := HQ.out.1.step HG.out HMX.out hy hsm
                        have hcy : ch s P ≤ mx := HMX.out _ (ch_mem s P hPn)
                        have hct := HTX.out wr c4 hS.tl P hPn
                        have hla := hd.cellAt hS 0 rfl (iv_get _ _ _ hat)
                        have hfa := hd.freeAt hS 0 rfl (ch s P + 1)
                        obtain ⟨z, hz⟩ : ∃ z, sa[a]? = some z := ⟨_, List.getElem?_eq_getElem (by rw [HQ.out.1.len]; exact han)⟩
                        have HST := Lib.hid (And.intro hstep hz)
                        have hai : (a : Int) ≤ 1000000 := by omega
                        have hci : (ch s P : Int) ≤ 1000000 := by omega
                        obtain ⟨cd', hd', hS'⟩ := hd.store hS 0 rfl rfl (ch s P + 1) (.int .i64 (a : Int))
                        rw [iv_set] at hd'
                        have hat2 : (at_.set (ch s P + 1) (a : Int))[ch s P + 1]? = some (a : Int) := List.getElem?_set_self (by rw [HQ.out.1.alen]; omega)
                        obtain ⟨ky0, ky1, ky2, ky3, ky4⟩ := HO.out _ _ hS'.tl
                        have kla := hd'.cellAt hS' 0 rfl (iv_get _ _ _ hat2)
                        have kl4 := h4.cellAt hS' 5 rfl (iv_get _ a z hz)
                        have kf4 := h4.freeAt hS' 5 rfl a
                        have HD := Lib.hid (And.intro hd' hS')
                        clear hy hstep hat hz hsm hd' hS' hat2 ky0 ky1 ky2 ky3
                        go_wp2_with (first | ((with_reducible refine wpStill_plain ?_ ?_ (fun _ _ => ?_)); rfl; rfl) | (with_reducible refine wpStill_nil ?_) | ((with_reducible refine wp_draw_tail (id := 32) 11 mixed ?_ (fun _ hK => ?_)); kernel_rfl; simp only [List.take_succ_cons, List.take_zero, List.drop_succ_cons, List.drop_zero] at hK ⊢))
                        go_roundg i
                        case measure => omega
                        case rel =>
                          obtain ⟨c4', h4', hS2⟩ := h4.store HD.out.2.drew 5 rfl rfl a (.int .i64 (P : Int))
                          exact ⟨by omega, by go_num, _, _, cd', c4', Lib.hid ⟨HST.out.1, by rw [← iv_set]; exact h4', HD.out.1, hS2⟩⟩
              | succ m =>
                have hlt : i < s.length := by omega
                obtain ⟨y, hy⟩ : ∃ y, sa[i]? = some y := ⟨_, List.getElem?_eq_getElem (by rw [HQ.out.1.len]; exact hlt)⟩
                have hyr := HQ.out.1.rng y (List.mem_of_getElem? hy)
                have hl4 := h4.cellAt hS 5 rfl (iv_get _ _ y hy)
                by_cases q1 : y < 1
                · have hsk := HQ.out.1.skip y hy (fun h => by omega)
                  have HSK := Lib.hid hsk
                  clear hsk hy
                  go_wp2_with fail
                  go_roundg m
                  case measure => omega
                  case rel => exact ⟨i + 1, by omega, by go_num, _, _, cb, c4, Lib.hid ⟨HSK.out, h4, hb, hS⟩⟩
                · obtain ⟨P, rfl⟩ : ∃ P : Nat, y = (P : Int) + 1 := ⟨(y - 1).toNat, by omega⟩
                  have hPn : P < s.length := by omega
                  have hl1 := H123.out.1.cellAt hS 2 rfl (bl_get _ P _ (mkB_get (sm s) s.length P hPn))
                  cases hsm : sm s P with
                  | true =>
                    rw [hsm] at hl1
                    have hsk := HQ.out.1.skip _ hy (fun h => by
                      have h2 := h.2
                      rw [show ((P : Int) + 1).toNat - 1 = P from by omega, hsm] at h2
                      cases h2)
                    have HSK := Lib.hid hsk
                    clear hsk hy
                    go_wp2_with fail
                    go_roundg m
                    case measure => omega
                    case rel => exact ⟨i + 1, by omega, by go_num, _, _, cb, c4, Lib.hid ⟨HSK.out, h4, hb, hS⟩⟩
                  | false =>
                    rw [hsm] at hl1
                    obtain ⟨hP1, a, hat, han, hstep⟩ := HQ.out.1.step iok HMX.out hy hsm
                    have hcy : ch s P ≤ mx := HMX.out _ (ch_mem s P hPn)
                    have hct := HTX.out wr c4 hS.tl P hPn
                    have hla := hb.cellAt hS 0 rfl (iv_get _ _ _ hat)
                    obtain ⟨z, hz⟩ : ∃ z, sa[a]? = some z := ⟨_, List.getElem?_eq_getElem (by rw [HQ.out.1.len]; exact han)⟩
                    have hl4a := h4.cellAt hS 5 rfl (iv_get _ a z hz)
                    have hf4 := h4.freeAt hS 5 rfl a
                    have HST := Lib.hid (And.intro hstep hat)
                    clear hy hstep hat hz hsm
                    go_upto_region 21 with (fail)
                    go_cut [10] (fun s10 wc => s10 = .int .i64 ((P : Int) + 1) ∧ ∃ c4', Hid (RowC 3 1 (.slice (some ⟨g4, 0, none⟩) s.length cap4) s.length (iv (sa.set a (P : Int))) c4' ∧ St B w0 wc (cb :: obj :: c1 :: c2 :: c3 :: c4' :: F)))
                    case first =>
                      go_wp2_with (first | ((with_reducible refine wpStill_plain ?_ ?_ (fun _ _ => ?_)); rfl; rfl) | (with_reducible refine wpStill_nil ?_) | ((with_reducible refine wp_draw_tail (id := 21) 18 mixed ?_ (fun _ hK => ?_)); kernel_rfl; simp only [List.take_succ_cons, List.take_zero, List.drop_succ_cons, List.drop_zero] at hK ⊢))
                      go_meet
                      case rel =>
                        obtain ⟨c4', h4', hS'⟩ := h4.store hS.drew 5 rfl rfl a (.int .i64 (P : Int))
                        exact ⟨rfl, c4', Lib.hid ⟨by rw [← iv_set]; exact h4', hS'⟩⟩
                    case rest =>
                      obtain ⟨rfl, c4', HC⟩ := hcut
                      clear hS h4 hx0 hx1 hx2 hx3 hx4 hct hla hl4 hf4 hl4a hl1
                      have hS := HC.out.2
                      obtain ⟨hx0, hx1, hx2, hx3, hx4⟩ := HO.out _ _ hS.tl
                      have hct := HTX.out wc c4' hS.tl P hPn
                      have hla := hb.cellAt hS 0 rfl (iv_get _ _ _ HST.out.2)
                      have hfa := hb.freeAt hS 0 rfl (ch s P)
                      have hai : (a : Int) ≤ 1000000 := by omega
                      go_wp2_with fail
                      go_roundg m
                      case measure => omega
                      case rel =>
                        obtain ⟨cb', hb', hS'⟩ := hb.store hS 0 rfl rfl (ch s P) (.int .i64 ((a : Int) + 1))
                        rw [iv_set] at hb'
                        exact ⟨i + 1, by omega, by go_num, _, _, cb', c4', Lib.hid ⟨HST.out.1, HC.out.1, hb', hS'⟩⟩
        | succ m =>
          have hlt : k < M.length := by omega
          obtain ⟨y, hy⟩ : ∃ y, M[k]? = some y := ⟨_, List.getElem?_eq_getElem hlt⟩
          have hyT : (tI M)[k]? = some (y : Int) := by unfold tI; rw [List.getElem?_map, hy]; rfl
          obtain ⟨adm, rfl, hcm⟩ := (HM.out wr c4 hS.tl).at (iv_get _ k _ hyT)
          have hym := (iok.mem y).1 (List.mem_of_getElem? hy)
          obtain ⟨a, hat, han, hstep⟩ := HQ.out.1.step iok HMX.out hy
          have hcy : ch s y ≤ mx := HMX.out _ (ch_mem s y hym.1)
          have hct := HTX.out wr c4 hS.tl y hym.1
          have hla := ha.cellAt hS 0 rfl (iv_get _ _ _ hat)
          obtain ⟨z, hz⟩ : ∃ z, sa[a]? = some z := ⟨_, List.getElem?_eq_getElem (by rw [HQ.out.1.len]; exact han)⟩
          have hl4 := h4.cellAt hS 5 rfl (iv_get _ a z hz)
          have hf4 := h4.freeAt hS 5 rfl a
          have HST := Lib.hid (And.intro hstep hat)
          have hyn : y < s.length := hym.1
          clear hyT hy hym hstep hat hz
          go_upto_region 9 with (fail)
          go_cut [55] (fun s55 wc => ∃ c4', Hid (RowC 3 1 (.slice (some ⟨g4, 0, none⟩) s.length cap4) s.length (iv (sa.set a (y : Int))) c4' ∧ St B w0 wc (ca :: obj :: c1 :: c2 :: c3 :: c4' :: F)))
          case first =>
            go_wp2_with (first | ((with_reducible refine wpStill_plain ?_ ?_ (fun _ _ => ?_)); rfl; rfl) | (with_reducible refine wpStill_nil ?_) | ((with_reducible refine wp_draw_tail (id := 9) 16 mixed ?_ (fun _ hK => ?_)); kernel_rfl; simp only [List.take_succ_cons, List.take_zero, List.drop_succ_cons, List.drop_zero] at hK ⊢))
            go_meet
            case rel =>
              obtain ⟨c4', h4', hS'⟩ := h4.store hS.drew 5 rfl rfl a (.int .i64 (y : Int))
              exact ⟨c4', Lib.hid ⟨by rw [← iv_set]; exact h4', hS'⟩⟩
          case rest =>
            obtain ⟨c4', HC⟩ := hcut
            clear hS h4 hx0 hx1 hx2 hx3 hx4 hct hla hl4 hf4 hcm
            have hS := HC.out.2
            obtain ⟨hx0, hx1, hx2, hx3, hx4⟩ := HO.out _ _ hS.tl
            have hct := HTX.out wc c4' hS.tl y hyn
            have hla := ha.cellAt hS 0 rfl (iv_get _ _ _ HST.out.2)
            have hfa := ha.freeAt hS 0 rfl (ch s y)
            have hai : (a : Int) ≤ 1000000 := by omega
            go_wp2_with fail
            go_roundg m
            case measure => omega
            case rel =>
              obtain ⟨ca', ha', hS'⟩ := ha.store hS 0 rfl rfl (ch s y) (.int .i64 ((a : Int) + 1))
              rw [iv_set] at ha'
              exact ⟨k + 1, by omega, by go_num, _, _, ca', c4', Lib.hid ⟨HST.out.1, HC.out.1, ha', hS'⟩⟩
    | succ m =>
      have hlt : i < s.length := by omega
      have hrl : (List.replicate i (-1 : Int) ++ A0.drop i).length = s.length := by simp; omega
      obtain ⟨y, hy⟩ : ∃ y, (List.replicate i (-1 : Int) ++ A0.drop i)[i]? = some y := ⟨_, List.getElem?_eq_getElem (by omega)⟩
      have hld := h4.cellAt hS 4 rfl (iv_get _ i y hy)
      have hfr := h4.freeAt hS 4 rfl i
      clear hrl hy
      go_wp2_with fail
      go_roundg m
      case measure => omega
      case rel =>
        obtain ⟨c4', h4', hS'⟩ := h4.store hS 4 rfl rfl i (.int .i64 (-1))
        refine ⟨i + 1, by omega, by go_num, c4', Lib.hid ⟨?_, hS'⟩⟩
        have e : (List.replicate i (-1 : Int) ++ A0.drop i).set i (-1) = List.replicate (i + 1) (-1) ++ A0.drop (i + 1) := by
          rw [List.set_append_right _ _ (by simp), List.length_replicate, Nat.sub_self, List.drop_eq_getElem_cons (by omega), List.set_cons_zero, List.replicate_succ', List.append_assoc]
          rfl
        rw [← e, ← iv_set]
        exact h4'
end
end Go.Proofs.Ytdgpbgdpdmikaab
