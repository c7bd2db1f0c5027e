/-
  Texts joined: SufInd, SufNames, SufPrep, SufOrd, SufSort, PureLcp.
-/
import Derived.Test.YthgbkncanoknkaaSg5
import Derived.WalkMore
import Derived.Test.YthgbkncanoknkaaSg4
import Derived.Test.YthgbkncanoknkaaSg3
/-
  Contract of the sorter's induce.
-/
set_option linter.unusedVariables false
set_option linter.unusedSimpArgs false
namespace Go.Proofs.Ythgbkncanoknkaa
open Go.RowKit
set_option maxRecDepth 100000
/-- The sorter's own block. -/
def soB (p : Nat) (sv v1 v2 v3 v4 v5 v6 : Value) : HL := [(p, Obj.cells #[sv, v1, v2, v3, v4, v5, v6] 137 (0, 0))]
def litP (s : List Nat) (mx c : Nat) : Int := if c ≤ mx then (lB s c : Int) else 0
/-- What induce is told, and leaves. -/
structure IndIn (s : List Nat) (mx : Nat) (M : List Nat) : Prop where
  n1 : 1 ≤ s.length
  n : s.length ≤ 1000000
  m : mx ≤ 1000000
  mx : ∀ x ∈ s, x ≤ mx
  ok : MarksOk s M
theorem MarksOk.len {s M : List Nat} (h : MarksOk s M) : M.length ≤ s.length := by
  have : M ⊆ List.range s.length := fun x hx => by have := (h.mem x).1 hx; simpa using this.1
  have := h.nd.length_le_of_subset this
  simpa using this
def IndOut (B : Nat) (w0 : World) (s : List Nat) (mx : Nat) (M : List Nat) (obj c1 c2 c3 : HL) (v4 : Value) (F : List HL) (e : Ending) (w' : World) : Prop :=
  e = .returned (.tuple #[]) ∧ ∃ A c4, RowC 3 1 v4 s.length (iv A) c4 ∧ St B w0 w' (obj :: c1 :: c2 :: c3 :: c4 :: F) ∧ Induced s mx M A
section
variable {B : Nat} {w0 w : World} {F : List HL} {c1 c2 c3 c4 : HL}
set_option maxHeartbeats 4000000 in
theorem induce_any (p : Nat) (s : List Nat) (mx : Nat) (M : List Nat) (sv v1 v2 v3 v4 v5 v6 vm : Value) (A0 : List Int) (hI : IndIn s mx M) (hS : St B w0 w (soB p sv v1 v2 v3 v4 v5 v6 :: c1 :: c2 :: c3 :: c4 :: F))
    (h1 : RowC 4 1 v1 s.length (bl (mkB (sm s) s.length)) c1) (h2 : RowC 3 1 v2 (mx + 2) (iv (mkI (fun c => (gB s c : Int)) (mx + 2))) c2) (h3 : RowC 3 1 v3 (mx + 2) (iv (mkI (litP s mx) (mx + 2))) c3) (h4 : RowC 3 1 v4 s.length (iv A0) c4)
    (hT : ∀ w' c4', St B w0 w' (soB p sv v1 v2 v3 v4 v5 v6 :: c1 :: c2 :: c3 :: c4' :: F) → Rd w' 1 sv s.length (iv (tI s)))
    (hM : ∀ w' c4', St B w0 w' (soB p sv v1 v2 v3 v4 v5 v6 :: c1 :: c2 :: c3 :: c4' :: F) → Rd w' 1 vm M.length (iv (tI M))) :
    Calls Try.prog 89 #[.pointer (some ⟨p, 0, none⟩), vm] w (IndOut B w0 s mx M (soB p sv v1 v2 v3 v4 v5 v6) c1 c2 c3 v4 F) := by
  obtain ⟨in1, inn, inm, imx, iok⟩ := hI
  have HMX := Lib.hid imx
  have hA0 : A0.length = s.length := by have := h4.len; simpa [iv_length] using this
  obtain ⟨g4, cap4, cur4, rfl, hc4⟩ := h4.form (by omega)
  obtain ⟨g2, cap2, cur2, rfl, hc2⟩ := h2.form (by omega)
  obtain ⟨g3, cap3, cur3, rfl, hc3⟩ := h3.form (by omega)
  obtain ⟨g1, cap1, cur1, rfl, hc1⟩ := h1.form (by omega)
  have hml := iok.len
  have hnl : (s.length : Int) ≤ 1000000 := by omega
  have hmi : (mx : Int) ≤ 1000000 := by omega
  have hMl : (M.length : Int) ≤ 1000000 := by omega
  have HT := Lib.hid hT
  have HM := Lib.hid hM
  have H123 := Lib.hid (And.intro h1 (And.intro h2 h3))
  have hat0 := hT w c4 hS
  obtain ⟨aot, capt, rfl⟩ := hat0.shape
  obtain ⟨adt, rfl, _⟩ := hat0.at (iv_get _ 0 _ (tI_get s 0 (by omega)))
  obtain ⟨aom, capm, rfl⟩ := (hM w c4 hS).shape
  have HS := Lib.hid (And.intro hS h4)
  have HO : Hid (∀ w' X, St B w0 w' (soB p (.slice (some adt) s.length capt) (.slice (some ⟨g1, 0, none⟩) s.length cap1) (.slice (some ⟨g2, 0, none⟩) (mx + 2) cap2) (.slice (some ⟨g3, 0, none⟩) (mx + 2) cap3) (.slice (some ⟨g4, 0, none⟩) s.length cap4) v5 v6 :: X) →
      w'.cell? ⟨p, 0, none⟩ = some (.slice (some adt) s.length capt) ∧ w'.cell? ⟨p, 1, none⟩ = some (.slice (some ⟨g1, 0, none⟩) s.length cap1) ∧ w'.cell? ⟨p, 2, none⟩ = some (.slice (some ⟨g2, 0, none⟩) (mx + 2) cap2) ∧ w'.cell? ⟨p, 3, none⟩ = some (.slice (some ⟨g3, 0, none⟩) (mx + 2) cap3) ∧ w'.cell? ⟨p, 4, none⟩ = some (.slice (some ⟨g4, 0, none⟩) s.length cap4)) :=
    Lib.hid fun w' X h => ⟨h.cell 0 rfl (List.mem_singleton.2 rfl) 0, h.cell 0 rfl (List.mem_singleton.2 rfl) 1, h.cell 0 rfl (List.mem_singleton.2 rfl) 2, h.cell 0 rfl (List.mem_singleton.2 rfl) 3, h.cell 0 rfl (List.mem_singleton.2 rfl) 4⟩
  have HTX : Hid (∀ w' c4', St B w0 w' (soB p (.slice (some adt) s.length capt) (.slice (some ⟨g1, 0, none⟩) s.length cap1) (.slice (some ⟨g2, 0, none⟩) (mx + 2) cap2) (.slice (some ⟨g3, 0, none⟩) (mx + 2) cap3) (.slice (some ⟨g4, 0, none⟩) s.length cap4) v5 v6 :: c1 :: c2 :: c3 :: c4' :: F) → ∀ k, k < s.length → w'.cell? (adt.add k) = some (.int .i64 (ch s k : Int))) := Lib.hid fun w' c4' h k hk => by
    obtain ⟨ad', e, hc⟩ := (hT w' c4' h).at (iv_get _ k _ (tI_get s k hk))
    cases e
    exact hc
  clear hc1 hc2 hc3 hc4 hT hM h1 h2 h3 hat0 imx hS h4
  generalize soB p (.slice (some adt) s.length capt) (.slice (some ⟨g1, 0, none⟩) s.length cap1) (.slice (some ⟨g2, 0, none⟩) (mx + 2) cap2) (.slice (some ⟨g3, 0, none⟩) (mx + 2) cap3) (.slice (some ⟨g4, 0, none⟩) s.length cap4) v5 v6 = obj at *
  have hx4 := (HO.out _ _ HS.out.1).2.2.2.2
  go_enter Try.func89, Try.ntmps89
  go_wp2_with fail
  clear hx4
  go_loopg [19] s.length (fun m s19 wr => ∃ i : Nat, i + m = s.length ∧ s19 = .int .i64 (i : Int) ∧ ∃ c4, Hid (RowC 3 1 (.slice (some ⟨g4, 0, none⟩) s.length cap4) s.length (iv (List.replicate i (-1) ++ A0.drop i)) c4 ∧ St B w0 wr (obj :: c1 :: c2 :: c3 :: c4 :: F)))
  case atStart => exact ⟨0, by omega, rfl, c4, Lib.hid ⟨by simpa using HS.out.2, HS.out.1⟩⟩
  case round =>
    clear HS
    obtain ⟨i, hi, rfl, c4, HQ⟩ := hrel
    have hS := HQ.out.2
    have h4 := HQ.out.1
    obtain ⟨hx0, hx1, hx2, hx3, hx4⟩ := HO.out _ _ hS
    cases gk with
    | zero =>
      obtain rfl : i = s.length := by omega
      clear hi HQ
      rw [List.drop_of_length_le (by omega), List.append_nil] at h4
      go_wp2_with fail
      refine (clonei_any _ _ _ _ (H123.out.2.2.rd hS 3 rfl) (by omega)).mono ?_
      rintro e w1 ⟨va, ca, rfl, hra, hsa⟩
      obtain ⟨ga, capa, cura, rfl, _⟩ := hra.form (by omega)
      have HQ : Hid (InvM s mx M 0 (List.replicate s.length (-1)) (mkI (litP s mx) (mx + 2)) ∧ RowC 3 1 (.slice (some ⟨g4, 0, none⟩) s.length cap4) s.length (iv (List.replicate s.length (-1))) c4 ∧ RowC 3 1 (.slice (some ⟨ga, 0, none⟩) (mx + 2) capa) (mx + 2) (iv (mkI (litP s mx) (mx + 2))) ca ∧ St B w0 w1 (ca :: obj :: c1 :: c2 :: c3 :: c4 :: F)) :=
        Lib.hid ⟨InvM.init s mx M _ HMX.out (mkI_length _ _) (fun c hc => by rw [mkI_get _ _ _ (by omega)]; unfold litP; rw [if_pos hc]), h4, hra, hS.join hsa⟩
      clear hra hsa hS h4 hx0 hx1 hx2 hx3 hx4
      go_wp2_with fail
      go_loopg [36] M.length (fun m s36 wr => ∃ k : Nat, k + m = M.length ∧ s36 = .int .i64 (k : Int) ∧ ∃ (sa at_ : List Int) (ca c4 : HL), Hid (InvM s mx M k sa at_ ∧ RowC 3 1 (.slice (some ⟨g4, 0, none⟩) s.length cap4) s.length (iv sa) c4 ∧ RowC 3 1 (.slice (some ⟨ga, 0, none⟩) (mx + 2) capa) (mx + 2) (iv at_) ca ∧ St B w0 wr (ca :: obj :: c1 :: c2 :: c3 :: c4 :: F)))
      case atStart => exact ⟨0, by omega, rfl, _, _, _, _, HQ⟩
      case round =>
        clear HQ
        obtain ⟨k, hk, rfl, sa, at_, ca, c4, HQ⟩ := hrel
        have hS := HQ.out.2.2.2
        have h4 := HQ.out.2.1
        have ha := HQ.out.2.2.1
        obtain ⟨hx0, hx1, hx2, hx3, hx4⟩ := HO.out _ _ hS.tl
        cases gk with
        | zero =>
          obtain rfl : k = M.length := by omega
          clear hk ha
          have hS2 := hS.tl
          have HIM := Lib.hid HQ.out.1
          clear HQ hS
          go_wp2_with fail
          refine (clonei_any _ _ _ _ (H123.out.2.1.rd hS2 2 rfl) (by omega)).mono ?_
          rintro e w2 ⟨vb, cb, rfl, hrb, hsb⟩
          obtain ⟨gb, capb, curb, rfl, _⟩ := hrb.form (by omega)
          have hS := hS2.join hsb
          replace hS : St B w0 w2 (cb :: obj :: c1 :: c2 :: c3 :: c4 :: F) := hS
          obtain ⟨hi1, hi2⟩ := InvL.init HIM.out iok HMX.out in1 (mkI_length (fun c => (gB s c : Int)) (mx + 2)) (fun c hc => mkI_get _ _ _ (by omega))
          have HI2 := Lib.hid hi2
          clear hS2 hsb hi2 hx0 hx1 hx2 hx3 hx4
          obtain ⟨q, hq⟩ : ∃ q, s.length = q + 1 := ⟨s.length - 1, by omega⟩
          have hqn : s.length - 1 = q := by omega
          have hqi : (s.length : Int) - 1 = (q : Int) := by omega
          rw [hqn] at hi1
          have hqc : ch s q ≤ mx := HMX.out _ (ch_mem s q (by omega))
          have hql : q < s.length := by omega
          have HQN := Lib.hid (And.intro hqn hqi)
          have hqs : (q : Int) ≤ 1000000 := by omega
          obtain ⟨hx0, hx1, hx2, hx3, hx4⟩ := HO.out _ _ hS.tl
          have hct := HTX.out w2 c4 hS.tl q hql
          have hgb : (mkI (fun c => (gB s c : Int)) (mx + 2))[ch s q]? = some (gB s (ch s q) : Int) := mkI_get _ _ _ (by omega)
          have hla := hrb.cellAt hS 0 rfl (iv_get _ _ _ hgb)
          obtain ⟨z, hz⟩ : ∃ z, sa[gB s (ch s q)]? = some z := ⟨_, List.getElem?_eq_getElem (by rw [HIM.out.len]; exact hi1)⟩
          have hl4 := h4.cellAt hS 5 rfl (iv_get _ _ z hz)
          have hf4 := h4.freeAt hS 5 rfl (gB s (ch s q))
          have HGB := Lib.hid hgb
          have hgi : (gB s (ch s q) : Int) ≤ 1000000 := by omega
          clear hgb hz hqn hq
          go_upto_region 14 with (fail)
          go_cut [8] (fun s8 wc => s8 = .int .i64 (s.length : Int) ∧ ∃ c4', Hid (RowC 3 1 (.slice (some ⟨g4, 0, none⟩) s.length cap4) s.length (iv (sa.set (gB s (ch s q)) (q : Int))) c4' ∧ St B w0 wc (cb :: obj :: c1 :: c2 :: c3 :: c4' :: F)))
          case first =>
            go_wp2_with (first | ((with_reducible refine wpStill_plain ?_ ?_ (fun _ _ => ?_)); rfl; rfl) | (with_reducible refine wpStill_nil ?_) | ((with_reducible refine wp_draw_tail (id := 14) 18 mixed ?_ (fun _ hK => ?_)); kernel_rfl; simp only [List.take_succ_cons, List.take_zero, List.drop_succ_cons, List.drop_zero] at hK ⊢))
            go_meet
            case rel =>
              obtain ⟨c4', h4', hS'⟩ := h4.store hS.drew 5 rfl rfl (gB s (ch s q)) (.int .i64 (q : Int))
              exact ⟨rfl, c4', Lib.hid ⟨by rw [← iv_set]; exact h4', hS'⟩⟩
          case rest =>
            obtain ⟨rfl, c4', HC⟩ := hcut
            clear hS h4 hx0 hx1 hx2 hx3 hx4 hct hla hl4 hf4
            have hS := HC.out.2
            obtain ⟨hx0, hx1, hx2, hx3, hx4⟩ := HO.out _ _ hS.tl
            have hct := HTX.out wc c4' hS.tl q hql
            have hla := hrb.cellAt hS 0 rfl (iv_get _ _ _ HGB.out)
            have hfa := hrb.freeAt hS 0 rfl (ch s q)
            obtain ⟨cb', hb', hS'⟩ := hrb.store hS 0 rfl rfl (ch s q) (.int .i64 ((gB s (ch s q) : Int) + 1))
            rw [iv_set] at hb'
            have hi2 := HI2.out
            rw [HQN.out.1, HQN.out.2] at hi2
            have HL0 := Lib.hid (And.intro hi2 (And.intro HC.out.1 (And.intro hb' hS')))
            clear hi2 hb' hS' HI2 hrb
            go_wp2_with fail
            go_loopg [111] s.length (fun m s111 wr => ∃ i : Nat, i + m = s.length ∧ s111 = .int .i64 (i : Int) ∧ ∃ (sa at_ : List Int) (cb c4 : HL), Hid (InvL s mx M i sa at_ ∧ RowC 3 1 (.slice (some ⟨g4, 0, none⟩) s.length cap4) s.length (iv sa) c4 ∧ RowC 3 1 (.slice (some ⟨gb, 0, none⟩) (mx + 2) capb) (mx + 2) (iv at_) cb ∧ St B w0 wr (cb :: obj :: c1 :: c2 :: c3 :: c4 :: F)))
            case atStart => exact ⟨0, by omega, rfl, _, _, _, _, HL0⟩
            case round =>
              clear HL0 hS hx0 hx1 hx2 hx3 hx4 hct hla hfa
              obtain ⟨i, hi, rfl, sa, at_, cb, c4, HQ⟩ := hrel
              have hS := HQ.out.2.2.2
              have h4 := HQ.out.2.1
              have hb := HQ.out.2.2.1
              obtain ⟨hx0, hx1, hx2, hx3, hx4⟩ := HO.out _ _ hS.tl
              cases gk with
              | zero =>
                obtain rfl : i = s.length := by omega
                clear hi hb
                have hS2 := hS.tl
                have HIL := Lib.hid HQ.out.1
                have hG := HQ.out.1.great iok HMX.out
                have HG := Lib.hid hG
                clear HQ hS hG
                go_wp2_with fail
                refine (clonei_any _ _ _ _ (H123.out.2.1.rd hS2 2 rfl) (by omega)).mono ?_
                rintro e w3 ⟨vd, cd, rfl, hrd, hsd⟩
                obtain ⟨gd, capd, curd, rfl, _⟩ := hrd.form (by omega)
                have hS := hS2.join hsd
                replace hS : St B w0 w3 (cd :: obj :: c1 :: c2 :: c3 :: c4 :: F) := hS
                have HQ : Hid (InvS s mx sa s.length sa (mkI (fun c => (gB s c : Int)) (mx + 2)) ∧ RowC 3 1 (.slice (some ⟨g4, 0, none⟩) s.length cap4) s.length (iv sa) c4 ∧ RowC 3 1 (.slice (some ⟨gd, 0, none⟩) (mx + 2) capd) (mx + 2) (iv (mkI (fun c => (gB s c : Int)) (mx + 2))) cd ∧ St B w0 w3 (cd :: obj :: c1 :: c2 :: c3 :: c4 :: F)) :=
                  Lib.hid ⟨InvS.init HG.out HMX.out (mkI_length _ _) (fun c hc => mkI_get _ _ _ (by omega)), h4, hrd, hS⟩
                obtain ⟨sa0, hsa0⟩ : ∃ x, x = sa := ⟨_, rfl⟩
                rw [← hsa0] at HIL HG
                have HQ' : Hid (InvS s mx sa0 s.length sa (mkI (fun c => (gB s c : Int)) (mx + 2)) ∧ RowC 3 1 (.slice (some ⟨g4, 0, none⟩) s.length cap4) s.length (iv sa) c4 ∧ RowC 3 1 (.slice (some ⟨gd, 0, none⟩) (mx + 2) capd) (mx + 2) (iv (mkI (fun c => (gB s c : Int)) (mx + 2))) cd ∧ St B w0 w3 (cd :: obj :: c1 :: c2 :: c3 :: c4 :: F)) := by rw [hsa0]; exact HQ
                clear hS2 hsd hx0 hx1 hx2 hx3 hx4 h4 hS hrd HQ hsa0
                go_wp2_with fail
                go_loopg [11] s.length (fun i s11 wr => i ≤ s.length ∧ s11 = .int .i64 ((i : Int) - 1) ∧ ∃ (sa at_ : List Int) (cd c4 : HL), Hid (InvS s mx sa0 i sa at_ ∧ RowC 3 1 (.slice (some ⟨g4, 0, none⟩) s.length cap4) s.length (iv sa) c4 ∧ RowC 3 1 (.slice (some ⟨gd, 0, none⟩) (mx + 2) capd) (mx + 2) (iv at_) cd ∧ St B w0 wr (cd :: obj :: c1 :: c2 :: c3 :: c4 :: F)))
                case atStart => exact ⟨Nat.le_refl _, by rw [HQN.out.2], _, _, _, _, HQ'⟩
                case round =>
                  clear HQ'
                  obtain ⟨hin, rfl, sa, at_, cd, c4, HQ⟩ := hrel
                  have hS := HQ.out.2.2.2
                  have h4 := HQ.out.2.1
                  have hd := HQ.out.2.2.1
                  obtain ⟨hx0, hx1, hx2, hx3, hx4⟩ := HO.out _ _ hS.tl
                  cases gk with
                  | zero =>
                    go_wp2_with fail
                    go_end0
                    exact ⟨rfl, sa, c4, h4, hS.tl, ⟨sa0, _, _, HIL.out, HQ.out.1⟩⟩
                  | succ i =>
                    have e : (((i + 1 : Nat) : Int) - 1) = (i : Int) := by omega
                    rw [e]
                    clear e
                    have hlt : i < s.length := by omega
                    have hii : (i : Int) ≤ 1000000 := by omega
                    obtain ⟨y, hy⟩ : ∃ y, sa[i]? = some y := ⟨_, List.getElem?_eq_getElem (by rw [HQ.out.1.len]; exact hlt)⟩
                    have hyr := HQ.out.1.rng y (List.mem_of_getElem? hy)
                    have hl4 := h4.cellAt hS 5 rfl (iv_get _ _ y hy)
                    by_cases q1 : y < 1
                    · have hsk := HQ.out.1.skip HG.out HMX.out hlt y hy (fun h => by omega)
                      have HSK := Lib.hid hsk
                      clear hsk hy
                      go_wp2_with fail
                      go_roundg i
                      case measure => omega
                      case rel => exact ⟨by omega, by go_num, _, _, cd, c4, Lib.hid ⟨HSK.out, h4, hd, hS⟩⟩
                    · obtain ⟨P, rfl⟩ : ∃ P : Nat, y = (P : Int) + 1 := ⟨(y - 1).toNat, by omega⟩
                      have hPn : P < s.length := by omega
                      have hl1 := H123.out.1.cellAt hS 2 rfl (bl_get _ P _ (mkB_get (sm s) s.length P hPn))
                      cases hsm : sm s P with
                      | false =>
                        rw [hsm] at hl1
                        have hsk := HQ.out.1.skip HG.out HMX.out hlt _ hy (fun h => by
                          have h2 := h.2
                          rw [show ((P : Int) + 1).toNat - 1 = P from by omega, hsm] at h2
                          cases h2)
                        have HSK := Lib.hid hsk
                        clear hsk hy
                        go_wp2_with fail
                        go_roundg i
                        case measure => omega
                        case rel => exact ⟨by omega, by go_num, _, _, cd, c4, Lib.hid ⟨HSK.out, h4, hd, hS⟩⟩
                      | true =>
                        rw [hsm] at hl1
                        obtain ⟨hP1, a, hat, han, hstep⟩ := HQ.out.1.step HG.out HMX.out hy hsm
                        have hcy : ch s P ≤ mx := HMX.out _ (ch_mem s P hPn)
                        have hct := HTX.out wr c4 hS.tl P hPn
                        have hla := hd.cellAt hS 0 rfl (iv_get _ _ _ hat)
                        have hfa := hd.freeAt hS 0 rfl (ch s P + 1)
                        obtain ⟨z, hz⟩ : ∃ z, sa[a]? = some z := ⟨_, List.getElem?_eq_getElem (by rw [HQ.out.1.len]; exact han)⟩
                        have HST := Lib.hid (And.intro hstep hz)
                        have hai : (a : Int) ≤ 1000000 := by omega
                        have hci : (ch s P : Int) ≤ 1000000 := by omega
                        obtain ⟨cd', hd', hS'⟩ := hd.store hS 0 rfl rfl (ch s P + 1) (.int .i64 (a : Int))
                        rw [iv_set] at hd'
                        have hat2 : (at_.set (ch s P + 1) (a : Int))[ch s P + 1]? = some (a : Int) := List.getElem?_set_self (by rw [HQ.out.1.alen]; omega)
                        obtain ⟨ky0, ky1, ky2, ky3, ky4⟩ := HO.out _ _ hS'.tl
                        have kla := hd'.cellAt hS' 0 rfl (iv_get _ _ _ hat2)
                        have kl4 := h4.cellAt hS' 5 rfl (iv_get _ a z hz)
                        have kf4 := h4.freeAt hS' 5 rfl a
                        have HD := Lib.hid (And.intro hd' hS')
                        clear hy hstep hat hz hsm hd' hS' hat2 ky0 ky1 ky2 ky3
                        go_wp2_with (first | ((with_reducible refine wpStill_plain ?_ ?_ (fun _ _ => ?_)); rfl; rfl) | (with_reducible refine wpStill_nil ?_) | ((with_reducible refine wp_draw_tail (id := 32) 11 mixed ?_ (fun _ hK => ?_)); kernel_rfl; simp only [List.take_succ_cons, List.take_zero, List.drop_succ_cons, List.drop_zero] at hK ⊢))
                        go_roundg i
                        case measure => omega
                        case rel =>
                          obtain ⟨c4', h4', hS2⟩ := h4.store HD.out.2.drew 5 rfl rfl a (.int .i64 (P : Int))
                          exact ⟨by omega, by go_num, _, _, cd', c4', Lib.hid ⟨HST.out.1, by rw [← iv_set]; exact h4', HD.out.1, hS2⟩⟩
              | succ m =>
                have hlt : i < s.length := by omega
                obtain ⟨y, hy⟩ : ∃ y, sa[i]? = some y := ⟨_, List.getElem?_eq_getElem (by rw [HQ.out.1.len]; exact hlt)⟩
                have hyr := HQ.out.1.rng y (List.mem_of_getElem? hy)
                have hl4 := h4.cellAt hS 5 rfl (iv_get _ _ y hy)
                by_cases q1 : y < 1
                · have hsk := HQ.out.1.skip y hy (fun h => by omega)
                  have HSK := Lib.hid hsk
                  clear hsk hy
                  go_wp2_with fail
                  go_roundg m
                  case measure => omega
                  case rel => exact ⟨i + 1, by omega, by go_num, _, _, cb, c4, Lib.hid ⟨HSK.out, h4, hb, hS⟩⟩
                · obtain ⟨P, rfl⟩ : ∃ P : Nat, y = (P : Int) + 1 := ⟨(y - 1).toNat, by omega⟩
                  have hPn : P < s.length := by omega
                  have hl1 := H123.out.1.cellAt hS 2 rfl (bl_get _ P _ (mkB_get (sm s) s.length P hPn))
                  cases hsm : sm s P with
                  | true =>
                    rw [hsm] at hl1
                    have hsk := HQ.out.1.skip _ hy (fun h => by
                      have h2 := h.2
                      rw [show ((P : Int) + 1).toNat - 1 = P from by omega, hsm] at h2
                      cases h2)
                    have HSK := Lib.hid hsk
                    clear hsk hy
                    go_wp2_with fail
                    go_roundg m
                    case measure => omega
                    case rel => exact ⟨i + 1, by omega, by go_num, _, _, cb, c4, Lib.hid ⟨HSK.out, h4, hb, hS⟩⟩
                  | false =>
                    rw [hsm] at hl1
                    obtain ⟨hP1, a, hat, han, hstep⟩ := HQ.out.1.step iok HMX.out hy hsm
                    have hcy : ch s P ≤ mx := HMX.out _ (ch_mem s P hPn)
                    have hct := HTX.out wr c4 hS.tl P hPn
                    have hla := hb.cellAt hS 0 rfl (iv_get _ _ _ hat)
                    obtain ⟨z, hz⟩ : ∃ z, sa[a]? = some z := ⟨_, List.getElem?_eq_getElem (by rw [HQ.out.1.len]; exact han)⟩
                    have hl4a := h4.cellAt hS 5 rfl (iv_get _ a z hz)
                    have hf4 := h4.freeAt hS 5 rfl a
                    have HST := Lib.hid (And.intro hstep hat)
                    clear hy hstep hat hz hsm
                    go_upto_region 21 with (fail)
                    go_cut [10] (fun s10 wc => s10 = .int .i64 ((P : Int) + 1) ∧ ∃ c4', Hid (RowC 3 1 (.slice (some ⟨g4, 0, none⟩) s.length cap4) s.length (iv (sa.set a (P : Int))) c4' ∧ St B w0 wc (cb :: obj :: c1 :: c2 :: c3 :: c4' :: F)))
                    case first =>
                      go_wp2_with (first | ((with_reducible refine wpStill_plain ?_ ?_ (fun _ _ => ?_)); rfl; rfl) | (with_reducible refine wpStill_nil ?_) | ((with_reducible refine wp_draw_tail (id := 21) 18 mixed ?_ (fun _ hK => ?_)); kernel_rfl; simp only [List.take_succ_cons, List.take_zero, List.drop_succ_cons, List.drop_zero] at hK ⊢))
                      go_meet
                      case rel =>
                        obtain ⟨c4', h4', hS'⟩ := h4.store hS.drew 5 rfl rfl a (.int .i64 (P : Int))
                        exact ⟨rfl, c4', Lib.hid ⟨by rw [← iv_set]; exact h4', hS'⟩⟩
                    case rest =>
                      obtain ⟨rfl, c4', HC⟩ := hcut
                      clear hS h4 hx0 hx1 hx2 hx3 hx4 hct hla hl4 hf4 hl4a hl1
                      have hS := HC.out.2
                      obtain ⟨hx0, hx1, hx2, hx3, hx4⟩ := HO.out _ _ hS.tl
                      have hct := HTX.out wc c4' hS.tl P hPn
                      have hla := hb.cellAt hS 0 rfl (iv_get _ _ _ HST.out.2)
                      have hfa := hb.freeAt hS 0 rfl (ch s P)
                      have hai : (a : Int) ≤ 1000000 := by omega
                      go_wp2_with fail
                      go_roundg m
                      case measure => omega
                      case rel =>
                        obtain ⟨cb', hb', hS'⟩ := hb.store hS 0 rfl rfl (ch s P) (.int .i64 ((a : Int) + 1))
                        rw [iv_set] at hb'
                        exact ⟨i + 1, by omega, by go_num, _, _, cb', c4', Lib.hid ⟨HST.out.1, HC.out.1, hb', hS'⟩⟩
        | succ m =>
          have hlt : k < M.length := by omega
          obtain ⟨y, hy⟩ : ∃ y, M[k]? = some y := ⟨_, List.getElem?_eq_getElem hlt⟩
          have hyT : (tI M)[k]? = some (y : Int) := by unfold tI; rw [List.getElem?_map, hy]; rfl
          obtain ⟨adm, rfl, hcm⟩ := (HM.out wr c4 hS.tl).at (iv_get _ k _ hyT)
          have hym := (iok.mem y).1 (List.mem_of_getElem? hy)
          obtain ⟨a, hat, han, hstep⟩ := HQ.out.1.step iok HMX.out hy
          have hcy : ch s y ≤ mx := HMX.out _ (ch_mem s y hym.1)
          have hct := HTX.out wr c4 hS.tl y hym.1
          have hla := ha.cellAt hS 0 rfl (iv_get _ _ _ hat)
          obtain ⟨z, hz⟩ : ∃ z, sa[a]? = some z := ⟨_, List.getElem?_eq_getElem (by rw [HQ.out.1.len]; exact han)⟩
          have hl4 := h4.cellAt hS 5 rfl (iv_get _ a z hz)
          have hf4 := h4.freeAt hS 5 rfl a
          have HST := Lib.hid (And.intro hstep hat)
          have hyn : y < s.length := hym.1
          clear hyT hy hym hstep hat hz
          go_upto_region 9 with (fail)
          go_cut [55] (fun s55 wc => ∃ c4', Hid (RowC 3 1 (.slice (some ⟨g4, 0, none⟩) s.length cap4) s.length (iv (sa.set a (y : Int))) c4' ∧ St B w0 wc (ca :: obj :: c1 :: c2 :: c3 :: c4' :: F)))
          case first =>
            go_wp2_with (first | ((with_reducible refine wpStill_plain ?_ ?_ (fun _ _ => ?_)); rfl; rfl) | (with_reducible refine wpStill_nil ?_) | ((with_reducible refine wp_draw_tail (id := 9) 16 mixed ?_ (fun _ hK => ?_)); kernel_rfl; simp only [List.take_succ_cons, List.take_zero, List.drop_succ_cons, List.drop_zero] at hK ⊢))
            go_meet
            case rel =>
              obtain ⟨c4', h4', hS'⟩ := h4.store hS.drew 5 rfl rfl a (.int .i64 (y : Int))
              exact ⟨c4', Lib.hid ⟨by rw [← iv_set]; exact h4', hS'⟩⟩
          case rest =>
            obtain ⟨c4', HC⟩ := hcut
            clear hS h4 hx0 hx1 hx2 hx3 hx4 hct hla hl4 hf4 hcm
            have hS := HC.out.2
            obtain ⟨hx0, hx1, hx2, hx3, hx4⟩ := HO.out _ _ hS.tl
            have hct := HTX.out wc c4' hS.tl y hyn
            have hla := ha.cellAt hS 0 rfl (iv_get _ _ _ HST.out.2)
            have hfa := ha.freeAt hS 0 rfl (ch s y)
            have hai : (a : Int) ≤ 1000000 := by omega
            go_wp2_with fail
            go_roundg m
            case measure => omega
            case rel =>
              obtain ⟨ca', ha', hS'⟩ := ha.store hS 0 rfl rfl (ch s y) (.int .i64 ((a : Int) + 1))
              rw [iv_set] at ha'
              exact ⟨k + 1, by omega, by go_num, _, _, ca', c4', Lib.hid ⟨HST.out.1, HC.out.1, ha', hS'⟩⟩
    | succ m =>
      have hlt : i < s.length := by omega
      have hrl : (List.replicate i (-1 : Int) ++ A0.drop i).length = s.length := by simp; omega
      obtain ⟨y, hy⟩ : ∃ y, (List.replicate i (-1 : Int) ++ A0.drop i)[i]? = some y := ⟨_, List.getElem?_eq_getElem (by omega)⟩
      have hld := h4.cellAt hS 4 rfl (iv_get _ i y hy)
      have hfr := h4.freeAt hS 4 rfl i
      clear hrl hy
      go_wp2_with fail
      go_roundg m
      case measure => omega
      case rel =>
        obtain ⟨c4', h4', hS'⟩ := h4.store hS 4 rfl rfl i (.int .i64 (-1))
        refine ⟨i + 1, by omega, by go_num, c4', Lib.hid ⟨?_, hS'⟩⟩
        have e : (List.replicate i (-1 : Int) ++ A0.drop i).set i (-1) = List.replicate (i + 1) (-1) ++ A0.drop (i + 1) := by
          rw [List.set_append_right _ _ (by simp), List.length_replicate, Nat.sub_self, List.drop_eq_getElem_cons (by omega), List.set_cons_zero, List.replicate_succ', List.append_assoc]
          rfl
        rw [← e, ← iv_set]
        exact h4'
end
end Go.Proofs.Ythgbkncanoknkaa
/-
  Contract of the sorter's names.
-/
set_option linter.unusedVariables false
set_option linter.unusedSimpArgs false
namespace Go.Proofs.Ythgbkncanoknkaa
open Go.RowKit
set_option maxRecDepth 100000
theorem tI_set (s : List Nat) (i v : Nat) : (tI s).set i (v : Int) = tI (s.set i v) := by
  unfold tI
  rw [List.map_set]
  rfl
/-- The last mark; -1. -/
def lastI (Ms : List Nat) (t : Nat) : Int := if t = 0 then -1 else (Ms.getD (t - 1) 0 : Int)
structure NmTo (s T Ms : List Nat) (i t : Nat) (R : List Nat) : Prop where
  tk : Ms.take t = (T.take i).filter (lms s)
  tl : t ≤ Ms.length
  len : R.length = (marksP s).length
  r : ∀ (u m : Nat), u < t → Ms[u]? = some m → R[cntM s m]? = some (nmAt s Ms u)
theorem NmTo.skip {s T Ms : List Nat} {i t : Nat} {R : List Nat} (h : NmTo s T Ms i t R) (m : Nat) (hm : T[i]? = some m) (hl : lms s m = false) : NmTo s T Ms (i + 1) t R :=
  ⟨by rw [List.take_add_one, hm, List.filter_append, h.tk]; simp [hl], h.tl, h.len, h.r⟩
theorem NmTo.at {s T Ms : List Nat} (hMs : Ms = T.filter (lms s)) {i t : Nat} {R : List Nat} (h : NmTo s T Ms i t R) (m : Nat) (hm : T[i]? = some m) (hl : lms s m = true) : Ms[t]? = some m := by
  have hi := (List.getElem?_eq_some_iff.1 hm).1
  have h1 : T = T.take i ++ (m :: T.drop (i + 1)) := by
    have h2 := List.drop_eq_getElem_cons hi
    rw [(List.getElem?_eq_some_iff.1 hm).2] at h2
    rw [← h2, List.take_append_drop]
  have h3 : Ms = Ms.take t ++ (m :: (T.drop (i + 1)).filter (lms s)) := by
    rw [h.tk]
    conv => lhs; rw [hMs, h1, List.filter_append]
    simp [hl]
  have h4 : (Ms.take t).length = t := by rw [List.length_take]; have := h.tl; omega
  rw [h3, List.getElem?_append_right (by rw [h4]; exact Nat.le_refl _), h4]
  simp
theorem NmTo.step {s T Ms : List Nat} (hMs : Ms = T.filter (lms s)) (hnd : Ms.Nodup) {i t : Nat} {R : List Nat} (h : NmTo s T Ms i t R) (m : Nat) (hm : T[i]? = some m) (hl : lms s m = true) : NmTo s T Ms (i + 1) (t + 1) (R.set (cntM s m) (nmAt s Ms t)) := by
  have hat := h.at hMs m hm hl
  have hlt := (List.getElem?_eq_some_iff.1 hat).1
  refine ⟨?_, by omega, by rw [List.length_set]; exact h.len, ?_⟩
  · rw [List.take_add_one, hat, h.tk, List.take_add_one, hm, List.filter_append]
    simp [hl]
  · intro u x hu hx
    by_cases e : u = t
    · subst e
      rw [hat] at hx
      cases hx
      have h1 := (List.getElem?_eq_some_iff.1 (marksP_at s m hl)).1
      rw [List.getElem?_set_self (by rw [h.len]; exact h1)]
    · have hne : x ≠ m := by
        rintro rfl
        exact e (nodup_at hnd hx hat)
      have h1 := h.r u x (by omega) hx
      have hxl : lms s x = true := by
        have := List.mem_of_getElem? hx
        rw [hMs] at this
        exact (List.mem_filter.1 this).2
      have hc : cntM s m ≠ cntM s x := by
        intro e2
        have h5 := marksP_at s m hl
        have h6 := marksP_at s x hxl
        rw [e2] at h5
        rw [h5] at h6
        cases h6
        exact hne rfl
      rw [List.getElem?_set_ne hc]
      exact h1
theorem NmTo.init (s T Ms : List Nat) : NmTo s T Ms 0 0 (List.replicate (marksP s).length 0) := ⟨by simp, by omega, by simp, by intro u m h; omega⟩
theorem filter_perm_marks {s T : List Nat} (hT : T.Perm (List.range s.length)) : (T.filter (lms s)).Perm (marksP s) := hT.filter _
theorem NmTo.named {s T Ms : List Nat} (hMs : Ms = T.filter (lms s)) (hT : T.Perm (List.range s.length)) (hs : ∀ (i j a b : Nat), T[i]? = some a → T[j]? = some b → i < j → lexle (preK s a) (preK s b))
    {t : Nat} {R : List Nat} (h : NmTo s T Ms s.length t R) : Named s R ∧ ∀ x ∈ R, x ≤ nmAt s Ms (t - 1) := by
  have hTl : T.length = s.length := by have := hT.length_eq; simpa using this
  have hp : Ms.Perm (marksP s) := by rw [hMs]; exact filter_perm_marks hT
  have htk := h.tk
  rw [← hTl, List.take_length, ← hMs] at htk
  have ht : Ms.length ≤ t := by
    have := congrArg List.length htk
    rw [List.length_take] at this
    omega
  have htl := h.tl
  have hfind : ∀ k, k < (marksP s).length → ∃ (u m : Nat), Ms[u]? = some m ∧ cntM s m = k := by
    intro k hk
    have h1 : (marksP s)[k]? = some (marksP s)[k] := List.getElem?_eq_getElem hk
    obtain ⟨u, hu⟩ := List.mem_iff_getElem?.1 (hp.symm.subset (List.mem_of_getElem? h1))
    exact ⟨u, _, hu, (marksP_idx s k _ h1).2.2⟩
  refine ⟨named_of hp ?_ h.len ?_, ?_⟩
  · intro i j a b ha hb hij
    rw [hMs] at ha hb
    obtain ⟨i', j', h1, h2, h3⟩ := filter_order T _ i j a b ha hb hij
    exact hs i' j' a b h2 h3 h1
  · intro u k m hu hk
    have h1 := (marksP_idx s k m hk).2.2
    have h2 := h.r u m (by have := (List.getElem?_eq_some_iff.1 hu).1; omega) hu
    rw [h1] at h2
    unfold ch
    rw [List.getD_eq_getElem?_getD, h2]
    rfl
  · intro x hx
    obtain ⟨k, hk⟩ := List.mem_iff_getElem?.1 hx
    obtain ⟨u, m, hu, hc⟩ := hfind k (by rw [← h.len]; exact (List.getElem?_eq_some_iff.1 hk).1)
    have hul := (List.getElem?_eq_some_iff.1 hu).1
    have h2 := h.r u m (by omega) hu
    rw [hc, hk] at h2
    cases h2
    have := nmAt_mono s Ms u (t - 1 - u)
    rwa [show u + (t - 1 - u) = t - 1 from by omega] at this
def NamesOut (s : List Nat) (w : World) (e : Ending) (w' : World) : Prop :=
  ∃ (u : Value) (R : List Nat) (g : Nat) (c : HL), e = .returned (.tuple #[u, .int .i64 (g : Int)]) ∧ RowC 3 1 u R.length (iv (tI R)) c ∧ St w.heap.size w w' [c] ∧ Named s R ∧ (∀ x ∈ R, x ≤ g) ∧ g ≤ s.length
theorem nmAt_le (s Ms : List Nat) : ∀ t, nmAt s Ms t ≤ t
  | 0 => Nat.le_refl _
  | t + 1 => by have := nmAt_le s Ms t; rw [nmAt]; split <;> omega
set_option maxHeartbeats 4000000 in
theorem names_any (p : Nat) (s T : List Nat) (v4 : Value) (w : World) (hn : s.length ≤ 1000000) (hn1 : 1 ≤ s.length) (hT : T.Perm (List.range s.length)) (hs : ∀ (i j a b : Nat), T[i]? = some a → T[j]? = some b → i < j → lexle (preK s a) (preK s b))
    (hR : ∀ w', Below w.heap.size w w' → SoR w' p s) (hA : ∀ w', Below w.heap.size w w' → w'.cell? ⟨p, 4, none⟩ = some v4 ∧ Rd w' 1 v4 s.length (iv (tI T))) :
    Calls Try.prog 90 #[.pointer (some ⟨p, 0, none⟩)] w (NamesOut s w) := by
  obtain ⟨i0, i0a, i0b, i0c, i0d⟩ := info_parts infoInt
  have hTl : T.length = s.length := by have := hT.length_eq; simpa using this
  have hml := marksP_lt s hn1
  have hnl : (s.length : Int) ≤ 1000000 := by omega
  have hmi : ((marksP s).length : Int) ≤ 1000000 := by omega
  have HT := Lib.hid (And.intro hT hs)
  have HR := Lib.hid hR
  have HA := Lib.hid hA
  have hS := St.init w
  obtain ⟨⟨v0, c0, r0⟩, ⟨v5, c5, r5⟩, ⟨v6, c6, r6⟩⟩ := hR w hS.below
  obtain ⟨ao5, cap5, rfl⟩ := r5.shape
  obtain ⟨ao6, cap6, rfl⟩ := r6.shape
  obtain ⟨ao4, cap4, rfl⟩ := (hA w hS.below).2.shape
  have HTl := Lib.hid hTl
  clear hT hs hR hA r0 r5 r6 c0 hTl
  go_enter Try.func90, Try.ntmps90
  have c4 := (HA.out w hS.below).1
  go_wp2_with fail
  go_step3
  go_wp2_with (at_make; (refine wpList_mk (n := (marksP s).length) 80 i0 (.int .i64 0) _ _ rfl rfl _ _ _ _ rfl rfl Try.underlying80 i0a i0b i0c i0d rfl ?_ ?_ ?_ ?_ hS ?_); omega; omega; omega; (unfold maxLen; omega); intro g cl w1 hr hS1)
  have HQ : Hid (RowC 3 1 (.slice (some ⟨g, 0, none⟩) (marksP s).length (marksP s).length) (marksP s).length (iv (tI (List.replicate (marksP s).length 0))) cl ∧ St w.heap.size w w1 [cl] ∧ NmTo s T (T.filter (lms s)) 0 0 (List.replicate (marksP s).length 0)) :=
    Lib.hid ⟨by rw [show tI (List.replicate (marksP s).length 0) = List.replicate (marksP s).length 0 from by simp [tI], iv_replicate]; exact hr, hS1, NmTo.init _ _ _⟩
  have c4 := (HA.out w1 hS1.below).1
  clear hr hS hS1
  go_step3
  go_wp2_with fail
  clear c4 c5 c6
  go_loopg [5, 6, 20] s.length (fun m s5 s6 s20 wr => ∃ i : Nat, i + m = s.length ∧ s20 = .int .i64 (i : Int) ∧ ∃ (t : Nat) (R : List Nat) (cl : HL), t ≤ i ∧ s5 = .int .i64 (nmAt s (T.filter (lms s)) (t - 1) : Int) ∧ s6 = .int .i64 (lastI (T.filter (lms s)) t) ∧
    Hid (RowC 3 1 (.slice (some ⟨g, 0, none⟩) (marksP s).length (marksP s).length) (marksP s).length (iv (tI R)) cl ∧ St w.heap.size w wr [cl] ∧ NmTo s T (T.filter (lms s)) i t R))
  case atStart => exact ⟨0, by omega, rfl, 0, _, _, by omega, rfl, rfl, HQ⟩
  case round =>
    clear HQ
    obtain ⟨i, hi, rfl, t, R, cl, hti, rfl, rfl, HQ⟩ := hrel
    have hS := HQ.out.2.1
    have hr := HQ.out.1
    have hb := hS.below
    cases gk with
    | zero =>
      obtain rfl : i = s.length := by omega
      have hnm := HQ.out.2.2.named rfl HT.out.1 HT.out.2
      have hrl := HQ.out.2.2.len
      have HN := Lib.hid (And.intro hnm hrl)
      clear hnm hrl hi
      go_wp2_with fail
      (try rw [Exit.noGoto_ret])
      go_ret2
      exact ⟨_, R, _, cl, rfl, by rw [HN.out.2]; exact hr, hS, HN.out.1.1, HN.out.1.2, by have := nmAt_le s (T.filter (lms s)) (t - 1); omega⟩
    | succ m =>
      have hlt : i < s.length := by omega
      obtain ⟨y, hy⟩ : ∃ y, T[i]? = some y := ⟨_, List.getElem?_eq_getElem (by rw [HTl.out]; exact hlt)⟩
      have hyn : y < s.length := by have := HT.out.1.subset (List.mem_of_getElem? hy); simpa using this
      have hyT : (tI T)[i]? = some (y : Int) := by unfold tI; rw [List.getElem?_map, hy]; rfl
      obtain ⟨k4, r4⟩ := HA.out wr hb
      obtain ⟨ad4, rfl, hc4⟩ := r4.at (iv_get _ i _ hyT)
      obtain ⟨_, _, ⟨v6', k6, r6⟩⟩ := HR.out wr hb
      obtain ⟨ao6', cap6', rfl⟩ := r6.shape
      obtain ⟨ad6, rfl, hc6⟩ := r6.at (iv_get _ y _ (mkI_get (numP s) (s.length + 1) y (by omega)))
      have hym : (y : Int) < s.length + 1 := by omega
      have HY := Lib.hid hy
      clear hyT hy r4 r6
      cases hl : lms s y with
      | false =>
        have hnp : numP s y = -1 := by unfold numP; rw [hl]; rfl
        rw [hnp] at hc6
        have HSK := Lib.hid (HQ.out.2.2.skip y HY.out hl)
        clear hnp hl
        go_wp2_with fail
        go_roundg m
        case measure => omega
        case rel => exact ⟨i + 1, by omega, by go_num, t, R, cl, by omega, rfl, rfl, Lib.hid ⟨hr, hS, HSK.out⟩⟩
      | true =>
        have hnp : numP s y = (cntM s y : Int) := by unfold numP; rw [hl]; rfl
        rw [hnp] at hc6
        have hat := HQ.out.2.2.at rfl y HY.out hl
        have hnd : (T.filter (lms s)).Nodup := (List.Perm.nodup_iff (filter_perm_marks HT.out.1)).2 (marksP_ok s).nd
        have hst := HQ.out.2.2.step rfl hnd y HY.out hl
        have hkl := (List.getElem?_eq_some_iff.1 (marksP_at s y hl)).1
        have hRl := HQ.out.2.2.len
        obtain ⟨z, hz⟩ : ∃ z, (tI R)[cntM s y]? = some z := ⟨_, List.getElem?_eq_getElem (by rw [tI_length]; omega)⟩
        have hlr := hr.cellAt hS 0 rfl (iv_get _ _ z hz)
        have hfr := hr.freeAt hS 0 rfl (cntM s y)
        have hni := nmAt_le s (T.filter (lms s)) (t - 1)
        have hnb : (nmAt s (T.filter (lms s)) (t - 1) : Int) ≤ 1000000 := by omega
        have hlen : (marksP s).length ≤ s.length := by omega
        have hci : ((cntM s y : Nat) : Int) < ((marksP s).length : Int) := by omega
        have HST := Lib.hid (And.intro hst hat)
        have hlast : lastI (T.filter (lms s)) (t + 1) = (y : Int) := by
          unfold lastI
          rw [if_neg (by omega), Nat.add_sub_cancel, List.getD_eq_getElem?_getD, hat]
          rfl
        have HLA := Lib.hid hlast
        clear hnp hst hat hz hlast hRl
        by_cases ht : t = 0
        · subst ht
          have q1 : lastI (T.filter (lms s)) 0 = -1 := rfl
          rw [q1]
          have HST2 : NmTo s T (T.filter (lms s)) (i + 1) 1 (R.set (cntM s y) 0) := HST.out.1
          have HST3 := Lib.hid HST2
          clear HST2 q1
          rw [show nmAt s (T.filter (lms s)) (0 - 1) = 0 from rfl]
          go_wp2_with fail
          go_roundg m
          case measure => omega
          case rel =>
            obtain ⟨c', hr', hS'⟩ := hr.store hS 0 rfl rfl (cntM s y) (.int .i64 0)
            rw [iv_set, show ((0 : Int)) = ((0 : Nat) : Int) from rfl, tI_set] at hr'
            exact ⟨i + 1, by omega, by go_num, 1, _, c', by omega, rfl, by rw [HLA.out], Lib.hid ⟨hr', hS', HST3.out⟩⟩
        · obtain ⟨x, hx⟩ : ∃ x, (T.filter (lms s))[t - 1]? = some x := ⟨_, List.getElem?_eq_getElem (by have := HQ.out.2.2.tl; omega)⟩
          have hxl : lms s x = true := (List.mem_filter.1 (List.mem_of_getElem? hx)).2
          have hxy : x ≠ y := by
            rintro rfl
            have := nodup_at hnd hx HST.out.2
            omega
          have q1 : lastI (T.filter (lms s)) t = (x : Int) := by
            unfold lastI
            rw [if_neg ht, List.getD_eq_getElem?_getD, hx]
            rfl
          rw [q1]
          have hnm : nmAt s (T.filter (lms s)) t = nmAt s (T.filter (lms s)) (t - 1) + (if preK s x = preK s y then 0 else 1) := by
            obtain ⟨t', rfl⟩ : ∃ t', t = t' + 1 := ⟨t - 1, by omega⟩
            rw [nmAt, Nat.add_sub_cancel]
            rw [Nat.add_sub_cancel] at hx
            rw [List.getD_eq_getElem?_getD, hx, List.getD_eq_getElem?_getD, HST.out.2]
            rfl
          have HNM := Lib.hid hnm
          have hx0 : (0 : Int) ≤ (x : Int) := by omega
          clear q1 hnm hx hnd
          have hxs : x < s.length := by have := lms_lt hxl; omega
          go_wp2_with fail
          refine (same_any p s x y wr (HR.out wr hb) hn hxl hl hxy).mono ?_
          rintro e w6 ⟨rfl, hd⟩
          obtain ⟨nd, rfl⟩ := hd.out
          have hS6 := hS.drewN nd
          have HS6 := Lib.hid hS6
          clear hS6 hd
          by_cases he : preK s x = preK s y
          · rw [show decide (preK s x = preK s y) = true from by simp [he]]
            have HNM2 : Hid (nmAt s (T.filter (lms s)) t = nmAt s (T.filter (lms s)) (t - 1)) := Lib.hid (by rw [HNM.out, if_pos he]; rfl)
            clear he
            go_wp2_with fail
            go_roundg m
            case measure => omega
            case rel =>
              obtain ⟨c', hr', hS'⟩ := hr.store HS6.out 0 rfl rfl (cntM s y) (.int .i64 (nmAt s (T.filter (lms s)) (t - 1) : Int))
              rw [iv_set, tI_set, ← HNM2.out] at hr'
              refine ⟨i + 1, by omega, by go_num, t + 1, _, c', by omega, by rw [Nat.add_sub_cancel, HNM2.out], by rw [HLA.out], Lib.hid ⟨hr', ?_, HST.out.1⟩⟩
              rw [← HNM2.out] at hS'
              rw [← HNM2.out]
              exact hS'
          · rw [show decide (preK s x = preK s y) = false from by simp [he]]
            have HNM2 : Hid (nmAt s (T.filter (lms s)) t = nmAt s (T.filter (lms s)) (t - 1) + 1) := Lib.hid (by rw [HNM.out, if_neg he])
            clear he
            go_wp2_with fail
            go_roundg m
            case measure => omega
            case rel =>
              have e1 : (nmAt s (T.filter (lms s)) (t - 1) : Int) + 1 = (nmAt s (T.filter (lms s)) t : Int) := by rw [HNM2.out]; simp
              rw [e1]
              obtain ⟨c', hr', hS'⟩ := hr.store HS6.out 0 rfl rfl (cntM s y) (.int .i64 (nmAt s (T.filter (lms s)) t : Int))
              rw [iv_set, tI_set] at hr'
              exact ⟨i + 1, by omega, by go_num, t + 1, _, c', by omega, by rw [Nat.add_sub_cancel], by rw [HLA.out], Lib.hid ⟨hr', hS', HST.out.1⟩⟩
end Go.Proofs.Ythgbkncanoknkaa
/-
  Contract of suffix.prepare.
-/
set_option linter.unusedVariables false
set_option linter.unusedSimpArgs false
namespace Go.Proofs.Ythgbkncanoknkaa
open Go.RowKit
set_option maxRecDepth 100000
theorem infoB : (Try.prog.info? 4).map (fun i => (i.zero, i.size, i.bytes)) = some (some (.bool false), 1, 1) := by kernel_rfl
theorem wp_build6 {P : Program} {o : Oper} {a : Act} {w : World} {K : Act → World → Prop} {Q : Exit → Act → World → Prop} (t : TypeId) (i1 i2 i3 i4 i5 i6 : Nat) (x1 x2 x3 x4 x5 x6 : Operand) (ho : o.op = .build t #[(i1, x1), (i2, x2), (i3, x3), (i4, x4), (i5, x5), (i6, x6)]) (v1 v2 v3 v4 v5 v6 : Value)
    (h1 : a.eval x1 = v1) (h2 : a.eval x2 = v2) (h3 : a.eval x3 = v3) (h4 : a.eval x4 = v4) (h5 : a.eval x5 = v5) (h6 : a.eval x6 = v6) (cells : Array Value)
    (hb : P.built t [(i1, v1), (i2, v2), (i3, v3), (i4, v4), (i5, v5), (i6, v6)] = some cells) (h : K (a.put o.dst (.agg cells)) w) : o.wp P a w K Q := by
  subst h1 h2 h3 h4 h5 h6
  refine wp_build t _ ho ?_ ?_
  · simp [hb]
  · simpa [hb] using h
theorem built_sorter (a1 a2 a3 a4 a5 a6 : Option Addr) (n1 n2 n3 n4 n5 n6 k1 k2 k3 k4 k5 k6 : Nat) : Try.prog.built 137 [(0, .slice a1 n1 k1), (1, .slice a2 n2 k2), (2, .slice a3 n3 k3), (3, .slice a4 n4 k4), (4, .slice a5 n5 k5), (6, .slice a6 n6 k6)] = some #[.slice a1 n1 k1, .slice a2 n2 k2, .slice a3 n3 k3, .slice a4 n4 k4, .slice a5 n5 k5, .slice none 0 0, .slice a6 n6 k6] := by kernel_rfl
/-- How many small ones, great ones of a number there are among the first places. -/
def cS (s : List Nat) (i c : Nat) : Nat := ((List.range i).filter fun j => ch s j == c && sm s j).length
def cL (s : List Nat) (i c : Nat) : Nat := ((List.range i).filter fun j => ch s j == c && !sm s j).length
theorem cS_succ (s : List Nat) (i c : Nat) : cS s (i + 1) c = cS s i c + (if ch s i = c ∧ sm s i = true then 1 else 0) := by
  unfold cS
  rw [List.range_succ, List.filter_append, List.length_append]
  congr 1
  by_cases h : ch s i = c <;> cases h2 : sm s i <;> simp [h, h2]
theorem cL_succ (s : List Nat) (i c : Nat) : cL s (i + 1) c = cL s i c + (if ch s i = c ∧ sm s i = false then 1 else 0) := by
  unfold cL
  rw [List.range_succ, List.filter_append, List.length_append]
  congr 1
  by_cases h : ch s i = c <;> cases h2 : sm s i <;> simp [h, h2]
theorem cS_le (s : List Nat) (i c : Nat) : cS s i c ≤ i := by unfold cS; have := List.length_filter_le (fun j => ch s j == c && sm s j) (List.range i); simpa using this
theorem cL_le (s : List Nat) (i c : Nat) : cL s i c ≤ i := by unfold cL; have := List.length_filter_le (fun j => ch s j == c && !sm s j) (List.range i); simpa using this
theorem cS_all (s : List Nat) (c : Nat) : cS s s.length c = (Spos s c).length := rfl
theorem cL_all (s : List Nat) (c : Nat) : cL s s.length c = (Lpos s c).length := rfl
theorem Lpos_far (s : List Nat) (mx c : Nat) (h : ∀ x ∈ s, x ≤ mx) (hc : mx < c) : (Lpos s c).length = 0 := by
  cases hl : Lpos s c with
  | nil => rfl
  | cons a l =>
    have h1 := (mem_Lpos s c a).1 (by rw [hl]; simp)
    have := h _ (ch_mem s a h1.1)
    omega
theorem gB_le (s : List Nat) (mx : Nat) (h : ∀ x ∈ s, x ≤ mx) (c : Nat) (hc : c ≤ mx + 1) : gB s c ≤ s.length := by
  rw [← gB_total s mx h]
  exact gB_mono s hc
/-- What great and little hold while they are summed. -/
def gTo (s : List Nat) (c j : Nat) : Int := if j ≤ c then (gB s j : Int) else ((Spos s (j - 1)).length : Int)
def lTo (s : List Nat) (c j : Nat) : Int := if j < c then (lB s j : Int) else ((Lpos s j).length : Int)
def PrepOut (s : List Nat) (mx : Nat) (sv : Value) (w : World) (e : Ending) (w' : World) : Prop :=
  ∃ (p : Nat) (v1 v2 v3 v4 v5 v6 : Value) (c1 c2 c3 c4 c5 c6 : HL), e = .returned (.pointer (some ⟨p, 0, none⟩)) ∧ RowC 4 1 v1 s.length (bl (mkB (sm s) s.length)) c1 ∧ RowC 3 1 v2 (mx + 2) (iv (mkI (fun c => (gB s c : Int)) (mx + 2))) c2 ∧ RowC 3 1 v3 (mx + 2) (iv (mkI (litP s mx) (mx + 2))) c3 ∧
    RowC 3 1 v4 s.length (iv (List.replicate s.length 0)) c4 ∧ RowC 3 1 v5 (marksP s).length (iv (tI (marksP s))) c5 ∧ RowC 3 1 v6 (s.length + 1) (iv (mkI (numP s) (s.length + 1))) c6 ∧ St w.heap.size w w' [soB p sv v1 v2 v3 v4 v5 v6, c1, c2, c3, c4, c5, c6]
set_option maxHeartbeats 8000000 in
theorem prepare_any (s : List Nat) (mx : Nat) (sv : Value) (w : World) (hn1 : 1 ≤ s.length) (hn : s.length ≤ 1000000) (hm : mx ≤ 1000000) (hmx : ∀ x ∈ s, x ≤ mx) (hT : Rd w 1 sv s.length (iv (tI s))) :
    Calls Try.prog 88 #[sv, .int .i64 (mx : Int)] w (PrepOut s mx sv w) := by
  obtain ⟨i0, i0a, i0b, i0c, i0d⟩ := info_parts infoInt
  obtain ⟨j0, j0a, j0b, j0c, j0d⟩ := info_parts infoB
  obtain ⟨ao, cap, rfl⟩ := hT.shape
  have hnl : (s.length : Int) ≤ 1000000 := by omega
  have hml : (mx : Int) ≤ 1000000 := by omega
  have hw1 : IntKind.i64.wrap ((mx : Int) + 2) = (mx : Int) + 2 := IntWalk.i64_in _ (by omega)
  have hw2 : IntKind.i64.wrap ((s.length : Int) + 1) = (s.length : Int) + 1 := IntWalk.i64_in _ (by omega)
  have hS := (St.init w).drew
  have HMX := Lib.hid hmx
  clear hmx
  go_enter Try.func88, Try.ntmps88
  go_wp2_with fail
  go_upto_region 2 with (fail)
  go_cut [6] (fun s6 wc => ∃ (p g1 g2 g3 g4 g6 k1 k2 k3 k4 k6 : Nat) (c1 c2 c3 c4 c6 : HL), s6 = .pointer (some ⟨p, 0, none⟩) ∧ Hid (RowC 4 1 (.slice (some ⟨g1, 0, none⟩) s.length k1) s.length (bl (mkB (fun j => decide (s.length - 1 ≤ j) && sm s j) s.length)) c1 ∧ RowC 3 1 (.slice (some ⟨g2, 0, none⟩) (mx + 2) k2) (mx + 2) (iv (mkI (fun c => if c = 0 then 0 else (cS s 0 (c - 1) : Int)) (mx + 2))) c2 ∧ RowC 3 1 (.slice (some ⟨g3, 0, none⟩) (mx + 2) k3) (mx + 2) (iv (mkI (fun c => (cL s 0 c : Int)) (mx + 2))) c3 ∧ RowC 3 1 (.slice (some ⟨g4, 0, none⟩) s.length k4) s.length (iv (List.replicate s.length 0)) c4 ∧ RowC 3 1 (.slice (some ⟨g6, 0, none⟩) (s.length + 1) k6) (s.length + 1) (iv (mkI (fun _ => 0) (s.length + 1))) c6 ∧ St w.heap.size w wc [soB p (.slice ao s.length cap) (.slice (some ⟨g1, 0, none⟩) s.length k1) (.slice (some ⟨g2, 0, none⟩) (mx + 2) k2) (.slice (some ⟨g3, 0, none⟩) (mx + 2) k3) (.slice (some ⟨g4, 0, none⟩) s.length k4) (.slice none 0 0) (.slice (some ⟨g6, 0, none⟩) (s.length + 1) k6), c1, c2, c3, c4, [], c6]))
  case first =>
    refine wp_region_held_drew (S := fun _ => True) mixed trivial (fun _ => ?_)
    refine take_d (i := 0) 15 (.slice ao s.length cap) rfl rfl (by kernel_rfl) (by kernel_rfl) (by kernel_rfl) (fun _ _ _ h => h) (Or.inl ⟨by rfl, ?_⟩) trivial ?_
    (focus (intro w' _; go_simp; done))
    simp only [Act.put, List.setIfInBounds_toArray, List.set_cons_zero, List.set_cons_succ]
    refine take_d (i := 1) 16 (.int .i64 (s.length : Int)) rfl rfl (by kernel_rfl) (by kernel_rfl) (by kernel_rfl) (fun _ _ _ h => h) (Or.inl ⟨by rfl, ?_⟩) trivial ?_
    (focus (intro w' _; go_simp; done))
    simp only [Act.put, List.setIfInBounds_toArray, List.set_cons_zero, List.set_cons_succ]
    refine take_d (i := 3) 18 (.int .i64 (mx : Int)) rfl rfl (by kernel_rfl) (by kernel_rfl) (by kernel_rfl) (fun _ _ _ h => h) (Or.inl ⟨by rfl, ?_⟩) trivial ?_
    (focus (intro w' _; go_simp; done))
    simp only [Act.put, List.setIfInBounds_toArray, List.set_cons_zero, List.set_cons_succ]
    refine take_d (i := 4) 19 (.int .i64 ((mx : Int) + 2)) rfl rfl (by kernel_rfl) (by kernel_rfl) (by kernel_rfl) (fun _ _ _ h => h) (Or.inl ⟨by rfl, ?_⟩) trivial ?_
    (focus (intro w' _; go_simp; done))
    simp only [Act.put, List.setIfInBounds_toArray, List.set_cons_zero, List.set_cons_succ]
    refine take_d (i := 6) 21 (.int .i64 (mx : Int)) rfl rfl (by kernel_rfl) (by kernel_rfl) (by kernel_rfl) (fun _ _ _ h => h) (Or.inl ⟨by rfl, ?_⟩) trivial ?_
    (focus (intro w' _; go_simp; done))
    simp only [Act.put, List.setIfInBounds_toArray, List.set_cons_zero, List.set_cons_succ]
    refine take_d (i := 7) 22 (.int .i64 ((mx : Int) + 2)) rfl rfl (by kernel_rfl) (by kernel_rfl) (by kernel_rfl) (fun _ _ _ h => h) (Or.inl ⟨by rfl, ?_⟩) trivial ?_
    (focus (intro w' _; go_simp; done))
    simp only [Act.put, List.setIfInBounds_toArray, List.set_cons_zero, List.set_cons_succ]
    refine take_d (i := 9) 24 (.int .i64 (s.length : Int)) rfl rfl (by kernel_rfl) (by kernel_rfl) (by kernel_rfl) (fun _ _ _ h => h) (Or.inl ⟨by rfl, ?_⟩) trivial ?_
    (focus (intro w' _; go_simp; done))
    simp only [Act.put, List.setIfInBounds_toArray, List.set_cons_zero, List.set_cons_succ]
    refine take_d (i := 11) 26 (.int .i64 (s.length : Int)) rfl rfl (by kernel_rfl) (by kernel_rfl) (by kernel_rfl) (fun _ _ _ h => h) (Or.inl ⟨by rfl, ?_⟩) trivial ?_
    (focus (intro w' _; go_simp; done))
    simp only [Act.put, List.setIfInBounds_toArray, List.set_cons_zero, List.set_cons_succ]
    refine take_d (i := 12) 27 (.int .i64 ((s.length : Int) + 1)) rfl rfl (by kernel_rfl) (by kernel_rfl) (by kernel_rfl) (fun _ _ _ h => h) (Or.inl ⟨by rfl, ?_⟩) trivial ?_
    (focus (intro w' _; go_simp; done))
    simp only [Act.put, List.setIfInBounds_toArray, List.set_cons_zero, List.set_cons_succ]
    refine makes5g (L := []) 2 5 8 10 13 17 20 23 25 28 (T1 := 4) (T2 := 3) (T3 := 3) (T4 := 3) (T5 := 3) (n1 := s.length) (n2 := mx + 2) (n3 := mx + 2) (n4 := s.length) (n5 := s.length + 1) (z1 := .bool false) (z2 := .int .i64 0) (z3 := .int .i64 0) (z4 := .int .i64 0) (z5 := .int .i64 0) 3 (by decide) (by decide) (y1 := undef) (y2 := undef) (y3 := undef) (y4 := undef) (y5 := undef) (by kernel_rfl) (by kernel_rfl) (by kernel_rfl) (by kernel_rfl) (by kernel_rfl) (by kernel_rfl) (by kernel_rfl) (by kernel_rfl) (by kernel_rfl) (by kernel_rfl) ?_ ?_ ?_ ?_ ?_ ?_ hS ?_
    · intro x1 x2 x3 x4 x5
      exact ⟨⟨_, 135, j0, .tmp 16, .tmp 16, .i64, .i64, rfl, rfl, rfl, rfl, by kernel_rfl, by kernel_rfl, Try.underlying135, j0a, j0b, j0c, by rw [j0d]; omega⟩, by unfold maxLen; omega, rfl⟩
    · intro x1 x2 x3 x4 x5
      exact ⟨⟨_, 80, i0, .tmp 19, .tmp 19, .i64, .i64, rfl, rfl, rfl, rfl, by kernel_rfl, by kernel_rfl, Try.underlying80, i0a, i0b, i0c, by rw [i0d]; omega⟩, by unfold maxLen; omega, rfl⟩
    · intro x1 x2 x3 x4 x5
      exact ⟨⟨_, 80, i0, .tmp 22, .tmp 22, .i64, .i64, rfl, rfl, rfl, rfl, by kernel_rfl, by kernel_rfl, Try.underlying80, i0a, i0b, i0c, by rw [i0d]; omega⟩, by unfold maxLen; omega, rfl⟩
    · intro x1 x2 x3 x4 x5
      exact ⟨⟨_, 80, i0, .tmp 24, .tmp 24, .i64, .i64, rfl, rfl, rfl, rfl, by kernel_rfl, by kernel_rfl, Try.underlying80, i0a, i0b, i0c, by rw [i0d]; omega⟩, by unfold maxLen; omega, rfl⟩
    · intro x1 x2 x3 x4 x5
      exact ⟨⟨_, 80, i0, .tmp 27, .tmp 27, .i64, .i64, rfl, rfl, rfl, rfl, by kernel_rfl, by kernel_rfl, Try.underlying80, i0a, i0b, i0c, by rw [i0d]; omega⟩, by unfold maxLen; omega, rfl⟩
    · intro b1 b2 b3 b4 b5 h
      cases b1 <;> cases b2 <;> cases b3 <;> cases b4 <;> cases b5 <;> first | exact absurd h (by decide) | kernel_rfl
    · intro x1 x2 x3 x4 x5 c1 c2 c3 c4 c5 w' h1 h2 h3 h4 h5 hS'
      obtain ⟨g1, k1, _, rfl, _⟩ := h1.form (by omega)
      obtain ⟨g2, k2, _, rfl, _⟩ := h2.form (by omega)
      obtain ⟨g3, k3, _, rfl, _⟩ := h3.form (by omega)
      obtain ⟨g4, k4, _, rfl, _⟩ := h4.form (by omega)
      obtain ⟨g6, k6, _, rfl, _⟩ := h5.form (by omega)
      simp only [putA, setL, Act.put, List.setIfInBounds_toArray, List.set_cons_zero, List.set_cons_succ]
      refine wpAnyH_ready (rs := [14]) (by kernel_rfl) (by simp) (AllReadyH.cons rfl (fun K1 hK1 => ?_) AllReadyH.nil)
      rw [if_pos (by rfl)]
      refine wp_build6 _ _ _ _ _ _ _ _ _ _ _ _ _ rfl _ _ _ _ _ _ rfl rfl rfl rfl rfl rfl _ (built_sorter _ _ _ _ _ _ _ _ _ _ _ _ _ _ _ _ _ _) ?_
      refine hK1.out _ _ trivial (fun _ => ?_)
      refine wpAnyH_ready (rs := [15]) (by kernel_rfl) (by simp) (AllReadyH.cons rfl (fun K2 hK2 => ?_) AllReadyH.nil)
      rw [if_pos (by rfl)]
      go_simp
      refine hK2.out _ _ trivial (fun _ => ?_)
      refine wpAnyH_ready (rs := [16]) (by kernel_rfl) (by simp) (AllReadyH.cons rfl (fun K3 hK3 => ?_) AllReadyH.nil)
      rw [if_pos (by rfl)]
      go_simp
      refine hK3.out _ _ trivial (fun _ => ?_)
      refine wpAnyH_done (by kernel_rfl) ?_ _
      have hS8 := ((hS'.alloc (.cells #[.slice ao s.length cap, .slice (some ⟨g1, 0, none⟩) s.length k1, .slice (some ⟨g2, 0, none⟩) (mx + 2) k2, .slice (some ⟨g3, 0, none⟩) (mx + 2) k3, .slice (some ⟨g4, 0, none⟩) s.length k4, .slice none 0 0, .slice (some ⟨g6, 0, none⟩) (s.length + 1) k6] 137)).one_nil).pick [1, 2, 3, 4, 5, 0, 6] (by decide) [soB w'.heap.size (.slice ao s.length cap) (.slice (some ⟨g1, 0, none⟩) s.length k1) (.slice (some ⟨g2, 0, none⟩) (mx + 2) k2) (.slice (some ⟨g3, 0, none⟩) (mx + 2) k3) (.slice (some ⟨g4, 0, none⟩) s.length k4) (.slice none 0 0) (.slice (some ⟨g6, 0, none⟩) (s.length + 1) k6), c1, c2, c3, c4, [], c5] rfl
      have e1 : bl (mkB (fun j => decide (s.length - 1 ≤ j) && sm s j) s.length) = List.replicate s.length (.bool false) := by
        rw [mkB_congr _ (fun _ => false) _ (fun j hj => by
          by_cases h : s.length - 1 ≤ j
          · rw [sm_last s j (by omega)]; simp
          · simp [h])]
        unfold mkB bl
        rw [List.eq_replicate_iff]
        refine ⟨by simp, ?_⟩
        intro x hx
        obtain ⟨y, hy, rfl⟩ := List.mem_map.1 hx
        obtain ⟨z, _, rfl⟩ := List.mem_map.1 hy
        rfl
      have e2 : iv (mkI (fun c => if c = 0 then 0 else (cS s 0 (c - 1) : Int)) (mx + 2)) = List.replicate (mx + 2) (.int .i64 0) := by
        rw [mkI_congr _ (fun _ => 0) _ (fun c _ => by split <;> simp [cS]), mkI_const, iv_replicate]
      have e3 : iv (mkI (fun c => (cL s 0 c : Int)) (mx + 2)) = List.replicate (mx + 2) (.int .i64 0) := by
        rw [mkI_congr _ (fun _ => 0) _ (fun c _ => by simp [cL]), mkI_const, iv_replicate]
      have HF := Lib.hid (And.intro e1 (And.intro e2 (And.intro e3 (And.intro h1 (And.intro h2 (And.intro h3 (And.intro h4 (And.intro h5 hS8))))))))
      clear e1 e2 e3 h1 h2 h3 h4 h5 hS8 hS'
      go_wp2_with fail
      go_meet
      case rel =>
        obtain ⟨e1, e2, e3, h1, h2, h3, h4, h5, hS8⟩ := HF.out
        exact ⟨_, g1, g2, g3, g4, g6, k1, k2, k3, k4, k6, c1, c2, c3, c4, c5, rfl, Lib.hid ⟨by rw [e1]; exact h1, by rw [e2]; exact h2, by rw [e3]; exact h3, by rw [iv_replicate]; exact h4, by rw [mkI_const, iv_replicate]; exact h5, hS8⟩⟩
  case rest =>
    obtain ⟨p, g1, g2, g3, g4, g6, k1, k2, k3, k4, k6, c1, c2, c3, c4, c6, rfl, HQ0⟩ := hcut
    obtain ⟨hr1, hr2, hr3, hr4, hr6, hS0⟩ := HQ0.out
    have H46 := Lib.hid (And.intro hr2 (And.intro hr3 (And.intro hr4 hr6)))
    obtain ⟨ad, rfl, _⟩ := hT.at (iv_get _ 0 _ (tI_get s 0 (by omega)))
    have HT : Hid (∀ wx, Below w.heap.size w wx → ∀ k, k < s.length → wx.cell? (ad.add k) = some (.int .i64 (ch s k : Int))) := Lib.hid fun wx hb k hk => by
      obtain ⟨ad', e, hc⟩ := (hT.keep hb).at (iv_get _ k _ (tI_get s k hk))
      cases e
      exact hc
    have HQ1 := Lib.hid (And.intro hr1 hS0)
    clear HQ0 hr1 hr2 hr3 hr4 hr6 hS0 hS
    have hn2 : (s.length : Int) - 2 = ((s.length - 1 : Nat) : Int) - 1 := by omega
    have HN2 := Lib.hid hn2
    clear hn2
    go_wp2_with fail
    go_loopg [7] (s.length - 1) (fun k s7 wr => k ≤ s.length - 1 ∧ s7 = .int .i64 ((k : Int) - 1) ∧ ∃ c1, Hid (RowC 4 1 (.slice (some ⟨g1, 0, none⟩) s.length k1) s.length (bl (mkB (fun j => decide (k ≤ j) && sm s j) s.length)) c1 ∧ St w.heap.size w wr [soB p (.slice (some ad) s.length cap) (.slice (some ⟨g1, 0, none⟩) s.length k1) (.slice (some ⟨g2, 0, none⟩) (mx + 2) k2) (.slice (some ⟨g3, 0, none⟩) (mx + 2) k3) (.slice (some ⟨g4, 0, none⟩) s.length k4) (.slice none 0 0) (.slice (some ⟨g6, 0, none⟩) (s.length + 1) k6), c1, c2, c3, c4, [], c6]))
    case atStart => exact ⟨Nat.le_refl _, by rw [← HN2.out], c1, HQ1⟩
    case round =>
      clear HQ1
      obtain ⟨hk, rfl, c1, HQ⟩ := hrel
      have hS := HQ.out.2
      have h1 := HQ.out.1
      have hx1 := hS.cell 0 rfl (List.mem_singleton.2 rfl) 1
      cases gk with
      | zero =>
        have HR1 : Hid (RowC 4 1 (.slice (some ⟨g1, 0, none⟩) s.length k1) s.length (bl (mkB (sm s) s.length)) c1) := Lib.hid (by
          have e : mkB (fun j => decide (0 ≤ j) && sm s j) s.length = mkB (sm s) s.length := mkB_congr _ _ _ fun j _ => by simp
          rw [← e]
          exact h1)
        have HS := Lib.hid hS
        clear h1 hS HQ hx1 hk
        go_wp2_with fail
        go_ways
        go_loopg [77] s.length (fun m s77 wr => ∃ i : Nat, i + m = s.length ∧ s77 = .int .i64 (i : Int) ∧ ∃ c2 c3, Hid (RowC 3 1 (.slice (some ⟨g2, 0, none⟩) (mx + 2) k2) (mx + 2) (iv (mkI (fun c => if c = 0 then 0 else (cS s i (c - 1) : Int)) (mx + 2))) c2 ∧ RowC 3 1 (.slice (some ⟨g3, 0, none⟩) (mx + 2) k3) (mx + 2) (iv (mkI (fun c => (cL s i c : Int)) (mx + 2))) c3 ∧ St w.heap.size w wr [soB p (.slice (some ad) s.length cap) (.slice (some ⟨g1, 0, none⟩) s.length k1) (.slice (some ⟨g2, 0, none⟩) (mx + 2) k2) (.slice (some ⟨g3, 0, none⟩) (mx + 2) k3) (.slice (some ⟨g4, 0, none⟩) s.length k4) (.slice none 0 0) (.slice (some ⟨g6, 0, none⟩) (s.length + 1) k6), c1, c2, c3, c4, [], c6]))
        case atStart => exact ⟨0, by omega, rfl, c2, c3, Lib.hid ⟨H46.out.1, H46.out.2.1, HS.out⟩⟩
        case round =>
          clear HS
          obtain ⟨i, hi, rfl, c2, c3, HQ⟩ := hrel
          have h2 := HQ.out.1
          have h3 := HQ.out.2.1
          have hS := HQ.out.2.2
          have h1 := HR1.out
          cases gk with
          | zero =>
            obtain rfl : i = s.length := by omega
            have hg0 : mkI (fun c => if c = 0 then 0 else (cS s s.length (c - 1) : Int)) (mx + 2) = mkI (gTo s 0) (mx + 2) := mkI_congr _ _ _ fun c _ => by
              unfold gTo
              by_cases hc : c = 0
              · subst hc; rfl
              · rw [if_neg hc, if_neg (by omega), cS_all]
            have hl0 : mkI (fun c => (cL s s.length c : Int)) (mx + 2) = mkI (lTo s 0) (mx + 2) := mkI_congr _ _ _ fun c _ => by
              unfold lTo
              rw [if_neg (by omega), cL_all]
            rw [hg0] at h2
            rw [hl0] at h3
            have HQ3 := Lib.hid (And.intro h2 (And.intro h3 hS))
            clear HQ h1 h2 h3 hS hg0 hl0 hi
            go_wp2_with fail
            go_ways
            go_loopg [111] (mx + 1) (fun m s111 wr => ∃ c : Nat, c + m = mx + 1 ∧ s111 = .int .i64 (c : Int) ∧ ∃ c2 c3, Hid (RowC 3 1 (.slice (some ⟨g2, 0, none⟩) (mx + 2) k2) (mx + 2) (iv (mkI (gTo s (c)) (mx + 2))) c2 ∧ RowC 3 1 (.slice (some ⟨g3, 0, none⟩) (mx + 2) k3) (mx + 2) (iv (mkI (lTo s (c)) (mx + 2))) c3 ∧ St w.heap.size w wr [soB p (.slice (some ad) s.length cap) (.slice (some ⟨g1, 0, none⟩) s.length k1) (.slice (some ⟨g2, 0, none⟩) (mx + 2) k2) (.slice (some ⟨g3, 0, none⟩) (mx + 2) k3) (.slice (some ⟨g4, 0, none⟩) s.length k4) (.slice none 0 0) (.slice (some ⟨g6, 0, none⟩) (s.length + 1) k6), c1, c2, c3, c4, [], c6]))
            case atStart => exact ⟨0, by omega, rfl, c2, c3, HQ3⟩
            case round =>
              clear HQ3
              obtain ⟨c, hc, rfl, c2, c3, HQ⟩ := hrel
              have h2 := HQ.out.1
              have h3 := HQ.out.2.1
              have hS := HQ.out.2.2
              cases gk with
              | zero =>
                obtain rfl : c = mx + 1 := by omega
                have hg0 : mkI (gTo s (mx + 1)) (mx + 2) = mkI (fun c => (gB s c : Int)) (mx + 2) := mkI_congr _ _ _ fun c hc => by
                  unfold gTo
                  rw [if_pos (by omega)]
                have hl0 : mkI (lTo s (mx + 1)) (mx + 2) = mkI (litP s mx) (mx + 2) := mkI_congr _ _ _ fun c hc => by
                  unfold lTo litP
                  by_cases h : c ≤ mx
                  · rw [if_pos (by omega), if_pos h]
                  · rw [if_neg (by omega), if_neg h, Lpos_far s mx c HMX.out (by omega)]
                    rfl
                rw [hg0] at h2
                rw [hl0] at h3
                have HQ4 := Lib.hid (And.intro h2 (And.intro h3 hS))
                have hx6 := hS.cell 0 rfl (List.mem_singleton.2 rfl) 6
                clear HQ h2 h3 hS hg0 hl0 hc
                go_wp2_with fail
                go_ways
                go_loopg [153] (s.length + 1) (fun m s153 wr => ∃ i : Nat, i + m = s.length + 1 ∧ s153 = .int .i64 (i : Int) ∧ ∃ c6, Hid (RowC 3 1 (.slice (some ⟨g6, 0, none⟩) (s.length + 1) k6) (s.length + 1) (iv (mkI (fun j => if j < i then -1 else 0) (s.length + 1))) c6 ∧ St w.heap.size w wr [soB p (.slice (some ad) s.length cap) (.slice (some ⟨g1, 0, none⟩) s.length k1) (.slice (some ⟨g2, 0, none⟩) (mx + 2) k2) (.slice (some ⟨g3, 0, none⟩) (mx + 2) k3) (.slice (some ⟨g4, 0, none⟩) s.length k4) (.slice none 0 0) (.slice (some ⟨g6, 0, none⟩) (s.length + 1) k6), c1, c2, c3, c4, [], c6]))
                case atStart => exact ⟨0, by omega, rfl, c6, Lib.hid ⟨by rw [mkI_congr _ (fun _ => 0) _ (fun j _ => if_neg (by omega))]; exact H46.out.2.2.2, HQ4.out.2.2⟩⟩
                case round =>
                  obtain ⟨i, hi, rfl, c6, HQ⟩ := hrel
                  have h6 := HQ.out.1
                  have hS := HQ.out.2
                  cases gk with
                  | zero =>
                    obtain rfl : i = s.length + 1 := by omega
                    have hl0 : lms s 0 = false := rfl
                    have hn0 : mkI (fun j => if j < s.length + 1 then -1 else 0) (s.length + 1) = mkI (fun j => if j < 1 then numP s j else -1) (s.length + 1) := mkI_congr _ _ _ fun j hj => by
                      rw [if_pos hj]
                      by_cases h : j < 1
                      · rw [if_pos h]
                        obtain rfl : j = 0 := by omega
                        unfold numP
                        rw [hl0]; rfl
                      · rw [if_neg h]
                    rw [hn0] at h6
                    have hc0 : cntM s 1 = 0 := by
                      rw [cntM_succ, hl0]; rfl
                    have h5 : RowC 3 1 (.slice none 0 0) (cntM s 1) (iv (tI ((marksP s).take (cntM s 1)))) [] := by
                      rw [hc0]; exact RowC.nil _ _
                    have HQ5 := Lib.hid (And.intro h5 (And.intro h6 hS))
                    clear HQ h6 hS h5 hn0 hc0 hl0 hi
                    go_wp2_with fail
                    go_ways
                    go_loopg [12] (s.length - 1) (fun m s12 wr => ∃ i : Nat, i + m = s.length ∧ 1 ≤ i ∧ s12 = .int .i64 (i : Int) ∧ ∃ v5 c5 c6, Hid (RowC 3 1 v5 (cntM s i) (iv (tI ((marksP s).take (cntM s i)))) c5 ∧ RowC 3 1 (.slice (some ⟨g6, 0, none⟩) (s.length + 1) k6) (s.length + 1) (iv (mkI (fun j => if j < i then numP s j else -1) (s.length + 1))) c6 ∧ St w.heap.size w wr [soB p (.slice (some ad) s.length cap) (.slice (some ⟨g1, 0, none⟩) s.length k1) (.slice (some ⟨g2, 0, none⟩) (mx + 2) k2) (.slice (some ⟨g3, 0, none⟩) (mx + 2) k3) (.slice (some ⟨g4, 0, none⟩) s.length k4) v5 (.slice (some ⟨g6, 0, none⟩) (s.length + 1) k6), c1, c2, c3, c4, c5, c6]))
                    case atStart => exact ⟨1, by omega, Nat.le_refl _, rfl, _, [], c6, HQ5⟩
                    case round =>
                      clear HQ5
                      obtain ⟨i, hi, hi1, rfl, v5, c5, c6, HQ⟩ := hrel
                      have h5 := HQ.out.1
                      have h6 := HQ.out.2.1
                      have hS := HQ.out.2.2
                      have h1 := HR1.out
                      cases gk with
                      | zero =>
                        obtain rfl : i = s.length := by omega
                        rw [← marksP_len, List.take_length] at h5
                        rw [mkI_congr _ (numP s) _ (fun j hj => by
                          by_cases h : j < s.length
                          · rw [if_pos h]
                          · rw [if_neg h]
                            obtain rfl : j = s.length := by omega
                            unfold numP
                            cases hl : lms s s.length with
                            | false => rfl
                            | true => exact absurd (lms_lt hl) (by omega))] at h6
                        have HE := Lib.hid (And.intro h1 (And.intro HQ4.out.1 (And.intro HQ4.out.2.1 (And.intro H46.out.2.2.1 (And.intro h5 (And.intro h6 hS))))))
                        clear h1 h5 h6 hS HQ HQ4 HR1 H46 hi hi1
                        go_wp2_with fail
                        go_ret
                        exact ⟨p, _, _, _, _, _, _, _, _, _, _, _, _, rfl, HE.out⟩
                      | succ m =>
                        obtain ⟨k, rfl⟩ : ∃ k, i = k + 1 := ⟨i - 1, by omega⟩
                        have hlt : k + 1 < s.length := by omega
                        have hkl : k < s.length := by omega
                        have hil : ((k : Int) + 1) < (s.length : Int) := by omega
                        have hx1 := hS.cell 0 rfl (List.mem_singleton.2 rfl) 1
                        have hs0 := h1.cellAt hS 1 rfl (bl_get _ (k + 1) _ (mkB_get _ _ (k + 1) hlt))
                        have hs1 := h1.cellAt hS 1 rfl (bl_get _ k _ (mkB_get _ _ k hkl))
                        have hdo : lms s (k + 1) = false → Hid (RowC 3 1 v5 (cntM s (k + 2)) (iv (tI ((marksP s).take (cntM s (k + 2))))) c5 ∧ RowC 3 1 (.slice (some ⟨g6, 0, none⟩) (s.length + 1) k6) (s.length + 1) (iv (mkI (fun j => if j < k + 2 then numP s j else -1) (s.length + 1))) c6 ∧ St w.heap.size w wr [soB p (.slice (some ad) s.length cap) (.slice (some ⟨g1, 0, none⟩) s.length k1) (.slice (some ⟨g2, 0, none⟩) (mx + 2) k2) (.slice (some ⟨g3, 0, none⟩) (mx + 2) k3) (.slice (some ⟨g4, 0, none⟩) s.length k4) v5 (.slice (some ⟨g6, 0, none⟩) (s.length + 1) k6), c1, c2, c3, c4, c5, c6]) := by
                          intro h
                          have e : cntM s (k + 2) = cntM s (k + 1) := by rw [cntM_succ, h]; rfl
                          rw [e]
                          refine Lib.hid ⟨h5, ?_, hS⟩
                          rw [mkI_congr _ (fun j => if j < k + 1 then numP s j else -1) _ (fun j _ => by
                            by_cases hj : j = k + 1
                            · subst hj
                              rw [if_pos (by omega), if_neg (by omega)]
                              unfold numP
                              rw [h]; rfl
                            · by_cases h2 : j < k + 1
                              · rw [if_pos h2, if_pos (by omega)]
                              · rw [if_neg h2, if_neg (by omega)])]
                          exact h6
                        have HDO := Lib.hid hdo
                        clear hdo
                        obtain ⟨ao5, cap5, rfl⟩ := h5.shape
                        cases hb : sm s (k + 1) with
                        | false =>
                          rw [hb] at hs0
                          have HD := HDO.out (by rw [lms_succ, hb]; rfl)
                          clear hb hs1 HDO
                          go_wp2_with fail
                          go_roundg m
                          case measure => omega
                          case rel => exact ⟨k + 2, by omega, by omega, by go_num, _, c5, c6, HD⟩
                        | true =>
                          rw [hb] at hs0
                          cases hb1 : sm s k with
                          | true =>
                            rw [hb1] at hs1
                            have HD := HDO.out (by rw [lms_succ, hb, hb1]; rfl)
                            clear hb hb1 HDO
                            go_wp2_with fail
                            go_roundg m
                            case measure => omega
                            case rel => exact ⟨k + 2, by omega, by omega, by go_num, _, c5, c6, HD⟩
                          | false =>
                            rw [hb1] at hs1
                            have hlm : lms s (k + 1) = true := by rw [lms_succ, hb, hb1]; rfl
                            have hat := marksP_at s (k + 1) hlm
                            have hcs : cntM s (k + 2) = cntM s (k + 1) + 1 := by rw [cntM_succ, hlm]; rfl
                            have hcl : cntM s (k + 1) ≤ 1000000 := by
                              have h1 := (List.getElem?_eq_some_iff.1 hat).1
                              have h2 := marksP_lt s (by omega)
                              omega
                            have hx5 := hS.cell 0 rfl (List.mem_singleton.2 rfl) 5
                            have hx6 := hS.cell 0 rfl (List.mem_singleton.2 rfl) 6
                            have hl6 := h6.cellAt hS 6 rfl (iv_get _ (k + 1) _ (mkI_get _ _ (k + 1) (by omega)))
                            rw [if_neg (Nat.lt_irrefl (k + 1))] at hl6
                            have hf6 := h6.freeAt hS 6 rfl (k + 1)
                            have HM := Lib.hid (And.intro hlm (And.intro hat hcs))
                            clear hb hb1 HDO hlm hat hcs
                            go_upto_region 29 with (fail)
                            go_cut [] (fun wc => ∃ c6', Hid (RowC 3 1 (.slice (some ⟨g6, 0, none⟩) (s.length + 1) k6) (s.length + 1) (iv (mkI (fun j => if j < k + 2 then numP s j else -1) (s.length + 1))) c6' ∧ St w.heap.size w wc [soB p (.slice (some ad) s.length cap) (.slice (some ⟨g1, 0, none⟩) s.length k1) (.slice (some ⟨g2, 0, none⟩) (mx + 2) k2) (.slice (some ⟨g3, 0, none⟩) (mx + 2) k3) (.slice (some ⟨g4, 0, none⟩) s.length k4) (.slice ao5 (cntM s (k + 1)) cap5) (.slice (some ⟨g6, 0, none⟩) (s.length + 1) k6), c1, c2, c3, c4, c5, c6']))
                            case first =>
                              go_wp2_with (first | ((with_reducible refine wpStill_plain ?_ ?_ (fun _ _ => ?_)); rfl; rfl) | (with_reducible refine wpStill_nil ?_) | ((with_reducible refine wp_draw_tail (id := 29) 11 mixed ?_ (fun _ hK => ?_)); kernel_rfl; simp only [List.take_succ_cons, List.take_zero, List.drop_succ_cons, List.drop_zero] at hK ⊢))
                              go_meet
                              case rel =>
                                obtain ⟨c6', h6', hS'⟩ := h6.store hS.drew 6 rfl rfl (k + 1) (.int .i64 (cntM s (k + 1) : Int))
                                rw [iv_set, mkI_set, mkI_congr _ (fun j => if j < k + 2 then numP s j else -1) _ (fun j _ => by
                                  by_cases hj : j = k + 1
                                  · subst hj
                                    rw [if_pos rfl, if_pos (by omega)]
                                    unfold numP
                                    rw [HM.out.1]; rfl
                                  · rw [if_neg hj]
                                    by_cases h2 : j < k + 1
                                    · rw [if_pos h2, if_pos (by omega)]
                                    · rw [if_neg h2, if_neg (by omega)])] at h6'
                                exact ⟨c6', Lib.hid ⟨h6', hS'⟩⟩
                            case rest =>
                              clear hx1 hx5 hx6 hs0 hs1 hl6 hf6 hS h6 HQ h1
                              obtain ⟨c6', HC⟩ := hcut
                              have hS := HC.out.2
                              have hx5 := hS.cell 0 rfl (List.mem_singleton.2 rfl) 5
                              go_wp2_with ((at_builtin; (refine wpList_app1 5 80 i0 (.int .i64 0) _ _ _ rfl rfl rfl rfl Try.underlying80 i0a i0b i0c i0d rfl hS rfl h5 rfl ?_ ?_ ?_); (unfold maxLen; omega); omega; intro v9 c9 w9 h9 hS9); have k5 := hS9.cell 0 rfl (List.mem_singleton.2 rfl) 5; have f5 := hS9.free 0 rfl (List.mem_singleton.2 rfl) 5; obtain ⟨ao9, cap9, rfl⟩ := h9.shape)
                              go_roundg m
                              case measure => omega
                              case rel =>
                                refine ⟨k + 2, by omega, by omega, by go_num, _, c9, c6', Lib.hid ⟨?_, HC.out.1, hS9.store 0 rfl 5 _⟩⟩
                                rw [HM.out.2.2, List.take_add_one, HM.out.2.1]
                                have e : iv (tI ((marksP s).take (cntM s (k + 1)) ++ (some (k + 1)).toList)) = iv (tI ((marksP s).take (cntM s (k + 1)))) ++ [.int .i64 ((k + 1 : Nat) : Int)] := by simp [iv, tI]
                                rw [e]
                                exact h9
                  | succ m =>
                    have hlt : i < s.length + 1 := by omega
                    have hil : (i : Int) < (s.length : Int) + 1 := by omega
                    have hx6 := hS.cell 0 rfl (List.mem_singleton.2 rfl) 6
                    have hl6 := h6.cellAt hS 6 rfl (iv_get _ i _ (mkI_get _ _ i hlt))
                    rw [if_neg (Nat.lt_irrefl i)] at hl6
                    have hf6 := h6.freeAt hS 6 rfl i
                    go_wp2_with fail
                    go_roundg m
                    case measure => omega
                    case rel =>
                      obtain ⟨c6', h6', hS'⟩ := h6.store hS 6 rfl rfl i (.int .i64 (-1))
                      rw [iv_set, mkI_set, mkI_congr _ (fun j => if j < i + 1 then -1 else 0) _ (fun j _ => by
                        by_cases h : j = i
                        · rw [if_pos h, if_pos (by omega)]
                        · rw [if_neg h]
                          by_cases h2 : j < i
                          · rw [if_pos h2, if_pos (by omega)]
                          · rw [if_neg h2, if_neg (by omega)])] at h6'
                      exact ⟨i + 1, by omega, by go_num, c6', Lib.hid ⟨h6', hS'⟩⟩
              | succ m =>
                have hcm : c ≤ mx := by omega
                have hc1 : c + 1 < mx + 2 := by omega
                have hc2 : c < mx + 2 := by omega
                have hci : (c : Int) ≤ 1000000 := by omega
                have hx2 := hS.cell 0 rfl (List.mem_singleton.2 rfl) 2
                have hx3 := hS.cell 0 rfl (List.mem_singleton.2 rfl) 3
                have hb1 := gB_le s mx HMX.out (c + 1) (by omega)
                have hb2 := lB_le_gB s c
                have hb3 : lB s c = gB s c + (Lpos s c).length := rfl
                have hb4 : gB s (c + 1) = lB s c + (Spos s c).length := rfl
                have hgi : (gB s c : Int) ≤ 1000000 := by omega
                have hLi : ((Lpos s c).length : Int) ≤ 1000000 := by omega
                have hSi : ((Spos s c).length : Int) ≤ 1000000 := by omega
                have hBi : (lB s c : Int) ≤ 1000000 := by omega
                have hlg := h2.cellAt hS 2 rfl (iv_get _ c _ (mkI_get _ _ c hc2))
                rw [show gTo s c c = (gB s c : Int) from by unfold gTo; rw [if_pos (Nat.le_refl _)]] at hlg
                have hll := h3.cellAt hS 3 rfl (iv_get _ c _ (mkI_get _ _ c hc2))
                rw [show lTo s c c = ((Lpos s c).length : Int) from by unfold lTo; rw [if_neg (by omega)]] at hll
                have hfl := h3.freeAt hS 3 rfl c
                have HB3 := Lib.hid (And.intro hb3 hb4)
                clear hb1 hb2 hb3 hb4
                go_upto_region 17 with (fail)
                go_cut [] (fun wc => ∃ c3', Hid (RowC 3 1 (.slice (some ⟨g3, 0, none⟩) (mx + 2) k3) (mx + 2) (iv (mkI (lTo s (c + 1)) (mx + 2))) c3' ∧ St w.heap.size w wc [soB p (.slice (some ad) s.length cap) (.slice (some ⟨g1, 0, none⟩) s.length k1) (.slice (some ⟨g2, 0, none⟩) (mx + 2) k2) (.slice (some ⟨g3, 0, none⟩) (mx + 2) k3) (.slice (some ⟨g4, 0, none⟩) s.length k4) (.slice none 0 0) (.slice (some ⟨g6, 0, none⟩) (s.length + 1) k6), c1, c2, c3', c4, [], c6]))
                case first =>
                  go_wp2_with (first | ((with_reducible refine wpStill_plain ?_ ?_ (fun _ _ => ?_)); rfl; rfl) | (with_reducible refine wpStill_nil ?_) | ((with_reducible refine wp_draw_tail (id := 17) 16 mixed ?_ (fun _ hK => ?_)); kernel_rfl; simp only [List.take_succ_cons, List.take_zero, List.drop_succ_cons, List.drop_zero] at hK ⊢))
                  go_meet
                  case rel =>
                    obtain ⟨c3', h3', hS'⟩ := h3.store hS.drew 3 rfl rfl c (.int .i64 (((Lpos s c).length : Int) + (gB s c : Int)))
                    rw [iv_set, mkI_set, mkI_congr _ (lTo s (c + 1)) _ (fun j _ => by
                      unfold lTo
                      have e := HB3.out.1
                      by_cases h : j = c
                      · subst h; rw [if_pos rfl, if_pos (by omega)]; omega
                      · rw [if_neg h]
                        by_cases h2 : j < c
                        · rw [if_pos h2, if_pos (by omega)]
                        · rw [if_neg h2, if_neg (by omega)])] at h3'
                    exact ⟨c3', Lib.hid ⟨h3', hS'⟩⟩
                case rest =>
                  clear hx2 hx3 hlg hll hfl hS h3 HQ
                  obtain ⟨c3', HC⟩ := hcut
                  have h3 := HC.out.1
                  have hS := HC.out.2
                  have hx2 := hS.cell 0 rfl (List.mem_singleton.2 rfl) 2
                  have hx3 := hS.cell 0 rfl (List.mem_singleton.2 rfl) 3
                  have hlg := h2.cellAt hS 2 rfl (iv_get _ (c + 1) _ (mkI_get _ _ (c + 1) hc1))
                  rw [show gTo s c (c + 1) = ((Spos s c).length : Int) from by unfold gTo; rw [if_neg (by omega)]; rfl] at hlg
                  have hll := h3.cellAt hS 3 rfl (iv_get _ c _ (mkI_get _ _ c hc2))
                  rw [show lTo s (c + 1) c = (lB s c : Int) from by unfold lTo; rw [if_pos (by omega)]] at hll
                  have hfg := h2.freeAt hS 2 rfl (c + 1)
                  go_wp2_with (first | ((with_reducible refine wpStill_plain ?_ ?_ (fun _ _ => ?_)); rfl; rfl) | (with_reducible refine wpStill_nil ?_) | ((with_reducible refine wp_draw_tail (id := 18) 17 mixed ?_ (fun _ hK => ?_)); kernel_rfl; simp only [List.take_succ_cons, List.take_zero, List.drop_succ_cons, List.drop_zero] at hK ⊢))
                  go_roundg m
                  case measure => omega
                  case rel =>
                    obtain ⟨c2', h2', hS'⟩ := h2.store hS.drew 2 rfl rfl (c + 1) (.int .i64 (((Spos s c).length : Int) + (lB s c : Int)))
                    rw [iv_set, mkI_set, mkI_congr _ (gTo s (c + 1)) _ (fun j _ => by
                      unfold gTo
                      have e := HB3.out.2
                      by_cases h : j = c + 1
                      · subst h; rw [if_pos rfl, if_pos (by omega)]; omega
                      · rw [if_neg h]
                        by_cases h2 : j ≤ c
                        · rw [if_pos h2, if_pos (by omega)]
                        · rw [if_neg h2, if_neg (by omega)])] at h2'
                    exact ⟨c + 1, by omega, by go_num, c2', c3', Lib.hid ⟨h2', h3, hS'⟩⟩
          | succ m =>
            have hlt : i < s.length := by omega
            have ht0 := HT.out wr hS.below i hlt
            have hx1 := hS.cell 0 rfl (List.mem_singleton.2 rfl) 1
            have hx2 := hS.cell 0 rfl (List.mem_singleton.2 rfl) 2
            have hx3 := hS.cell 0 rfl (List.mem_singleton.2 rfl) 3
            have hs0 := h1.cellAt hS 1 rfl (bl_get _ i _ (mkB_get _ _ i hlt))
            have hcm := HMX.out _ (ch_mem s i hlt)
            have hci : (ch s i : Int) ≤ 1000000 := by omega
            have hc1 : ch s i + 1 < mx + 2 := by omega
            have hc2 : ch s i < mx + 2 := by omega
            have hcS := cS_le s i (ch s i)
            have hcL := cL_le s i (ch s i)
            have hcSi : (cS s i (ch s i) : Int) ≤ 1000000 := by omega
            have hcLi : (cL s i (ch s i) : Int) ≤ 1000000 := by omega
            have hlg := h2.cellAt hS 2 rfl (iv_get _ (ch s i + 1) _ (mkI_get _ _ (ch s i + 1) hc1))
            rw [if_neg (Nat.succ_ne_zero _), Nat.add_sub_cancel] at hlg
            have hfg := h2.freeAt hS 2 rfl (ch s i + 1)
            have hll := h3.cellAt hS 3 rfl (iv_get _ (ch s i) _ (mkI_get _ _ (ch s i) hc2))
            have hfl := h3.freeAt hS 3 rfl (ch s i)
            clear hcS hcL hcm
            cases hb : sm s i with
            | true =>
              rw [hb] at hs0
              have HB := Lib.hid hb
              clear hb
              go_wp2_with fail
              go_roundg m
              case measure => omega
              case rel =>
                obtain ⟨c2', h2', hS'⟩ := h2.store hS 2 rfl rfl (ch s i + 1) (.int .i64 ((cS s i (ch s i) : Int) + 1))
                rw [iv_set, mkI_set, mkI_congr _ (fun c => if c = 0 then 0 else (cS s (i + 1) (c - 1) : Int)) _ (fun c _ => by
                  by_cases hc : c = 0
                  · subst hc; simp
                  · simp only [if_neg hc]
                    rw [cS_succ]
                    by_cases e : c = ch s i + 1
                    · subst e; simp [HB.out]
                    · rw [if_neg e, if_neg (fun hh => by have := hh.1; omega)]; simp)] at h2'
                have h3' := h3
                rw [mkI_congr _ (fun c => (cL s (i + 1) c : Int)) _ (fun c _ => by rw [cL_succ, if_neg (by rw [HB.out]; simp)]; simp)] at h3'
                exact ⟨i + 1, by omega, by go_num, c2', c3, Lib.hid ⟨h2', h3', hS'⟩⟩
            | false =>
              rw [hb] at hs0
              have HB := Lib.hid hb
              clear hb
              go_wp2_with fail
              go_roundg m
              case measure => omega
              case rel =>
                obtain ⟨c3', h3', hS'⟩ := h3.store hS 3 rfl rfl (ch s i) (.int .i64 ((cL s i (ch s i) : Int) + 1))
                rw [iv_set, mkI_set, mkI_congr _ (fun c => (cL s (i + 1) c : Int)) _ (fun c _ => by
                  rw [cL_succ]
                  by_cases e : c = ch s i
                  · subst e
                    rw [if_pos rfl, if_pos ⟨rfl, HB.out⟩]; simp
                  · rw [if_neg e, if_neg (by omega)]; simp)] at h3'
                have h2' := h2
                rw [mkI_congr _ (fun c => if c = 0 then 0 else (cS s (i + 1) (c - 1) : Int)) _ (fun c _ => by simp [cS_succ, HB.out])] at h2'
                exact ⟨i + 1, by omega, by go_num, c2, c3', Lib.hid ⟨h2', h3', hS'⟩⟩
      | succ k =>
        have e : (((k + 1 : Nat) : Int) - 1) = (k : Int) := by omega
        rw [e]
        clear e
        have hk1 : k + 1 < s.length := by omega
        have hkn : k < s.length := by omega
        have ht0 := HT.out wr hS.below k hkn
        have ht1 := HT.out wr hS.below (k + 1) hk1
        replace ht1 : wr.cell? ⟨ad.block, ad.off + (k + 1), none⟩ = some (.int .i64 (ch s (k + 1) : Int)) := ht1
        have hs1 := h1.cellAt hS 1 rfl (bl_get _ (k + 1) _ (mkB_get _ _ (k + 1) hk1))
        rw [show (decide (k + 1 ≤ k + 1) && sm s (k + 1)) = sm s (k + 1) from by simp] at hs1
        have hs0 := h1.cellAt hS 1 rfl (bl_get _ k _ (mkB_get _ _ k hkn))
        have hf0 := h1.freeAt hS 1 rfl k
        have hst := sm_step s k hk1
        have hki : (k : Int) ≤ 1000000 := by omega
        have key : ∀ b, sm s k = b → ∃ c1', RowC 4 1 (.slice (some ⟨g1, 0, none⟩) s.length k1) s.length (bl (mkB (fun j => decide (k ≤ j) && sm s j) s.length)) c1' ∧ St w.heap.size w (wr.drew.setCell ⟨g1, k, none⟩ (.bool b)) [soB p (.slice (some ad) s.length cap) (.slice (some ⟨g1, 0, none⟩) s.length k1) (.slice (some ⟨g2, 0, none⟩) (mx + 2) k2) (.slice (some ⟨g3, 0, none⟩) (mx + 2) k3) (.slice (some ⟨g4, 0, none⟩) s.length k4) (.slice none 0 0) (.slice (some ⟨g6, 0, none⟩) (s.length + 1) k6), c1', c2, c3, c4, [], c6] := by
          intro b hb
          obtain ⟨c1', h1', hS'⟩ := h1.store hS.drew 1 rfl rfl k (.bool b)
          rw [bl_set, mkB_set, mkB_congr _ (fun j => decide (k ≤ j) && sm s j) _ (fun j _ => by
            by_cases e : j = k
            · subst e; simp [hb]
            · rw [if_neg e]
              congr 1
              rw [decide_eq_decide]
              omega)] at h1'
          exact ⟨c1', h1', hS'⟩
        have KEY := Lib.hid key
        clear key
        rcases Nat.lt_trichotomy (ch s k) (ch s (k + 1)) with q | q | q
        · have hb : sm s k = true := by rw [hst]; simp [q]
          have HB := Lib.hid hb
          clear hb hst
          go_wp2_with (first | ((with_reducible refine wpStill_plain ?_ ?_ (fun _ _ => ?_)); rfl; rfl) | (with_reducible refine wpStill_nil ?_) | ((with_reducible refine wpStill_skipg 15 false ?_ ?_ (fun _ _ => ?_)); rfl; kernel_rfl) | ((with_reducible refine wpStill_skipg 26 true ?_ ?_ (fun _ _ => ?_)); rfl; kernel_rfl) | ((with_reducible refine wp_draw_tail (id := 6) 38 mixed ?_ (fun _ hK => ?_)); kernel_rfl; simp only [List.take_succ_cons, List.take_zero, List.drop_succ_cons, List.drop_zero] at hK ⊢))
          go_roundg k
          case measure => omega
          case rel =>
            obtain ⟨c1', h1', hS'⟩ := KEY.out true HB.out
            exact ⟨by omega, by go_num, c1', Lib.hid ⟨h1', hS'⟩⟩
        · have hb : sm s k = sm s (k + 1) := by rw [hst, q]; simp
          have HB := Lib.hid hb
          have q1 : ((ch s k : Int) == (ch s (k + 1) : Int)) = true := by rw [q]; simp
          have q2 : ¬ ch s k < ch s (k + 1) := by omega
          clear hb hst q
          go_wp2_with (first | ((with_reducible refine wpStill_plain ?_ ?_ (fun _ _ => ?_)); rfl; rfl) | (with_reducible refine wpStill_nil ?_) | ((with_reducible refine wpStill_wantg 15 false ?_ ?_ ?_ (fun _ _ => ?_)); rfl; kernel_rfl; rfl) | ((with_reducible refine wpStill_wantg 26 true ?_ ?_ ?_ (fun _ _ => ?_)); rfl; kernel_rfl; rfl) | ((with_reducible refine wp_draw_tail (id := 6) 38 mixed ?_ (fun _ hK => ?_)); kernel_rfl; simp only [List.take_succ_cons, List.take_zero, List.drop_succ_cons, List.drop_zero] at hK ⊢))
          go_roundg k
          case measure => omega
          case rel =>
            obtain ⟨c1', h1', hS'⟩ := KEY.out _ HB.out
            exact ⟨by omega, by go_num, c1', Lib.hid ⟨h1', hS'⟩⟩
        · have hb : sm s k = false := by rw [hst]; simp; omega
          have HB := Lib.hid hb
          have q1 : ((ch s k : Int) == (ch s (k + 1) : Int)) = false := by rw [beq_eq_false_iff_ne]; omega
          have q2 : ¬ ch s k < ch s (k + 1) := by omega
          clear hb hst
          go_wp2_with (first | ((with_reducible refine wpStill_plain ?_ ?_ (fun _ _ => ?_)); rfl; rfl) | (with_reducible refine wpStill_nil ?_) | ((with_reducible refine wpStill_wantg 15 false ?_ ?_ ?_ (fun _ _ => ?_)); rfl; kernel_rfl; rfl) | ((with_reducible refine wpStill_skipg 26 true ?_ ?_ (fun _ _ => ?_)); rfl; kernel_rfl) | ((with_reducible refine wp_draw_tail (id := 6) 38 mixed ?_ (fun _ hK => ?_)); kernel_rfl; simp only [List.take_succ_cons, List.take_zero, List.drop_succ_cons, List.drop_zero] at hK ⊢))
          go_roundg k
          case measure => omega
          case rel =>
            obtain ⟨c1', h1', hS'⟩ := KEY.out false HB.out
            exact ⟨by omega, by go_num, c1', Lib.hid ⟨h1', hS'⟩⟩
end Go.Proofs.Ythgbkncanoknkaa
/-
  Contract of suffix.order: what it hands back is the suffix array.
-/
set_option linter.unusedVariables false
set_option linter.unusedSimpArgs false
namespace Go.Proofs.Ythgbkncanoknkaa
open Go.RowKit
set_option maxRecDepth 100000
def OrderOut (s : List Nat) (w : World) (e : Ending) (w' : World) : Prop :=
  ∃ (v : Value) (T : List Nat) (c : HL), e = .returned v ∧ RowC 3 1 v s.length (iv (tI T)) c ∧ T.length = s.length ∧ St w.heap.size w w' [c] ∧ IsSA s T
theorem isSA_small (s : List Nat) (h : s.length < 2) : IsSA s (List.range s.length) := by
  refine ⟨List.Perm.refl _, ?_⟩
  have : s.length = 0 ∨ s.length = 1 := by omega
  rcases this with e | e <;> rw [e]
  · exact List.Pairwise.nil
  · exact List.pairwise_singleton _ _
theorem isSA_none {s : List Nat} {mx : Nat} {A : List Int} (h : Induced s mx (marksP s) A) (hmx : ∀ x ∈ s, x ≤ mx) (h0 : (marksP s).length = 0) : ∃ T : List Nat, A = tI T ∧ T.length = s.length ∧ IsSA s T := by
  obtain ⟨T, rfl, hT⟩ := h.isSA (marksP_ok s) hmx (by
    intro i j a b ha
    have := (List.getElem?_eq_some_iff.1 ha).1
    omega)
  exact ⟨T, rfl, by have := hT.perm.length_eq; simpa using this, hT⟩
/-- What the first pass gives to names. -/
theorem first_pass {s : List Nat} {mx : Nat} {A : List Int} (h : Induced s mx (marksP s) A) (hmx : ∀ x ∈ s, x ≤ mx) :
    ∃ T : List Nat, A = tI T ∧ T.Perm (List.range s.length) ∧ ∀ (i j a b : Nat), T[i]? = some a → T[j]? = some b → i < j → lexle (preK s a) (preK s b) := by
  obtain ⟨T, rfl, hT⟩ := h.perm (marksP_ok s) hmx
  refine ⟨T, rfl, hT, ?_⟩
  intro i j a b ha hb hij
  have hal : a < s.length := by have := hT.subset (List.mem_of_getElem? ha); simpa using this
  exact h.sorted (marksP_ok s) hmx (Keys.pre (marksP_ok s)) (s.length - a) a b i j (by omega) hij (by rw [List.getElem?_map, ha]; rfl) (by rw [List.getElem?_map, hb]; rfl)
theorem mkAt_ch (s : List Nat) (k : Nat) (h : k < (marksP s).length) : ch (marksP s) k = mkAt s k := by
  unfold ch mkAt
  rw [List.getD_eq_getElem?_getD, List.getD_eq_getElem?_getD, List.getElem?_eq_getElem h]
  rfl
theorem mk_marks (s T : List Nat) (n : Nat) (h : T.length = n) : mkI (fun j => if j < n then (mkAt s (ch T j) : Int) else 0) n = tI (T.map (mkAt s)) := by
  apply List.ext_getElem?
  intro i
  by_cases hi : i < n
  · rw [mkI_get _ _ _ hi, if_pos hi, tI_get _ _ (by simpa [h] using hi)]
    unfold ch
    rw [List.getD_eq_getElem?_getD, List.getD_eq_getElem?_getD, List.getElem?_map, List.getElem?_eq_getElem (by omega)]
    rfl
  · rw [List.getElem?_eq_none (by rw [mkI_length]; omega), List.getElem?_eq_none (by rw [tI_length]; simp [h]; omega)]
/-- The second pass, by the marks in order. -/
theorem second_pass {s R T : List Nat} {mx : Nat} {A : List Int} (hN : Named s R) (hT : IsSA R T) (hmx : ∀ x ∈ s, x ≤ mx) (h : Induced s mx (T.map (mkAt s)) A) : ∃ U : List Nat, A = tI U ∧ U.length = s.length ∧ IsSA s U := by
  obtain ⟨h1, h2⟩ := hN.marks hT
  obtain ⟨U, rfl, hU⟩ := h.isSA h1 hmx h2
  exact ⟨U, rfl, by have := hU.perm.length_eq; simpa using this, hU⟩
theorem order_small (s : List Nat) (mx : Nat) (sv : Value) (w : World) (hN : s.length < 2) (hT : Rd w 1 sv s.length (iv (tI s))) :
    Calls Try.prog 77 #[sv, .int .i64 (mx : Int)] w (OrderOut s w) := by
  obtain ⟨i0, i0a, i0b, i0c, i0d⟩ := info_parts infoInt
  obtain ⟨ao, cap, rfl⟩ := hT.shape
  have hS := St.init w
  have hnl : (s.length : Int) < 2 := by omega
  go_enter Try.func77, Try.ntmps77
  go_wp2_with (at_make; (refine wpList_mk (n := s.length) 80 i0 (.int .i64 0) _ _ rfl rfl _ _ _ _ rfl rfl Try.underlying80 i0a i0b i0c i0d rfl ?_ ?_ ?_ ?_ hS ?_); omega; omega; omega; (unfold maxLen; omega); intro g cl w1 hr hS1)
  go_ret
  refine ⟨_, List.range s.length, cl, rfl, ?_, by simp, hS1, isSA_small s hN⟩
  have e : iv (tI (List.range s.length)) = List.replicate s.length (.int .i64 0) := by
    have : s.length = 0 ∨ s.length = 1 := by omega
    rcases this with e | e <;> rw [e] <;> rfl
  rw [e]
  exact hr
set_option maxHeartbeats 8000000 in
theorem order_big (s : List Nat) (mx : Nat) (sv : Value) (w : World) (hN : 2 ≤ s.length) (hn : s.length ≤ 1000000) (hm : mx ≤ 1000000) (hmx : ∀ x ∈ s, x ≤ mx) (hT : Rd w 1 sv s.length (iv (tI s)))
    (ih : ∀ (R : List Nat) (g : Nat) (u : Value) (w' : World), R.length < s.length → R.length ≤ 1000000 → g ≤ 1000000 → (∀ x ∈ R, x ≤ g) → Rd w' 1 u R.length (iv (tI R)) → Calls Try.prog 77 #[u, .int .i64 (g : Int)] w' (OrderOut R w')) :
    Calls Try.prog 77 #[sv, .int .i64 (mx : Int)] w (OrderOut s w) := by
  obtain ⟨i0, i0a, i0b, i0c, i0d⟩ := info_parts infoInt
  obtain ⟨ao, cap, rfl⟩ := hT.shape
  have hnl : ¬ (s.length : Int) < 2 := by omega
  have HMX := Lib.hid hmx
  have HT := Lib.hid hT
  have HIH := Lib.hid ih
  clear hmx hT ih
  go_enter Try.func77, Try.ntmps77
  go_wp2_with fail
  refine (prepare_any s mx _ w (by omega) hn hm HMX.out HT.out).mono ?_
  rintro e w1 ⟨p, v1, v2, v3, v4, v5, v6, c1, c2, c3, c4, c5, c6, rfl, h1, h2, h3, h4, h5, h6, hS1⟩
  obtain ⟨ao5, cap5, rfl⟩ := h5.shape
  have k5 := hS1.cell 0 rfl (List.mem_singleton.2 rfl) 5
  have HP := Lib.hid (And.intro h1 (And.intro h2 (And.intro h3 (And.intro h4 (And.intro h5 h6)))))
  have HS1 := Lib.hid hS1
  clear h1 h2 h3 h4 h5 h6 hS1
  go_wp2_with fail
  refine (induce_any (F := [c5, c6]) p s mx (marksP s) _ v1 v2 v3 v4 _ v6 _ _ ⟨by omega, hn, hm, HMX.out, marksP_ok s⟩ HS1.out HP.out.1 HP.out.2.1 HP.out.2.2.1 HP.out.2.2.2.1 (fun w' c4' h => HT.out.keep h.below) (fun w' c4' h => HP.out.2.2.2.2.1.rd h 5 rfl)).mono ?_
  rintro e w2 ⟨rfl, A, c4', h4', hS2, hA⟩
  have k5 := hS2.cell 0 rfl (List.mem_singleton.2 rfl) 5
  have k4 := hS2.cell 0 rfl (List.mem_singleton.2 rfl) 4
  have HQ := Lib.hid (And.intro h4' (And.intro hS2 hA))
  clear h4' hS2 hA
  by_cases hz : (marksP s).length = 0
  · have hz1 : ¬ (0 : Int) < ((marksP s).length : Int) := by omega
    have HZ := Lib.hid hz
    clear hz
    go_wp2_with fail
    go_ret
    obtain ⟨T, rfl, hTl, hsa⟩ := isSA_none HQ.out.2.2 HMX.out HZ.out
    exact ⟨_, T, c4', rfl, HQ.out.1, hTl, HQ.out.2.1.pick [4] (by decide) [c4'] rfl, hsa⟩
  · have hz1 : (0 : Int) < ((marksP s).length : Int) := by omega
    have hz2 : 0 < (marksP s).length := by omega
    obtain ⟨T, hAT, hTp, hTs⟩ := first_pass HQ.out.2.2 HMX.out
    have h4' := HQ.out.1
    rw [hAT] at h4'
    have HF := Lib.hid (And.intro hTp (And.intro hTs h4'))
    clear hz hAT hTp hTs h4'
    go_wp2_with fail
    refine (names_any p s T v4 w2 hn (by omega) HF.out.1 HF.out.2.1 ?_ ?_).mono ?_
    · intro w' hb
      have h := HQ.out.2.1.mono hb
      exact ⟨⟨_, h.cell 0 rfl (List.mem_singleton.2 rfl) 0, HT.out.keep h.below⟩, ⟨_, h.cell 0 rfl (List.mem_singleton.2 rfl) 5, HP.out.2.2.2.2.1.rd h 5 rfl⟩, ⟨_, h.cell 0 rfl (List.mem_singleton.2 rfl) 6, HP.out.2.2.2.2.2.rd h 6 rfl⟩⟩
    · intro w' hb
      have h := HQ.out.2.1.mono hb
      exact ⟨h.cell 0 rfl (List.mem_singleton.2 rfl) 4, HF.out.2.2.rd h 4 rfl⟩
    rintro e w3 ⟨u, R, g, cR, rfl, hR, hS3, hNm, hRg, hgs⟩
    obtain ⟨aoR, capR, rfl⟩ := hR.shape
    have hRl := hNm.len
    have hRn : R.length < s.length := by rw [hRl]; exact marksP_lt s (by omega)
    have hR0 : 0 < R.length := by omega
    have hRi : (R.length : Int) ≤ 1000000 := by omega
    replace hS3 := HQ.out.2.1.join hS3
    have HN := Lib.hid (And.intro hNm (And.intro hRg (And.intro hR hRl)))
    clear hNm hRg hR hRl k4 k5
    go_wp2_with (at_make; (refine wpList_mk (n := R.length) 80 i0 (.int .i64 0) _ _ rfl rfl _ _ _ _ rfl rfl Try.underlying80 i0a i0b i0c i0d rfl ?_ ?_ ?_ ?_ hS3 ?_); omega; omega; omega; (unfold maxLen; omega); intro gm cM w4 hrM hS4)
    have HM4 := Lib.hid (And.intro hrM hS4)
    clear hrM hS3 hS4
    go_wp2_with fail
    refine (HIH.out R g _ w4 hRn (by omega) (by omega) HN.out.2.1 (HN.out.2.2.1.rd HM4.out.2 1 rfl)).mono ?_
    rintro e w5 ⟨v, T', cT, rfl, hrT, hTl, hS5, hsa⟩
    obtain ⟨gT, capT, _, rfl, _⟩ := hrT.form hR0
    replace hS5 := HM4.out.2.join hS5
    have HQ5 := Lib.hid (And.intro hrT (And.intro hS5 (And.intro hsa hTl)))
    have HM0 : Hid (RowC 3 1 (.slice (some ⟨gm, 0, none⟩) R.length R.length) R.length (iv (mkI (fun j => if j < 0 then (mkAt s (ch T' j) : Int) else 0) R.length)) cM) := Lib.hid (by
      rw [mkI_congr _ (fun _ => 0) _ (fun j _ => if_neg (by omega)), mkI_const, iv_replicate]
      exact HM4.out.1)
    clear hrT hTl hS5 hsa HM4
    obtain ⟨g5, rfl⟩ := HP.out.2.2.2.2.1.head hz2
    go_wp2_with fail
    go_loopg [44] R.length (fun m s44 wr => ∃ i : Nat, i + m = R.length ∧ s44 = .int .i64 (i : Int) ∧ ∃ cM, Hid (RowC 3 1 (.slice (some ⟨gm, 0, none⟩) R.length R.length) R.length (iv (mkI (fun j => if j < i then (mkAt s (ch T' j) : Int) else 0) R.length)) cM ∧ St w.heap.size w wr [cT, cM, cR, soB p (.slice ao s.length cap) v1 v2 v3 v4 (.slice (some ⟨g5, 0, none⟩) (marksP s).length cap5) v6, c1, c2, c3, c4', c5, c6]))
    case atStart => exact ⟨0, by omega, rfl, cM, Lib.hid ⟨HM0.out, HQ5.out.2.1⟩⟩
    case round =>
      clear HM0
      obtain ⟨i, hi, rfl, cM, HL⟩ := hrel
      have hM := HL.out.1
      have hS := HL.out.2
      cases gk with
      | zero =>
        obtain rfl : i = R.length := by omega
        rw [mk_marks s T' R.length HQ5.out.2.2.2] at hM
        obtain ⟨mok, mord⟩ := HN.out.1.marks HQ5.out.2.2.1
        have hml : (T'.map (mkAt s)).length = R.length := by rw [List.length_map, HQ5.out.2.2.2]
        have hS' := hS.pick [3, 4, 5, 6, 7, 8, 9, 1] (by decide) [soB p (.slice ao s.length cap) v1 v2 v3 v4 (.slice (some ⟨g5, 0, none⟩) (marksP s).length cap5) v6, c1, c2, c3, c4', c5, c6, cM] rfl
        have HE := Lib.hid (And.intro hM (And.intro hS' (And.intro mok hml)))
        clear hM hS hS' HL mok mord hml hi
        go_wp2_with fail
        go_ways
        refine (induce_any (F := [c5, c6, cM]) p s mx (T'.map (mkAt s)) _ v1 v2 v3 v4 _ v6 _ A ⟨by omega, hn, hm, HMX.out, HE.out.2.2.1⟩ HE.out.2.1 HP.out.1 HP.out.2.1 HP.out.2.2.1 HQ.out.1 (fun w' c4'' h => HT.out.keep h.below) (fun w' c4'' h => by rw [HE.out.2.2.2]; exact HE.out.1.rd h 7 rfl)).mono ?_
        rintro e w6 ⟨rfl, A2, c4'', h4'', hS6, hA2⟩
        have k4 := hS6.cell 0 rfl (List.mem_singleton.2 rfl) 4
        have HZ := Lib.hid (And.intro h4'' (And.intro hS6 hA2))
        clear h4'' hS6 hA2
        go_wp2_with fail
        go_ret
        obtain ⟨U, rfl, hUl, hsa⟩ := second_pass HN.out.1 HQ5.out.2.2.1 HMX.out HZ.out.2.2
        exact ⟨_, U, c4'', rfl, HZ.out.1, hUl, HZ.out.2.1.pick [4] (by decide) [c4''] rfl, hsa⟩
      | succ m =>
        have hlt : i < R.length := by omega
        have hil : (i : Int) < (R.length : Int) := by omega
        have hTi : i < T'.length := by rw [HQ5.out.2.2.2]; exact hlt
        have hlT := HQ5.out.1.cellAt hS 0 rfl (iv_get _ i _ (tI_get T' i hTi))
        have hkR : ch T' i < R.length := by have := HQ5.out.2.2.1.perm.subset (ch_mem T' i hTi); simpa using this
        have hkm : ch T' i < (marksP s).length := by rw [← HN.out.2.2.2]; exact hkR
        have hki : (ch T' i : Int) < ((marksP s).length : Int) := by omega
        have hx5 := hS.cell 3 rfl (List.mem_singleton.2 rfl) 5
        have hl5 := HP.out.2.2.2.2.1.cellAt hS 8 rfl (iv_get _ (ch T' i) _ (tI_get (marksP s) (ch T' i) hkm))
        rw [mkAt_ch s _ hkm] at hl5
        have hlM := hM.cellAt hS 1 rfl (iv_get _ i _ (mkI_get _ _ i hlt))
        rw [if_neg (Nat.lt_irrefl i)] at hlM
        have hfM := hM.freeAt hS 1 rfl i
        clear hTi
        go_wp2_with fail
        go_roundg m
        case measure => omega
        case rel =>
          obtain ⟨cM', hM', hS'⟩ := hM.store hS 1 rfl rfl i (.int .i64 (mkAt s (ch T' i) : Int))
          rw [iv_set, mkI_set, mkI_congr _ (fun j => if j < i + 1 then (mkAt s (ch T' j) : Int) else 0) _ (fun j _ => by
            by_cases hj : j = i
            · subst hj
              rw [if_pos rfl, if_pos (by omega)]
            · rw [if_neg hj]
              by_cases h2 : j < i
              · rw [if_pos h2, if_pos (by omega)]
              · rw [if_neg h2, if_neg (by omega)])] at hM'
          exact ⟨i + 1, by omega, by go_num, cM', Lib.hid ⟨hM', hS'⟩⟩
theorem order_any : ∀ (N : Nat) (s : List Nat) (mx : Nat) (sv : Value) (w : World), s.length ≤ N → s.length ≤ 1000000 → mx ≤ 1000000 → (∀ x ∈ s, x ≤ mx) → Rd w 1 sv s.length (iv (tI s)) →
    Calls Try.prog 77 #[sv, .int .i64 (mx : Int)] w (OrderOut s w)
  | 0, s, mx, sv, w, hN, _, _, _, hT => order_small s mx sv w (by omega) hT
  | N + 1, s, mx, sv, w, hN, hn, hm, hmx, hT => by
    by_cases h : s.length < 2
    · exact order_small s mx sv w h hT
    · exact order_big s mx sv w (by omega) hn hm hmx hT fun R g u w' h1 h2 h3 h4 h5 => order_any N R g u w' (by omega) h2 h3 h4 h5
end Go.Proofs.Ythgbkncanoknkaa
/-
  Contract of suffix.Sort.
-/
set_option linter.unusedVariables false
set_option linter.unusedSimpArgs false
namespace Go.Proofs.Ythgbkncanoknkaa
open Go.RowKit
set_option maxRecDepth 100000
/-- Bytes as numbers. -/
def nb (b : List UInt8) : List Nat := b.map UInt8.toNat
theorem nb_length (b : List UInt8) : (nb b).length = b.length := by simp [nb]
theorem nb_le (b : List UInt8) : ∀ x ∈ nb b, x ≤ 255 := by
  intro x hx
  obtain ⟨y, _, rfl⟩ := List.mem_map.1 hx
  have := y.toNat_lt
  omega
theorem nb_at (b : List UInt8) (i : Nat) (x : UInt8) (h : b[i]? = some x) : ch (nb b) i = x.toNat := by
  unfold ch nb
  rw [List.getD_eq_getElem?_getD, List.getElem?_map, h]
  rfl
def SortOut (b : List UInt8) (w : World) (e : Ending) (w' : World) : Prop :=
  ∃ (v : Value) (T : List Nat) (c : HL), e = .returned v ∧ RowC 3 1 v b.length (iv (tI T)) c ∧ T.length = b.length ∧ St w.heap.size w w' [c] ∧ IsSA (nb b) T
theorem mk_whole (s : List Nat) (n : Nat) (h : s.length = n) : mkI (fun j => if j < n then (ch s j : Int) else 0) n = tI s := by
  apply List.ext_getElem?
  intro i
  by_cases hi : i < n
  · rw [mkI_get _ _ _ hi, if_pos hi, tI_get _ _ (by omega)]
  · rw [List.getElem?_eq_none (by rw [mkI_length]; omega), List.getElem?_eq_none (by rw [tI_length]; omega)]
set_option maxHeartbeats 4000000 in
theorem sort_any (b : List UInt8) (v : Value) (w : World) (hn : b.length ≤ 1000000) (hb : Rd w 1 v b.length (bv b)) :
    Calls Try.prog 64 #[v] w (SortOut b w) := by
  obtain ⟨i0, i0a, i0b, i0c, i0d⟩ := info_parts infoInt
  obtain ⟨ao, cap, rfl⟩ := hb.shape
  have hS := St.init w
  have HB := Lib.hid hb
  have hnl : (b.length : Int) ≤ 1000000 := by omega
  clear hb
  go_enter Try.func64, Try.ntmps64
  go_wp2_with (at_make; (refine wpList_mk (n := b.length) 80 i0 (.int .i64 0) _ _ rfl rfl _ _ _ _ rfl rfl Try.underlying80 i0a i0b i0c i0d rfl ?_ ?_ ?_ ?_ hS ?_); omega; omega; omega; (unfold maxLen; omega); intro g cl w1 hr hS1)
  have HQ : Hid (RowC 3 1 (.slice (some ⟨g, 0, none⟩) b.length b.length) b.length (iv (mkI (fun j => if j < 0 then (ch (nb b) j : Int) else 0) b.length)) cl ∧ St w.heap.size w w1 [cl]) := Lib.hid ⟨by
    rw [mkI_congr _ (fun _ => 0) _ (fun j _ => if_neg (by omega)), mkI_const, iv_replicate]
    exact hr, hS1⟩
  clear hr hS1 hS
  go_wp2_with fail
  go_loopg [11] b.length (fun m s11 wr => ∃ i : Nat, i + m = b.length ∧ s11 = .int .i64 (i : Int) ∧ ∃ cl, Hid (RowC 3 1 (.slice (some ⟨g, 0, none⟩) b.length b.length) b.length (iv (mkI (fun j => if j < i then (ch (nb b) j : Int) else 0) b.length)) cl ∧ St w.heap.size w wr [cl]))
  case atStart => exact ⟨0, by omega, rfl, cl, HQ⟩
  case round =>
    clear HQ
    obtain ⟨i, hi, rfl, cl, HQ⟩ := hrel
    have hr := HQ.out.1
    have hS := HQ.out.2
    cases gk with
    | zero =>
      obtain rfl : i = b.length := by omega
      rw [mk_whole (nb b) b.length (nb_length b)] at hr
      have HR := Lib.hid (And.intro hr hS)
      clear hr hS HQ hi
      go_wp2_with fail
      go_ways
      refine (order_any (nb b).length (nb b) 255 _ wr (Nat.le_refl _) (by rw [nb_length]; exact hn) (by omega) (nb_le b) (by rw [nb_length]; exact HR.out.1.rd HR.out.2 0 rfl)).mono ?_
      rintro e w3 ⟨v, T, c, rfl, hT, hTl, hS3, hsa⟩
      rw [nb_length] at hT hTl
      have hS4 := (HR.out.2.join hS3).pick [0] (by decide) [c] rfl
      have HZ := Lib.hid (And.intro hT (And.intro hTl (And.intro hS4 hsa)))
      clear hT hTl hS4 hsa hS3
      go_wp2_with fail
      go_ret
      exact ⟨_, T, c, rfl, HZ.out⟩
    | succ m =>
      have hlt : i < b.length := by omega
      have hil : (i : Int) < (b.length : Int) := by omega
      have hbi : b[i]? = some b[i] := List.getElem?_eq_getElem hlt
      obtain ⟨ad, rfl, hc⟩ := (HB.out.keep hS.below).at (bv_get b i _ hbi)
      have hch := nb_at b i _ hbi
      have h255 : b[i].toNat < 256 := b[i].toNat_lt
      generalize b[i] = x at *
      have hx2 : (x.toNat : Int) < 256 := by omega
      have hlr := hr.cellAt hS 0 rfl (iv_get _ i _ (mkI_get _ _ i hlt))
      rw [if_neg (Nat.lt_irrefl i)] at hlr
      have hfr := hr.freeAt hS 0 rfl i
      have HC := Lib.hid hch
      clear hch hbi
      go_wp2_with fail
      go_roundg m
      case measure => omega
      case rel =>
        obtain ⟨c', hr', hS'⟩ := hr.store hS 0 rfl rfl i (.int .i64 (x.toNat : Int))
        rw [iv_set, mkI_set, mkI_congr _ (fun j => if j < i + 1 then (ch (nb b) j : Int) else 0) _ (fun j _ => by
          by_cases hj : j = i
          · subst hj
            rw [if_pos rfl, if_pos (by omega), HC.out]
          · rw [if_neg hj]
            by_cases h2 : j < i
            · rw [if_pos h2, if_pos (by omega)]
            · rw [if_neg h2, if_neg (by omega)])] at hr'
        exact ⟨i + 1, by omega, by go_num, c', Lib.hid ⟨hr', hS'⟩⟩
end Go.Proofs.Ythgbkncanoknkaa
/-
  What neighbours in a suffix array share, and why one less is still shared at the next place.
-/
set_option linter.unusedVariables false
set_option linter.unusedSimpArgs false
namespace Go.Proofs.Ythgbkncanoknkaa
/-- How many two lists share from the front. -/
def lcp : List Nat → List Nat → Nat
  | x :: xs, y :: ys => if x = y then lcp xs ys + 1 else 0
  | _, _ => 0
theorem lcp_cons (x y : Nat) (a b : List Nat) : lcp (x :: a) (y :: b) = if x = y then lcp a b + 1 else 0 := rfl
theorem lcp_nil (a : List Nat) : lcp a [] = 0 := by cases a <;> rfl
theorem nil_lcp (a : List Nat) : lcp [] a = 0 := by cases a <;> rfl
theorem lcp_le : ∀ a b : List Nat, lcp a b ≤ a.length
  | [], b => by rw [nil_lcp]; exact Nat.zero_le _
  | x :: a, [] => by rw [lcp_nil]; exact Nat.zero_le _
  | x :: a, y :: b => by
    rw [lcp_cons, List.length_cons]
    have := lcp_le a b
    split <;> omega
/-- Between two in order there lies no less shared. -/
theorem lcp_mid : ∀ a b c : List Nat, lexlt a b = true → lexlt b c = true → lcp c a ≤ lcp c b
  | a, b, [], _, h => by rw [lexlt_nil] at h; cases h
  | a, [], c :: cs, h, _ => by rw [lexlt_nil] at h; cases h
  | [], b :: bs, c :: cs, _, _ => by rw [lcp_nil]; exact Nat.zero_le _
  | a :: as_, b :: bs, c :: cs, h1, h2 => by
    rw [lexlt_cons] at h1 h2
    rw [lcp_cons, lcp_cons]
    by_cases h : c = a
    · subst h
      rcases h1 with h1 | ⟨rfl, h1⟩
      · rcases h2 with h2 | ⟨e, h2⟩ <;> omega
      · rcases h2 with h2 | ⟨_, h2⟩
        · omega
        · rw [if_pos rfl, if_pos rfl]
          have := lcp_mid as_ bs cs h1 h2
          omega
    · rw [if_neg h]
      exact Nat.zero_le _
theorem lcp_drop (s : List Nat) : ∀ (h p q : Nat), h ≤ lcp (s.drop p) (s.drop q) → lcp (s.drop p) (s.drop q) = h + lcp (s.drop (p + h)) (s.drop (q + h))
  | 0, p, q, _ => by simp
  | h + 1, p, q, hl => by
    have hp : p < s.length := by
      rcases Nat.lt_or_ge p s.length with h1 | h1
      · exact h1
      · rw [List.drop_of_length_le h1, nil_lcp] at hl; omega
    have hq : q < s.length := by
      rcases Nat.lt_or_ge q s.length with h1 | h1
      · exact h1
      · rw [List.drop_of_length_le h1, lcp_nil] at hl; omega
    rw [drop_ch s p hp, drop_ch s q hq, lcp_cons] at hl ⊢
    by_cases e : ch s p = ch s q
    · rw [if_pos e] at hl ⊢
      have := lcp_drop s h (p + 1) (q + 1) (by omega)
      rw [this, show p + 1 + h = p + (h + 1) from by omega, show q + 1 + h = q + (h + 1) from by omega]
      omega
    · rw [if_neg e] at hl; omega
theorem lcp_more (s : List Nat) (h p q : Nat) (hl : h ≤ lcp (s.drop p) (s.drop q)) (hp : p + h < s.length) (hq : q + h < s.length) (he : ch s (p + h) = ch s (q + h)) : h + 1 ≤ lcp (s.drop p) (s.drop q) := by
  rw [lcp_drop s h p q hl, drop_ch s _ hp, drop_ch s _ hq, lcp_cons, if_pos he]
  omega
theorem lcp_end (s : List Nat) (h p q : Nat) (hl : h ≤ lcp (s.drop p) (s.drop q)) (he : p + h < s.length → q + h < s.length → ch s (p + h) ≠ ch s (q + h)) : lcp (s.drop p) (s.drop q) = h := by
  rw [lcp_drop s h p q hl]
  rcases Nat.lt_or_ge (p + h) s.length with h1 | h1
  · rcases Nat.lt_or_ge (q + h) s.length with h2 | h2
    · rw [drop_ch s _ h1, drop_ch s _ h2, lcp_cons, if_neg (he h1 h2)]
      omega
    · rw [List.drop_of_length_le h2, lcp_nil]; rfl
  · rw [List.drop_of_length_le h1, nil_lcp]; rfl
theorem lcp_len (s : List Nat) (p q : Nat) : lcp (s.drop p) (s.drop q) ≤ s.length - p := by
  have := lcp_le (s.drop p) (s.drop q)
  rwa [List.length_drop] at this
/-- Where a place stands. -/
def rk (T : List Nat) (p : Nat) : Nat := T.idxOf p
section
variable {s T : List Nat}
theorem IsSA.nd (h : IsSA s T) : T.Nodup := (List.Perm.nodup_iff h.perm).2 List.nodup_range
theorem IsSA.len (h : IsSA s T) : T.length = s.length := by have := h.perm.length_eq; simpa using this
theorem IsSA.lt (h : IsSA s T) {i a : Nat} (ha : T[i]? = some a) : a < s.length := by have := h.perm.subset (List.mem_of_getElem? ha); simpa using this
theorem IsSA.rk_lt (h : IsSA s T) {p : Nat} (hp : p < s.length) : rk T p < s.length := by
  rw [← h.len]
  exact List.idxOf_lt_length_iff.2 (h.perm.symm.subset (by simpa using hp))
theorem IsSA.rk_get (h : IsSA s T) {p : Nat} (hp : p < s.length) : T[rk T p]? = some p := by
  have h1 := h.rk_lt hp
  rw [← h.len] at h1
  rw [List.getElem?_eq_getElem h1]
  exact congrArg some (List.getElem_idxOf h1)
theorem IsSA.rk_of (h : IsSA s T) {i a : Nat} (ha : T[i]? = some a) : rk T a = i := by
  exact nodup_at h.nd (h.rk_get (h.lt ha)) ha
theorem IsSA.less (h : IsSA s T) {i j a b : Nat} (ha : T[i]? = some a) (hb : T[j]? = some b) (hij : i < j) : lexlt (s.drop a) (s.drop b) = true := by
  obtain ⟨h2, e2⟩ := List.getElem?_eq_some_iff.1 ha
  obtain ⟨h3, e3⟩ := List.getElem?_eq_some_iff.1 hb
  have := List.pairwise_iff_getElem.1 h.sorted i j h2 h3 hij
  rwa [e2, e3] at this
theorem IsSA.rk_less (h : IsSA s T) {a b : Nat} (ha : a < s.length) (hb : b < s.length) (hl : lexlt (s.drop a) (s.drop b) = true) : rk T a < rk T b := by
  rcases Nat.lt_trichotomy (rk T a) (rk T b) with e | e | e
  · exact e
  · have h1 := h.rk_get ha
    rw [e, h.rk_get hb] at h1
    cases h1
    rw [lexlt_irrefl] at hl; cases hl
  · have := h.less (h.rk_get hb) (h.rk_get ha) e
    rw [lexlt_asymm _ _ this] at hl; cases hl
/-- What the suffix at p shares with the one ahead of it. -/
def lq (s T : List Nat) (p : Nat) : Nat := lcp (s.drop p) (s.drop (ch T (rk T p - 1)))
def cm (s T : List Nat) (k : Nat) : Nat := if k = 0 then 0 else lcp (s.drop (ch T k)) (s.drop (ch T (k - 1)))
theorem ch_get {i a : Nat} (h : T[i]? = some a) : ch T i = a := by
  unfold ch
  rw [List.getD_eq_getElem?_getD, h]
  rfl
theorem ch_some (T : List Nat) (i : Nat) (h : i < T.length) : T[i]? = some (ch T i) := by
  have := List.getElem?_eq_getElem h
  rw [ch_get this]
  exact this
theorem cm_rk (h : IsSA s T) {p : Nat} (hp : p < s.length) : cm s T (rk T p) = if rk T p = 0 then 0 else lq s T p := by
  unfold cm lq
  rw [ch_get (h.rk_get hp)]
/-- The step of Kasai and others. -/
theorem kasai (h : IsSA s T) {p : Nat} (hp : p + 1 < s.length) (hr : 0 < rk T p) (hr1 : 0 < rk T (p + 1)) : lq s T p - 1 ≤ lq s T (p + 1) := by
  have hpl : p < s.length := by omega
  have hrl := h.rk_lt hpl
  have hq := ch_some T (rk T p - 1) (by rw [h.len]; omega)
  have hql := h.lt hq
  have hless := h.less hq (h.rk_get hpl) (by omega)
  unfold lq
  generalize ch T (rk T p - 1) = q at *
  rcases Nat.lt_or_ge (lcp (s.drop p) (s.drop q)) 2 with h2 | h2
  · omega
  · rw [drop_ch s p hpl, drop_ch s q hql] at h2 hless ⊢
    rw [lcp_cons] at h2 ⊢
    rw [lexlt_cons] at hless
    by_cases e : ch s p = ch s q
    · rw [if_pos e] at h2 ⊢
      have hless2 : lexlt (s.drop (q + 1)) (s.drop (p + 1)) = true := by
        rcases hless with h3 | ⟨_, h3⟩
        · omega
        · exact h3
      have hq1 : q + 1 < s.length := by
        rcases Nat.lt_or_ge (q + 1) s.length with h3 | h3
        · exact h3
        · rw [List.drop_of_length_le h3, lcp_nil] at h2; omega
      have h4 := h.rk_less hq1 hp hless2
      have hpr := ch_some T (rk T (p + 1) - 1) (by rw [h.len]; have := h.rk_lt hp; omega)
      rw [Nat.add_sub_cancel]
      rcases Nat.lt_or_ge (rk T (q + 1)) (rk T (p + 1) - 1) with h5 | h5
      · exact lcp_mid _ _ _ (h.less (h.rk_get hq1) hpr h5) (h.less hpr (h.rk_get hp) (by omega))
      · have h6 : rk T (q + 1) = rk T (p + 1) - 1 := by omega
        have h7 := h.rk_get hq1
        rw [h6] at h7
        rw [ch_get h7]
        exact Nat.le_refl _
    · rw [if_neg e] at h2; omega
end
end Go.Proofs.Ythgbkncanoknkaa
