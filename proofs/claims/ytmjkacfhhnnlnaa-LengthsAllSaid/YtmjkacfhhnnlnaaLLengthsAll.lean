/-
  The walk of LengthsAll.
-/
import Derived.Test.YtmjkacfhhnnlnaaLLengthsSteep
set_option linter.unusedVariables false
set_option linter.unusedSimpArgs false
namespace Go.Proofs.Ytmjkacfhhnnlnaa
open Go.RowKit
set_option maxRecDepth 100000
def badT (f : List Int) (i : Nat) : Bool := decide (300 < f.length) || (f.take i).any badF
def posT (f : List Int) (i : Nat) : Nat := (f.take i).countP fun x => decide (0 < x)
theorem badT_succ {f : List Int} {i : Nat} {x : Int} (hx : f[i]? = some x) : badT f (i + 1) = (badT f i || badF x) := by
  unfold badT
  rw [List.take_add_one, hx, List.any_append]
  simp [Bool.or_assoc]
theorem posT_succ {f : List Int} {i : Nat} {x : Int} (hx : f[i]? = some x) : posT f (i + 1) = posT f i + if 0 < x then 1 else 0 := by
  unfold posT
  rw [List.take_add_one, hx, List.countP_append]
  by_cases h : 0 < x <;> simp [h]
theorem badT_end (f : List Int) : badT f f.length = badL f := by
  unfold badT badL
  rw [List.take_length]
theorem posT_end {f : List Int} : posT f f.length = (srt (fN f)).length := by
  unfold posT
  rw [List.take_length]
  have h1 := (srt_worths (fN f)).2.length_eq
  rw [List.length_map] at h1
  rw [h1, ← List.countP_eq_length_filter]
  unfold fN
  rw [List.countP_map]
  congr 1
  funext x
  show decide (0 < x) = decide (0 < x.toNat)
  rw [decide_eq_decide]
  omega
theorem kraft_lens {f : List Int} (h : badL f = false) : kraftP (mkI (fun s => (lenP (fN f) s : Int)) f.length) = if (srt (fN f)).length = 0 then 0 else if (srt (fN f)).length = 1 then 2 ^ 14 else 2 ^ 15 := by
  obtain ⟨g1, g2, g3⟩ := good_small h
  rw [← kraft_lenP (F := fN f) (by rw [fN_length]; exact g2), fN_length]
  unfold kraftP mkI
  rw [List.map_map]
  congr 1
  apply List.map_congr_left
  intro s _
  show (if 1 ≤ ((lenP (fN f) s : Nat) : Int) ∧ ((lenP (fN f) s : Nat) : Int) ≤ 15 then 2 ^ (15 - (((lenP (fN f) s : Nat) : Int)).toNat) else 0) = krP (lenP (fN f) s)
  unfold krP
  rw [Int.toNat_natCast]
  by_cases q : 1 ≤ lenP (fN f) s ∧ lenP (fN f) s ≤ 15
  · rw [if_pos q, if_pos (by omega)]
  · rw [if_neg q, if_neg (by omega)]
theorem lens_zero {f : List Int} (h : badL f = false) {i : Nat} {x : Int} (hx : f[i]? = some x) (h0 : x = 0) : ((lenP (fN f) i : Nat) : Int) = 0 := by
  obtain ⟨g1, g2, g3⟩ := good_small h
  have e1 := fN_get f i x hx
  have := lenP_zero (F := fN f) (by rw [fN_length]; exact g2) (s := i) (by rw [e1, h0]; rfl)
  omega
set_option maxHeartbeats 8000000 in
theorem LengthsAll_walk (w : World) (v : Value) (n : Nat) (f0 : List Int) (h : Rd w 1 v n (f0.map (Value.int .i64))) (wf : ∀ z ∈ f0, (Lit.int .i64 z).wf = true) (sz : n * 8 ≤ 140737488351232) :
    Calls Try.prog 3 #[v] w fun e w' => e = .returned (.bool true) ∧ Below w.heap.size w w' := by
  have hn : f0.length = n := by have := h.len; simpa using this
  subst hn
  have H1 := Lib.hid h
  clear h wf sz
  go_enter Try.func3, Try.ntmps3
  go_wp2_with fail
  refine (begun6 _).mono ?_
  rintro e w1 ⟨rfl, hb⟩
  have hS := (St.init w).mono hb
  clear hb
  go_wp2_with fail
  refine (cut6_gen v f0 w1 (H1.out.st hS)).mono ?_
  rintro e w2 ⟨v', rfl, hgen, rfl⟩
  have hf : Rd w 1 v' (f0.take 305).length (iv (f0.take 305)) := hgen w H1.out
  have hfl : (f0.take 305).length ≤ 305 := by simp; omega
  generalize f0.take 305 = f at *
  obtain ⟨ao1, cap1, rfl⟩ := hf.shape
  have HF := Lib.hid (And.intro hf hS)
  have HA := Lib.hid (hf.st hS)
  clear hf hgen hS
  have hfi : (f.length : Int) ≤ 305 := by omega
  have HB0 : Hid (Value.bool (decide (300 < (f.length : Int))) = .bool (badT f 0)) := Lib.hid (by
    unfold badT
    simp
    omega)
  go_wp2_with fail
  go_loopg [4, 5, 6] f.length (fun m s4 s5 s6 wx => ∃ (i c : Nat) (B : Bool), i + m = f.length ∧ s6 = .int .i64 (i : Int) ∧ s4 = .bool B ∧ s5 = .int .i64 (c : Int) ∧ Hid (B = badT f i ∧ c = posT f i) ∧ c ≤ i ∧ w1 = wx)
  case atStart => exact ⟨0, 0, badT f 0, by omega, rfl, HB0.out, rfl, Lib.hid ⟨rfl, rfl⟩, by omega, rfl⟩
  case round =>
    obtain ⟨i, c, B, hi, rfl, rfl, rfl, HT, hc, rfl⟩ := hrel
    clear HB0
    cases gk with
    | succ m =>
      have hif : (i : Int) < (f.length : Int) := by omega
      obtain ⟨x, hx⟩ : ∃ x, f[i]? = some x := ⟨_, List.getElem?_eq_getElem (by omega)⟩
      obtain ⟨ad1, rfl, hc1⟩ := HA.out.at (iv_get f i x hx)
      have HX := Lib.hid (And.intro (badT_succ hx) (posT_succ hx))
      clear hx
      by_cases qp : 0 < x
      · have qp' : ¬ x < 0 := by omega
        have HP : Hid (c + 1 = posT f (i + 1)) := Lib.hid (by rw [HX.out.2, if_pos qp, HT.out.2])
        cases B with
        | true =>
          have HBB : Hid (true = badT f (i + 1)) := Lib.hid (by rw [HX.out.1, ← HT.out.1]; rfl)
          go_wp2_with fail
          go_roundg m
          case measure => omega
          case rel => exact ⟨i + 1, c + 1, true, by omega, by go_num, rfl, by go_num, Lib.hid ⟨HBB.out, HP.out⟩, by omega, rfl⟩
        | false =>
          by_cases qx : 1073741824 < x
          · have HBB : Hid (true = badT f (i + 1)) := Lib.hid (by rw [HX.out.1, ← HT.out.1]; simp [badF, qx])
            go_wp2_with fail
            go_roundg m
            case measure => omega
            case rel => exact ⟨i + 1, c + 1, true, by omega, by go_num, rfl, by go_num, Lib.hid ⟨HBB.out, HP.out⟩, by omega, rfl⟩
          · have HBB : Hid (false = badT f (i + 1)) := Lib.hid (by rw [HX.out.1, ← HT.out.1]; simp [badF]; omega)
            go_wp2_with fail
            go_roundg m
            case measure => omega
            case rel => exact ⟨i + 1, c + 1, false, by omega, by go_num, rfl, by go_num, Lib.hid ⟨HBB.out, HP.out⟩, by omega, rfl⟩
      · have qx : ¬ 1073741824 < x := by omega
        have HP : Hid (c = posT f (i + 1)) := Lib.hid (by rw [HX.out.2, if_neg qp, HT.out.2]; rfl)
        cases B with
        | true =>
          have HBB : Hid (true = badT f (i + 1)) := Lib.hid (by rw [HX.out.1, ← HT.out.1]; rfl)
          go_wp2_with fail
          go_roundg m
          case measure => omega
          case rel => exact ⟨i + 1, c, true, by omega, by go_num, rfl, rfl, Lib.hid ⟨HBB.out, HP.out⟩, by omega, rfl⟩
        | false =>
          by_cases qn : x < 0
          · have HBB : Hid (true = badT f (i + 1)) := Lib.hid (by rw [HX.out.1, ← HT.out.1]; simp [badF, qn])
            go_wp2_with fail
            go_roundg m
            case measure => omega
            case rel => exact ⟨i + 1, c, true, by omega, by go_num, rfl, rfl, Lib.hid ⟨HBB.out, HP.out⟩, by omega, rfl⟩
          · have HBB : Hid (false = badT f (i + 1)) := Lib.hid (by rw [HX.out.1, ← HT.out.1]; simp [badF]; omega)
            go_wp2_with fail
            go_roundg m
            case measure => omega
            case rel => exact ⟨i + 1, c, false, by omega, by go_num, rfl, rfl, Lib.hid ⟨HBB.out, HP.out⟩, by omega, rfl⟩
    | zero =>
      obtain rfl : i = f.length := by omega
      have hz : ¬ (f.length : Int) < (f.length : Int) := by omega
      have HE : Hid (B = badL f ∧ c = (srt (fN f)).length) := Lib.hid ⟨by rw [HT.out.1, badT_end], by rw [HT.out.2, posT_end]⟩
      clear HT hi
      go_wp2_with fail
      refine (of_any f _ _ (by omega) HA.out).mono ?_
      rintro e w2 (⟨hbad, rfl, rfl⟩ | ⟨hgood, v6, c6, rfl, hr6, hS6⟩)
      · obtain rfl : B = true := by rw [HE.out.1]; exact hbad
        go_wp2_with fail
        go_ret
        exact ⟨rfl, HF.out.2.below⟩
      obtain rfl : B = false := by rw [HE.out.1]; exact hgood
      obtain ⟨ao6, cap6, rfl⟩ := hr6.shape
      have hS7 := HF.out.2.join hS6
      have H6 := Lib.hid (And.intro hr6 (And.intro hS7 hgood))
      have HA2 := Lib.hid (HF.out.1.st hS7)
      have HB := Lib.hid (hr6.rd hS7 0 rfl)
      have hq : ((f.length : Int) != (f.length : Int)) = false := by simp
      clear hr6 hS6 hS7 hgood
      go_wp2_with fail
      go_loopg [9] f.length (fun m s9 wx => ∃ k : Nat, k + m = f.length ∧ s9 = .int .i64 (k : Int) ∧ w2 = wx)
      case atStart => exact ⟨0, by omega, rfl, rfl⟩
      case round =>
        obtain ⟨k, hk, rfl, rfl⟩ := hrel
        cases gk with
        | succ m =>
          have hkf : (k : Int) < (f.length : Int) := by omega
          obtain ⟨x, hx⟩ : ∃ x, f[k]? = some x := ⟨_, List.getElem?_eq_getElem (by omega)⟩
          obtain ⟨ad1, rfl, hc1⟩ := HA2.out.at (iv_get f k x hx)
          obtain ⟨ad2, rfl, hc2⟩ := HB.out.at (iv_get _ k _ (mkI_get _ _ k (by omega)))
          have hx0 := (good_small H6.out.2.2).2.2 x (List.mem_of_getElem? hx)
          by_cases q0 : x = 0
          · have hl := lens_zero H6.out.2.2 hx q0
            rw [hl] at hc2
            subst q0
            clear hx hl
            go_wp2_with fail
            go_roundg m
            case measure => omega
            case rel => exact ⟨k + 1, by omega, by go_num, rfl⟩
          · obtain ⟨k1, k2⟩ := lens_in H6.out.2.2 hx (by omega)
            have q1 : (x == 0) = false := by simpa using q0
            have q2 : 0 < x := by omega
            clear hx q0
            generalize ((lenP (fN f) k : Nat) : Int) = z at *
            go_wp2_with fail
            go_roundg m
            case measure => omega
            case rel => exact ⟨k + 1, by omega, by go_num, rfl⟩
        | zero =>
          obtain rfl : k = f.length := by omega
          have hz : ¬ (f.length : Int) < (f.length : Int) := by omega
          clear hk
          obtain ⟨g1, g2, g3⟩ := good_small H6.out.2.2
          have HK : Hid (kraftP (mkI (fun s => (lenP (fN f) s : Int)) f.length) = if c = 0 then 0 else if c = 1 then 2 ^ 14 else 2 ^ 15) := Lib.hid (by rw [kraft_lens H6.out.2.2, ← HE.out.2])
          have HG := Lib.hid (And.intro g1 (lens_small g2 f.length))
          clear g1 g2 g3
          have HRK := Lib.hid (refkraft_any (.slice ao6 f.length cap6) (mkI (fun s => (lenP (fN f) s : Int)) f.length) w2 (by rw [mkI_length]; exact HB.out) (by rw [mkI_length]; omega))
          have HLK := fun w' (hx : Rd w' 1 (.slice ao6 f.length cap6) f.length (iv (mkI (fun s => (lenP (fN f) s : Int)) f.length))) => lkraft_any (.slice ao6 f.length cap6) (mkI (fun s => (lenP (fN f) s : Int)) f.length) w' (by rw [mkI_length]; exact hx) (by rw [mkI_length]; omega)
          have HRK2 := fun w' (hx : Rd w' 1 (.slice ao6 f.length cap6) f.length (iv (mkI (fun s => (lenP (fN f) s : Int)) f.length))) => refkraft_any (.slice ao6 f.length cap6) (mkI (fun s => (lenP (fN f) s : Int)) f.length) w' (by rw [mkI_length]; exact hx) (by rw [mkI_length]; omega)
          replace HLK := Lib.hid HLK
          replace HRK2 := Lib.hid HRK2
          have hcc : c = 0 ∨ c = 1 ∨ 2 ≤ c := by omega
          rcases hcc with hc0 | hc0 | hc0
          case' inl =>
            have q1 : ((c : Int) == 1) = false := by subst hc0; rfl
            have q2 : ¬ (1 : Int) < (c : Int) := by omega
            go_wp2_with fail
          case' inr.inl =>
            have q1 : ((c : Int) == 1) = true := by subst hc0; rfl
            have q2 : ¬ (1 : Int) < (c : Int) := by omega
            have hk := HK.out
            rw [if_neg (by omega), if_pos hc0] at hk
            replace hk := Lib.hid hk
            go_wp2_with fail
            refine (HRK.out).mono ?_
            rintro e wx ⟨rfl, rfl⟩
            rw [hk.out]
            go_wp2_with fail
          case' inr.inr =>
            have q1 : ((c : Int) == 1) = false := by simp; omega
            have q2 : (1 : Int) < (c : Int) := by omega
            have hk := HK.out
            rw [if_neg (by omega), if_neg (by omega)] at hk
            replace hk := Lib.hid hk
            go_wp2_with fail
            refine (HRK.out).mono ?_
            rintro e wx ⟨rfl, rfl⟩
            rw [hk.out]
            go_wp2_with fail
          all_goals (
            refine (refcost_any _ _ f (mkI (fun s => (lenP (fN f) s : Int)) f.length) _ HA2.out (by rw [mkI_length]; exact HB.out) HG.out.1 HG.out.2).mono ?_
            rintro e w4 ⟨rfl, hd⟩
            have HS4 := Lib.hid (H6.out.2.1.Drew hd)
            clear hd
            rw [cost_least H6.out.2.2]
            go_wp2_with fail
            refine (least_any f _ _ H6.out.2.2 (HF.out.1.st HS4.out)).mono ?_
            rintro e w5 ⟨rfl, hb⟩
            have HS5 := Lib.hid (HS4.out.mono hb)
            clear hb
            go_wp2_with fail
            refine (HLK.out w5 (H6.out.1.rd HS5.out 0 rfl)).mono ?_
            rintro e w6 ⟨rfl, rfl⟩
            go_wp2_with fail
            refine (HRK2.out w5 (H6.out.1.rd HS5.out 0 rfl)).mono ?_
            rintro e w6 ⟨rfl, rfl⟩
            generalize ((kraftP (mkI (fun s => (lenP (fN f) s : Int)) f.length) : Nat) : Int) = kz
            go_wp2_with fail
            refine (lcost_any _ _ f (mkI (fun s => (lenP (fN f) s : Int)) f.length) _ (HF.out.1.st HS5.out) (by rw [mkI_length]; exact H6.out.1.rd HS5.out 0 rfl) HG.out.1 HG.out.2).mono ?_
            rintro e w7 ⟨rfl, hd⟩
            have HS7 := Lib.hid (HS5.out.Drew hd)
            clear hd
            rw [cost_least H6.out.2.2]
            go_wp2_with fail
            refine (refcost_any _ _ f (mkI (fun s => (lenP (fN f) s : Int)) f.length) _ (HF.out.1.st HS7.out) (by rw [mkI_length]; exact H6.out.1.rd HS7.out 0 rfl) HG.out.1 HG.out.2).mono ?_
            rintro e w8 ⟨rfl, hd⟩
            have HS8 := Lib.hid (HS7.out.Drew hd).below
            clear hd
            rw [cost_least H6.out.2.2]
            generalize ((leastP (fN f) : Nat) : Int) = z at *
            go_wp2_with fail
            go_ret
            exact ⟨by simp, HS8.out⟩)
end Go.Proofs.Ytmjkacfhhnnlnaa
