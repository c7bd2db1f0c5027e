/-
  The walk of SealedMany.
-/
import Derived.Test.YthgbkncanoknkaaPureMany
import Derived.Test.YthgbkncanoknkaaSg12
import Derived.Test.YthgbkncanoknkaaHeldM
set_option linter.unusedVariables false
set_option linter.unusedSimpArgs false
namespace Go.Proofs.Ythgbkncanoknkaa
open Go.RowKit
set_option maxRecDepth 100000
theorem tmodM (A L : Nat) : (A : Int).tmod (L : Int) = ((A % L : Nat) : Int) := (Int.ofNat_tmod A L).symm
theorem strK (c : Nat) : (⟨#[107]⟩ : ByteArray) ++ ⟨[UInt8.ofNat (97 + c)].toArray⟩ = ⟨(keyM c).toArray⟩ := by
  apply ByteArray.ext
  simp [keyM]
theorem bv_keyc (c : Nat) (h : c < 100) : bv [UInt8.ofNat (97 + c)] = [.int .u8 (97 + (c : Int))] := by
  have : (UInt8.ofNat (97 + c)).toNat = 97 + c := by simp only [UInt8.toNat_ofNat']; omega
  simp only [bv, List.map_cons, List.map_nil, this]
  push_cast
  rfl
theorem RowC.lit1 (g : Nat) (u : Value) (T : TypeId) : RowC T 1 (.slice (some ⟨g, 0, none⟩) 1 1) 1 [u] [(g, .cells #[u] T (0, 0))] :=
  ⟨rfl, .inr ⟨g, 1, #[u], rfl, rfl, Nat.le_refl _, by simp [maxLen], rfl, rfl⟩⟩
set_option maxHeartbeats 8000000 in
theorem SealedMany_walk (w : World) (n0 : Int) (wf0 : (Lit.int .i64 n0).wf = true) (k0 : Int) (wf1 : (Lit.int .i64 k0).wf = true) (z0 : Int) (wf2 : (Lit.int .i64 z0).wf = true) :
    Calls Try.prog 6 #[.int .i64 n0, .int .i64 k0, .int .i64 z0] w fun e w' => e = .returned (.bool true) ∧ Below w.heap.size w w' := by
  obtain ⟨i0, i0a, i0b, i0c, i0d⟩ := info_parts infoRC
  obtain ⟨i8, i8a, i8b, i8c, i8d⟩ := info_parts infoU8
  go_enter Try.func6, Try.ntmps6
  go_wp2_with fail
  refine (begun16_any _).mono ?_
  rintro e w1 ⟨rfl, hb⟩
  have HB := Lib.hid hb
  clear hb
  rcases (show n0 < 0 ∨ (¬ n0 < 0 ∧ 60 < n0) ∨ (¬ n0 < 0 ∧ ¬ 60 < n0 ∧ k0 < 1) ∨ (¬ n0 < 0 ∧ ¬ 60 < n0 ∧ ¬ k0 < 1 ∧ 20 < k0) ∨ (¬ n0 < 0 ∧ ¬ 60 < n0 ∧ ¬ k0 < 1 ∧ ¬ 20 < k0 ∧ z0 < 0) ∨ (¬ n0 < 0 ∧ ¬ 60 < n0 ∧ ¬ k0 < 1 ∧ ¬ 20 < k0 ∧ ¬ z0 < 0 ∧ 120 < z0) ∨ (¬ n0 < 0 ∧ ¬ 60 < n0 ∧ ¬ k0 < 1 ∧ ¬ 20 < k0 ∧ ¬ z0 < 0 ∧ ¬ 120 < z0) by omega) with q | ⟨q, q2⟩ | ⟨q, q2, q3⟩ | ⟨q, q2, q3, q4⟩ | ⟨q, q2, q3, q4, q5⟩ | ⟨q, q2, q3, q4, q5, q6⟩ | ⟨q, q2, q3, q4, q5, q6⟩
  iterate 6
    · go_wp2_with fail
      go_ret
      exact ⟨rfl, HB.out⟩
  go_wp2_with fail
  obtain ⟨N, rfl⟩ := Int.eq_ofNat_of_zero_le (show 0 ≤ n0 by omega)
  obtain ⟨K, rfl⟩ := Int.eq_ofNat_of_zero_le (show 0 ≤ k0 by omega)
  obtain ⟨Z, rfl⟩ := Int.eq_ofNat_of_zero_le (show 0 ≤ z0 by omega)
  have hN : N ≤ 60 := by omega
  have hK1 : 1 ≤ K := by omega
  have hK : K ≤ 20 := by omega
  have hZ : Z ≤ 120 := by omega
  clear q q2 q3 q4 q5 q6 wf0 wf1 wf2
  go_loopg [8, 9] N (fun m s8 s9 wr => ∃ (i : Nat) (c : List (Nat × Obj)), i + m = N ∧ s9 = .int .i64 (i : Int) ∧ RowC 26 4 s8 i (rcs (recsM K Z i)) c ∧ St w1.heap.size w1 wr [c])
  case atStart => exact ⟨0, [], by omega, rfl, RowC.nil _ _, (St.init w1).one_nil⟩
  case round =>
    obtain ⟨i, c, hi, rfl, hr, hS⟩ := hrel
    obtain ⟨ao8, cap8, rfl⟩ := hr.shape
    cases gk with
    | zero =>
      obtain rfl : N = i := by omega
      have hz : ¬ (N : Int) < (N : Int) := by omega
      have HOK := Lib.hid (recsM_ok (K := K) hZ hN)
      have HVL : Hid ((valsP (recsM K Z N)).length ≤ 100000) := Lib.hid (by
        rw [recsM_vals]
        have : Z * N ≤ 120 * 60 := Nat.mul_le_mul hZ hN
        omega)
      have HLN : Hid ((recsM K Z N).length = N ∧ (recsM K Z N).length ≤ 100) := Lib.hid (by rw [recsM_len]; omega)
      have HR := Lib.hid (And.intro hr hS)
      have HFM : Hid (∀ k, k < K → _) := Lib.hid (fun k hk => find_many (Z := Z) hK hk hN)
      have HGT : Hid (∀ i, i < N → (recsM K Z N)[i]? = some (recM K Z i)) := Lib.hid (fun i hi => recsM_get hi)
      generalize recsM K Z N = l at HOK HVL HLN HR HFM HGT
      clear hr hS hi
      go_wp2_with fail
      refine (build_ok _ l wr (by have := HR.out.1.rd HR.out.2 0 rfl; rwa [← HLN.out.1] at this ⊢) HLN.out.2 HVL.out HOK.out).mono ?_
      rintro e w2 ⟨y, u2, c2, rfl, hr2, hseal, hS2⟩
      obtain ⟨ao2, cap2, rfl⟩ := hr2.shape
      have H2 := Lib.hid (And.intro (hr2.rd hS2 0 rfl) (And.intro hseal (HR.out.2.below.trans (hS2.below.mono HR.out.2.below.size))))
      clear hr2 hseal hS2
      go_wp2_with fail
      refine (sopen_seal _ l y w2 H2.out.1 H2.out.2.1 HOK.out HLN.out.2 HVL.out).mono ?_
      rintro e w3 ⟨p, pk, rfl, hp, hin, hb3⟩
      have H3 := Lib.hid (And.intro hp (And.intro hin (HB.out.trans ((H2.out.2.2.trans (hb3.mono H2.out.2.2.size)).mono HB.out.size))))
      clear hp hin hb3
      go_wp2_with fail
      refine (slen_seal p l pk w3 H3.out.2.1).mono ?_
      rintro e w4 ⟨rfl, rfl⟩
      rw [HLN.out.1]
      go_wp2_with fail
      go_loopg [14] K (fun m s14 wr => ∃ k : Nat, k + m = K ∧ s14 = .int .i64 (k : Int) ∧ Hid (Below w3.heap.size w3 wr))
      case atStart => exact ⟨0, by omega, rfl, Lib.hid (Below.refl _ _)⟩
      case round =>
        obtain ⟨k, hk, rfl, HBR⟩ := hrel
        cases gk with
        | zero =>
          have hz : ¬ (k : Int) < (K : Int) := by omega
          go_wp2_with fail
          go_ret
          exact ⟨rfl, H3.out.2.2.trans (HBR.out.mono H3.out.2.2.size)⟩
        | succ m =>
          have hkK : (k : Int) < (K : Int) := by omega
          have hw2 : IntKind.i64.wrap (97 + (k : Int)) = 97 + (k : Int) := IntWalk.i64_in _ (by omega)
          have hw3 : IntKind.u8.wrap (97 + (k : Int)) = 97 + (k : Int) := by
            show ((97 + (k : Int)) % 256) = _
            omega
          have hw4 : IntKind.i64.wrap ((k : Int) + 1) = (k : Int) + 1 := IntWalk.i64_in _ (by omega)
          obtain ⟨x, HBV, hab⟩ : ∃ x : UInt8, Hid (bv [x] = [.int .u8 (97 + (k : Int))]) ∧ (⟨#[107]⟩ : ByteArray) ++ ⟨[x].toArray⟩ = ⟨(keyM k).toArray⟩ := ⟨_, Lib.hid (bv_keyc k (by omega)), strK k⟩
          have kc := conv_str (bs := [x]) (w := wr.alloc (.cells #[.int .u8 (97 + (k : Int))] 5 (0, 0))) (v := .slice (some ⟨wr.heap.size, 0, none⟩) 1 1) (n := 1) (by rw [HBV.out]; exact Rd.one wr _ _)
          have HB5 : Hid (Below w3.heap.size w3 (wr.alloc (.cells #[.int .u8 (97 + (k : Int))] 5 (0, 0)))) := Lib.hid (HBR.out.alloc HBR.out.size _)
          have hFM := HFM.out k (by omega)
          go_wp2_with fail
          refine (sfind_seal p l pk (keyM k) _ (H3.out.2.1.keep HB5.out) HLN.out.2).mono ?_
          rintro e w5 ⟨hf, rfl⟩
          rcases hFM with ⟨hnone, hNk⟩ | ⟨at0, hsome, hkN, hat, hmod, hlast⟩
          · rw [hnone] at hf
            obtain ⟨_, rfl⟩ | ⟨i, hi, _⟩ := hf
            · have q1 : ¬ (k : Int) < (N : Int) := by omega
              have q2 : decide ((k : Int) < (N : Int)) = false := decide_eq_false q1
              clear hnone hNk kc
              go_wp2_with fail
              go_roundg m
              case measure => omega
              case rel => exact ⟨k + 1, by omega, by go_num, HB5⟩
            · cases hi
          · rw [hsome] at hf
            obtain ⟨hno, _⟩ | ⟨i, hi, rfl⟩ := hf
            · cases hno
            · injection hi with hi
              subst hi
              have q1 : (k : Int) < (N : Int) := by omega
              have q2 : decide ((k : Int) < (N : Int)) = true := decide_eq_true q1
              have hrem := tmodM at0 K
              rw [hmod] at hrem
              have hKn : ¬ K = 0 := by omega
              have hw5 : IntKind.i64.wrap ((at0 : Int) + (K : Int)) = (at0 : Int) + (K : Int) := IntWalk.i64_in _ (by omega)
              have hw6 : IntKind.i64.wrap ((at0 : Int) + 1) = (at0 : Int) + 1 := IntWalk.i64_in _ (by omega)
              have q3 : ¬ (at0 : Int) + (K : Int) < (N : Int) := by omega
              have q4 : ((k : Int) != (k : Int)) = false := by simp
              have q5 : (((at0 : Int) + 1) != ((at0 : Int) + 1)) = false := by simp
              have HGA := Lib.hid (HGT.out at0 hat)
              clear hsome hkN hmod hlast hat kc
              go_wp2_with fail
              refine (sget_seal p at0 l pk (recM K Z at0) _ (H3.out.2.1.keep HB5.out) H3.out.1 HOK.out HLN.out.2 HVL.out HGA.out).mono ?_
              rintro e w6 ⟨rfl, hb6⟩
              obtain ⟨r, HRR⟩ : ∃ r, Hid (r = recM K Z at0) := ⟨_, Lib.hid rfl⟩
              have hsq : r.seq = (at0 : Int) + 1 := by rw [HRR.out]; rfl
              rw [← HRR.out]
              unfold recV
              have HB7 := Lib.hid (HB5.out.trans ((hb6.alloc hb6.size (.cells #[.int .i64 r.kind, .int .i64 r.seq, .string ⟨r.key.toArray⟩, .string ⟨r.val.toArray⟩] 26)).mono HB5.out.size))
              clear hb6
              go_wp2_with fail
              go_roundg m
              case measure => omega
              case rel =>
                rw [hsq] at HB7
                exact ⟨k + 1, by omega, by go_num, HB7⟩
    | succ m =>
      have hif : (i : Int) < (N : Int) := by omega
      have hrem := tmodM i K
      have hcK := Nat.mod_lt i (show 0 < K by omega)
      obtain ⟨zs, HZS⟩ : ∃ zs : List UInt8, Hid (zs = List.replicate Z 0) := ⟨_, Lib.hid rfl⟩
      have HRM : Hid (recM K Z i = ⟨1, (i : Int) + 1, keyM (i % K), zs⟩) := Lib.hid (by rw [HZS.out]; rfl)
      generalize i % K = d at hrem hcK HRM
      have hKz : ((K : Int) == 0) = false := by rw [beq_eq_false_iff_ne]; omega
      have hKn : ¬ K = 0 := by omega
      have hw1 : IntKind.i64.wrap ((i : Int) + 1) = (i : Int) + 1 := IntWalk.i64_in _ (by omega)
      have hw2 : IntKind.i64.wrap (97 + (d : Int)) = 97 + (d : Int) := IntWalk.i64_in _ (by omega)
      have hw3 : IntKind.u8.wrap (97 + (d : Int)) = 97 + (d : Int) := by
        show ((97 + (d : Int)) % 256) = _
        omega
      have HR := Lib.hid (And.intro hr hS)
      obtain ⟨x, HBV, hab⟩ : ∃ x : UInt8, Hid (bv [x] = [.int .u8 (97 + (d : Int))]) ∧ (⟨#[107]⟩ : ByteArray) ++ ⟨[x].toArray⟩ = ⟨(keyM d).toArray⟩ := ⟨_, Lib.hid (bv_keyc d (by omega)), strK d⟩
      clear hr hS
      go_wp2_with fail
      refine wp_region_held_drew (S := fun _ => True) mixed trivial (fun hSS => ?_)
      refine take_d (i := 0) 49 (.slice ao8 i cap8) rfl rfl (by kernel_rfl) (by kernel_rfl) (by kernel_rfl) (fun _ _ _ h => h) (Or.inl ⟨by rfl, ?_⟩) hSS ?_
      (focus (intro w' hw'; first | (go_simp; done) | (go_simp; simp [hab]; done) | (go_simp; simp [hab2]; done)))
      simp only [Act.put, List.setIfInBounds_toArray, List.set_cons_zero, List.set_cons_succ]
      refine take_d (i := 1) 50 (.int .i64 (i : Int)) rfl rfl (by kernel_rfl) (by kernel_rfl) (by kernel_rfl) (fun _ _ _ h => h) (Or.inl ⟨by rfl, ?_⟩) hSS ?_
      (focus (intro w' hw'; first | (go_simp; done) | (go_simp; simp [hab]; done) | (go_simp; simp [hab2]; done)))
      simp only [Act.put, List.setIfInBounds_toArray, List.set_cons_zero, List.set_cons_succ]
      refine take_d (i := 2) 51 (.int .i64 ((i : Int) + 1)) rfl rfl (by kernel_rfl) (by kernel_rfl) (by kernel_rfl) (fun _ _ _ h => h) (Or.inl ⟨by rfl, ?_⟩) hSS ?_
      (focus (intro w' hw'; first | (go_simp; done) | (go_simp; simp [hw1]; done)))
      simp only [Act.put, List.setIfInBounds_toArray, List.set_cons_zero, List.set_cons_succ]
      refine take_d (i := 3) 52 (.int .i64 (i : Int)) rfl rfl (by kernel_rfl) (by kernel_rfl) (by kernel_rfl) (fun _ _ _ h => h) (Or.inl ⟨by rfl, ?_⟩) hSS ?_
      (focus (intro w' hw'; first | (go_simp; done) | (go_simp; simp [hab]; done) | (go_simp; simp [hab2]; done)))
      simp only [Act.put, List.setIfInBounds_toArray, List.set_cons_zero, List.set_cons_succ]
      refine take_d (i := 4) 53 (.int .i64 (K : Int)) rfl rfl (by kernel_rfl) (by kernel_rfl) (by kernel_rfl) (fun _ _ _ h => h) (Or.inl ⟨by rfl, ?_⟩) hSS ?_
      (focus (intro w' hw'; first | (go_simp; done) | (go_simp; simp [hab]; done) | (go_simp; simp [hab2]; done)))
      simp only [Act.put, List.setIfInBounds_toArray, List.set_cons_zero, List.set_cons_succ]
      refine take_d (i := 5) 54 (.int .i64 (d : Int)) rfl rfl (by kernel_rfl) (by kernel_rfl) (by kernel_rfl) (fun _ _ _ h => h) (Or.inl ⟨by rfl, ?_⟩) hSS ?_
      (focus (intro w' hw'; first | (go_simp; done) | (go_simp; simp [hKn]; done)))
      simp only [Act.put, List.setIfInBounds_toArray, List.set_cons_zero, List.set_cons_succ]
      refine take_d (i := 6) 55 (.int .i64 (97 + (d : Int))) rfl rfl (by kernel_rfl) (by kernel_rfl) (by kernel_rfl) (fun _ _ _ h => h) (Or.inl ⟨by rfl, ?_⟩) hSS ?_
      (focus (intro w' hw'; first | (go_simp; done) | (go_simp; simp [hw2]; done)))
      simp only [Act.put, List.setIfInBounds_toArray, List.set_cons_zero, List.set_cons_succ]
      refine take_d (i := 7) 56 (.int .u8 (97 + (d : Int))) rfl rfl (by kernel_rfl) (by kernel_rfl) (by kernel_rfl) (fun _ _ _ h => h) (Or.inl ⟨by rfl, ?_⟩) hSS ?_
      (focus (intro w' hw'; first | (go_simp; done) | (go_simp; simp [hw3]; done)))
      simp only [Act.put, List.setIfInBounds_toArray, List.set_cons_zero, List.set_cons_succ]
      refine take_d (i := 11) 60 (.int .i64 (Z : Int)) rfl rfl (by kernel_rfl) (by kernel_rfl) (by kernel_rfl) (fun _ _ _ h => h) (Or.inl ⟨by rfl, ?_⟩) hSS ?_
      (focus (intro w' hw'; first | (go_simp; done) | (go_simp; simp [hab]; done) | (go_simp; simp [hab2]; done)))
      simp only [Act.put, List.setIfInBounds_toArray, List.set_cons_zero, List.set_cons_succ]
      refine wpAnyH_ready (rs := [8, 12]) (by kernel_rfl) (by simp) (AllReadyH.cons rfl (fun K1 hK1 => ?_) (AllReadyH.cons rfl (fun K1 hK1 => ?_) AllReadyH.nil))
      · rw [if_pos (by rfl)]
        go_simp
        have hSA : St w1.heap.size w1 (wr.alloc (.cells #[.int .u8 (97 + (d : Int))] 5 (0, 0))).drew [[(wr.heap.size, .cells #[.int .u8 (97 + (d : Int))] 5 (0, 0))], c] := (HR.out.2.alloc _).drew
        generalize (wr.alloc (.cells #[.int .u8 (97 + (d : Int))] 5 (0, 0))).drew = wA at hSA ⊢
        have hrb : RowC 5 1 (.slice (some ⟨wr.heap.size, 0, none⟩) 1 1) 1 (bv [x]) [(wr.heap.size, .cells #[.int .u8 (97 + (d : Int))] 5 (0, 0))] := by rw [HBV.out]; exact RowC.lit1 _ _ _
        have HA := Lib.hid (And.intro hrb hSA)
        refine hK1.out _ _ trivial (fun _ => ?_)
        (refine wpAnyH_moreB (S' := fun w' => Rd w' 1 (.slice (some ⟨wr.heap.size, 0, none⟩) 1 1) 1 (bv [x])) (fun wz hz => trivial) _ _ _ _ ?_)
        have hSS := hrb.rd hSA 0 rfl
        clear hrb hSA
        try simp only [Act.put, List.setIfInBounds_toArray, List.set_cons_zero, List.set_cons_succ]
        refine take_d (i := 9) 58 (.string ⟨[x].toArray⟩) rfl rfl (by kernel_rfl) (by kernel_rfl) (by kernel_rfl) (fun _ _ _ h => h) (Or.inl ⟨by rfl, ?_⟩) hSS ?_
        (focus (intro w' hw'; have k1 := conv_str (hw'); go_simp; done))
        simp only [Act.put, List.setIfInBounds_toArray, List.set_cons_zero, List.set_cons_succ]
        refine take_d (i := 10) 59 (.string ⟨(keyM d).toArray⟩) rfl rfl (by kernel_rfl) (by kernel_rfl) (by kernel_rfl) (fun _ _ _ h => h) (Or.inl ⟨by rfl, ?_⟩) hSS ?_
        (focus (intro w' hw'; first | (go_simp; done) | (go_simp; simp [hab]; done)))
        simp only [Act.put, List.setIfInBounds_toArray, List.set_cons_zero, List.set_cons_succ]
        refine wpAnyH_ready (rs := [12]) (by kernel_rfl) (by simp) (AllReadyH.cons rfl (fun K2 hK2 => ?_) AllReadyH.nil)
        refine step_mk 29 i8 (.int .u8 0) _ _ rfl rfl .i64 .i64 rfl rfl Try.underlying29 i8a i8b i8c i8d rfl (by omega) (by unfold maxLen; omega) HA.out.2 (fun v2 c2 wX hr2 hS2 => ?_)
        rw [← bv_zeros, ← HZS.out] at hr2
        have HX := Lib.hid (And.intro HA.out.1 (And.intro hr2 (hS2.pick [1, 0, 2] (by decide) [[(wr.heap.size, .cells #[.int .u8 (97 + (d : Int))] 5 (0, 0))], c2, c] rfl)))
        refine hK2.out _ _ (HA.out.1.rd hS2 1 rfl) (fun _ => ?_)
        (refine wpAnyH_moreB (S' := fun w' => Rd w' 1 (.slice (some ⟨wr.heap.size, 0, none⟩) 1 1) 1 (bv [x]) ∧ Rd w' 1 v2 Z (bv zs)) (fun wz hz => hz.1) _ _ _ _ ?_)
        have hSS := And.intro (HA.out.1.rd hS2 1 rfl) (hr2.rd hS2 0 rfl)
        clear hr2 hS2
        try simp only [Act.put, List.setIfInBounds_toArray, List.set_cons_zero, List.set_cons_succ]
        refine take_d (i := 13) 62 (.string ⟨zs.toArray⟩) rfl rfl (by kernel_rfl) (by kernel_rfl) (by kernel_rfl) (fun _ _ _ h => h) (Or.inl ⟨by rfl, ?_⟩) hSS ?_
        (focus (intro w' hw'; have k1 := conv_str (hw'.2); go_simp; done))
        simp only [Act.put, List.setIfInBounds_toArray, List.set_cons_zero, List.set_cons_succ]
        skip
        refine wpAnyH_ready (rs := [14]) (by kernel_rfl) (by simp) (AllReadyH.cons rfl (fun K3 hK3 => ?_) AllReadyH.nil)
        rw [if_pos (by rfl)]
        go_simp
        refine hK3.out _ _ hSS (fun hSS => ?_)
        try simp only [Act.put, List.setIfInBounds_toArray, List.set_cons_zero, List.set_cons_succ]
        refine wpAnyH_ready (rs := [15]) (by kernel_rfl) (by simp) (AllReadyH.cons rfl (fun K4 hK4 => ?_) AllReadyH.nil)
        rw [if_pos (by rfl)]
        go_simp
        have hn3 := Rd.litsN 4 wX #[.int .i64 1, .int .i64 ((i : Int) + 1), .string ⟨(keyM d).toArray⟩, .string ⟨zs.toArray⟩] 26 (by decide) rfl (by decide)
        have hSX := HX.out.2.2.alloc' (.cells #[.int .i64 1, .int .i64 ((i : Int) + 1), .string ⟨(keyM d).toArray⟩, .string ⟨zs.toArray⟩] 26 (0, 0))
        generalize wX.alloc (.cells #[.int .i64 1, .int .i64 ((i : Int) + 1), .string ⟨(keyM d).toArray⟩, .string ⟨zs.toArray⟩] 26 (0, 0)) = wY at hn3 hSX ⊢
        have HN : Hid (Rd wY 4 (.slice (some ⟨wX.heap.size, 0, none⟩) 1 1) 1 (recC (recM K Z i))) := Lib.hid (by rw [HRM.out]; exact hn3)
        clear hn3
        refine hK4.out _ _ ⟨HX.out.1.rd hSX 0 rfl, HX.out.2.1.rd hSX 1 rfl⟩ (fun hSS => ?_)
        try simp only [Act.put, List.setIfInBounds_toArray, List.set_cons_zero, List.set_cons_succ]
        refine wpAnyH_ready (rs := [16]) (by kernel_rfl) (by simp) (AllReadyH.cons rfl (fun K5 hK5 => ?_) AllReadyH.nil)
        refine step_app (n := i) (m := 1) (v := .slice ao8 i cap8) (vx := .slice (some ⟨wX.heap.size, 0, none⟩) 1 1) (xs := rcs (recsM K Z i)) (news := recC (recM K Z i)) 2 22 i0 (.agg #[.int .i64 0, .int .i64 0, .string ⟨#[]⟩, .string ⟨#[]⟩]) _ _ rfl rfl (by kernel_rfl) (by kernel_rfl) Try.underlying22 i0a i0b i0c i0d rfl (by decide) hSX rfl HR.out.1 HN.out (recC_one _) (by unfold maxLen; omega) (by omega) (fun v5 c5 w5 hr5 hS5 => ?_)
        obtain ⟨ao5, cap5, rfl⟩ := hr5.shape
        have H5 := Lib.hid (And.intro hr5 (hS5.pick [2] (by decide) [c5] rfl))
        refine hK5.out _ _ ⟨HX.out.1.rd hS5 0 rfl, HX.out.2.1.rd hS5 1 rfl⟩ (fun hSS => ?_)
        clear hr5 hS5 hSX
        try simp only [Act.put, List.setIfInBounds_toArray, List.set_cons_zero, List.set_cons_succ]
        refine wpAnyH_ready (rs := [17]) (by kernel_rfl) (by simp) (AllReadyH.cons rfl (fun K6 hK6 => ?_) AllReadyH.nil)
        rw [if_pos (by rfl)]
        go_simp
        refine hK6.out _ _ hSS (fun _ => ?_)
        refine wpAnyH_done (by kernel_rfl) ?_ _
        clear hSS
        go_wp2_with fail
        go_roundg m
        case measure => omega
        case rel =>
          have hr5 := H5.out.1
          rw [rcs_snoc, ← recsM_succ] at hr5
          exact ⟨i + 1, c5, by omega, by go_num, hr5, H5.out.2⟩
      · refine step_mk 29 i8 (.int .u8 0) _ _ rfl rfl .i64 .i64 rfl rfl Try.underlying29 i8a i8b i8c i8d rfl (by omega) (by unfold maxLen; omega) HR.out.2.drew (fun v2 c2 wA hr2 hS2 => ?_)
        rw [← bv_zeros, ← HZS.out] at hr2
        have HA := Lib.hid (And.intro hr2 hS2)
        refine hK1.out _ _ trivial (fun _ => ?_)
        (refine wpAnyH_moreB (S' := fun w' => Rd w' 1 v2 Z (bv zs)) (fun wz hz => trivial) _ _ _ _ ?_)
        have hSS := hr2.rd hS2 0 rfl
        clear hr2 hS2
        try simp only [Act.put, List.setIfInBounds_toArray, List.set_cons_zero, List.set_cons_succ]
        refine take_d (i := 13) 62 (.string ⟨zs.toArray⟩) rfl rfl (by kernel_rfl) (by kernel_rfl) (by kernel_rfl) (fun _ _ _ h => h) (Or.inl ⟨by rfl, ?_⟩) hSS ?_
        (focus (intro w' hw'; have k1 := conv_str (hw'); go_simp; done))
        simp only [Act.put, List.setIfInBounds_toArray, List.set_cons_zero, List.set_cons_succ]
        refine wpAnyH_ready (rs := [8]) (by kernel_rfl) (by simp) (AllReadyH.cons rfl (fun K2 hK2 => ?_) AllReadyH.nil)
        rw [if_pos (by rfl)]
        go_simp
        have hSX : St w1.heap.size w1 (wA.alloc (.cells #[.int .u8 (97 + (d : Int))] 5 (0, 0))) [[(wA.heap.size, .cells #[.int .u8 (97 + (d : Int))] 5 (0, 0))], c2, c] := HA.out.2.alloc _
        generalize wA.alloc (.cells #[.int .u8 (97 + (d : Int))] 5 (0, 0)) = wX at hSX ⊢
        have hrb : RowC 5 1 (.slice (some ⟨wA.heap.size, 0, none⟩) 1 1) 1 (bv [x]) [(wA.heap.size, .cells #[.int .u8 (97 + (d : Int))] 5 (0, 0))] := by rw [HBV.out]; exact RowC.lit1 _ _ _
        have HX := Lib.hid (And.intro hrb (And.intro HA.out.1 hSX))
        refine hK2.out _ _ (HA.out.1.rd hSX 1 rfl) (fun _ => ?_)
        (refine wpAnyH_moreB (S' := fun w' => Rd w' 1 (.slice (some ⟨wA.heap.size, 0, none⟩) 1 1) 1 (bv [x]) ∧ Rd w' 1 v2 Z (bv zs)) (fun wz hz => hz.2) _ _ _ _ ?_)
        have hSS := And.intro (hrb.rd hSX 0 rfl) (HA.out.1.rd hSX 1 rfl)
        clear hrb hSX
        try simp only [Act.put, List.setIfInBounds_toArray, List.set_cons_zero, List.set_cons_succ]
        refine take_d (i := 9) 58 (.string ⟨[x].toArray⟩) rfl rfl (by kernel_rfl) (by kernel_rfl) (by kernel_rfl) (fun _ _ _ h => h) (Or.inl ⟨by rfl, ?_⟩) hSS ?_
        (focus (intro w' hw'; have k1 := conv_str (hw'.1); go_simp; done))
        simp only [Act.put, List.setIfInBounds_toArray, List.set_cons_zero, List.set_cons_succ]
        refine take_d (i := 10) 59 (.string ⟨(keyM d).toArray⟩) rfl rfl (by kernel_rfl) (by kernel_rfl) (by kernel_rfl) (fun _ _ _ h => h) (Or.inl ⟨by rfl, ?_⟩) hSS ?_
        (focus (intro w' hw'; first | (go_simp; done) | (go_simp; simp [hab]; done)))
        simp only [Act.put, List.setIfInBounds_toArray, List.set_cons_zero, List.set_cons_succ]
        skip
        refine wpAnyH_ready (rs := [14]) (by kernel_rfl) (by simp) (AllReadyH.cons rfl (fun K3 hK3 => ?_) AllReadyH.nil)
        rw [if_pos (by rfl)]
        go_simp
        refine hK3.out _ _ hSS (fun hSS => ?_)
        try simp only [Act.put, List.setIfInBounds_toArray, List.set_cons_zero, List.set_cons_succ]
        refine wpAnyH_ready (rs := [15]) (by kernel_rfl) (by simp) (AllReadyH.cons rfl (fun K4 hK4 => ?_) AllReadyH.nil)
        rw [if_pos (by rfl)]
        go_simp
        have hn3 := Rd.litsN 4 wX #[.int .i64 1, .int .i64 ((i : Int) + 1), .string ⟨(keyM d).toArray⟩, .string ⟨zs.toArray⟩] 26 (by decide) rfl (by decide)
        have hSX := HX.out.2.2.alloc' (.cells #[.int .i64 1, .int .i64 ((i : Int) + 1), .string ⟨(keyM d).toArray⟩, .string ⟨zs.toArray⟩] 26 (0, 0))
        generalize wX.alloc (.cells #[.int .i64 1, .int .i64 ((i : Int) + 1), .string ⟨(keyM d).toArray⟩, .string ⟨zs.toArray⟩] 26 (0, 0)) = wY at hn3 hSX ⊢
        have HN : Hid (Rd wY 4 (.slice (some ⟨wX.heap.size, 0, none⟩) 1 1) 1 (recC (recM K Z i))) := Lib.hid (by rw [HRM.out]; exact hn3)
        clear hn3
        refine hK4.out _ _ ⟨HX.out.1.rd hSX 0 rfl, HX.out.2.1.rd hSX 1 rfl⟩ (fun hSS => ?_)
        try simp only [Act.put, List.setIfInBounds_toArray, List.set_cons_zero, List.set_cons_succ]
        refine wpAnyH_ready (rs := [16]) (by kernel_rfl) (by simp) (AllReadyH.cons rfl (fun K5 hK5 => ?_) AllReadyH.nil)
        refine step_app (n := i) (m := 1) (v := .slice ao8 i cap8) (vx := .slice (some ⟨wX.heap.size, 0, none⟩) 1 1) (xs := rcs (recsM K Z i)) (news := recC (recM K Z i)) 2 22 i0 (.agg #[.int .i64 0, .int .i64 0, .string ⟨#[]⟩, .string ⟨#[]⟩]) _ _ rfl rfl (by kernel_rfl) (by kernel_rfl) Try.underlying22 i0a i0b i0c i0d rfl (by decide) hSX rfl HR.out.1 HN.out (recC_one _) (by unfold maxLen; omega) (by omega) (fun v5 c5 w5 hr5 hS5 => ?_)
        obtain ⟨ao5, cap5, rfl⟩ := hr5.shape
        have H5 := Lib.hid (And.intro hr5 (hS5.pick [2] (by decide) [c5] rfl))
        refine hK5.out _ _ ⟨HX.out.1.rd hS5 0 rfl, HX.out.2.1.rd hS5 1 rfl⟩ (fun hSS => ?_)
        clear hr5 hS5 hSX
        try simp only [Act.put, List.setIfInBounds_toArray, List.set_cons_zero, List.set_cons_succ]
        refine wpAnyH_ready (rs := [17]) (by kernel_rfl) (by simp) (AllReadyH.cons rfl (fun K6 hK6 => ?_) AllReadyH.nil)
        rw [if_pos (by rfl)]
        go_simp
        refine hK6.out _ _ hSS (fun _ => ?_)
        refine wpAnyH_done (by kernel_rfl) ?_ _
        clear hSS
        go_wp2_with fail
        go_roundg m
        case measure => omega
        case rel =>
          have hr5 := H5.out.1
          rw [rcs_snoc, ← recsM_succ] at hr5
          exact ⟨i + 1, c5, by omega, by go_num, hr5, H5.out.2⟩
end Go.Proofs.Ythgbkncanoknkaa
