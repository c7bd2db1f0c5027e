/-
  The walk of ContainerRot.
-/
import Derived.Test.YtdhnmcdgiddhdaaCtFill
import Derived.Test.YtdhnmcdgiddhdaaPureRot
import Derived.Test.YtdhnmcdgiddhdaaCg2
set_option linter.unusedVariables false
set_option linter.unusedSimpArgs false
namespace Go.Proofs.Ytdhnmcdgiddhdaa
open Go.RowKit
set_option maxRecDepth 100000
theorem xorB_ne (y x : UInt8) (h : x ≠ 0) : ∃ z : UInt8, bits .xor .u8 (y.toNat : Int) (x.toNat : Int) = (z.toNat : Int) ∧ z ≠ y := by
  refine ⟨y ^^^ x, ?_, fun e => h ?_⟩
  · unfold bits
    simp only
    have h1 : (BitVec.ofInt IntKind.u8.bits (y.toNat : Int)) = BitVec.ofNat 8 y.toNat := BitVec.ofInt_natCast 8 y.toNat
    have h2 : (BitVec.ofInt IntKind.u8.bits (x.toNat : Int)) = BitVec.ofNat 8 x.toNat := BitVec.ofInt_natCast 8 x.toNat
    rw [h1, h2, IntKind.wrap_u8, UInt8.toNat_xor]
    have hy := y.toNat_lt
    have hx := x.toNat_lt
    have h3 : y.toNat ^^^ x.toNat < 256 := Nat.xor_lt_two_pow (n := 8) hy hx
    have h4 : (BitVec.ofNat 8 y.toNat ^^^ BitVec.ofNat 8 x.toNat).toNat = y.toNat ^^^ x.toNat := by
      rw [BitVec.toNat_xor, BitVec.toNat_ofNat, BitVec.toNat_ofNat, Nat.mod_eq_of_lt (by omega), Nat.mod_eq_of_lt (by omega)]
    have h5 : ((BitVec.ofNat 8 y.toNat ^^^ BitVec.ofNat 8 x.toNat).toNat : Int) = ((y.toNat ^^^ x.toNat : Nat) : Int) := by rw [h4]
    refine (congrArg (· % (256 : Int)) h5).trans ?_
    show ((y.toNat ^^^ x.toNat : Nat) : Int) % 256 = _
    omega
  · have e2 := congrArg UInt8.toNat e
    rw [UInt8.toNat_xor] at e2
    have e3 : x.toNat ^^^ y.toNat = 0 ^^^ y.toNat := by rw [Nat.xor_comm, e2, Nat.zero_xor]
    exact UInt8.toNat_inj.1 (xor_cancel _ _ _ e3)
set_option maxHeartbeats 4000000 in
theorem ContainerRot_walk (w : World) (v : Value) (bs0 : List UInt8) (h : Rd w 1 v bs0.length (bv bs0)) (sz : bs0.length ≤ 140737488351232) (n : Int) (wf : (Lit.int .i64 n).wf = true) (a : Int) (wa : (Lit.int .i64 a).wf = true)
    (xv : Int) (wx : (Lit.int .u8 xv).wf = true) (f : Int) (wff : (Lit.int .i64 f).wf = true) (p : Int) (wp : (Lit.int .i64 p).wf = true) :
    Calls Try.prog 7 #[v, .int .i64 n, .int .i64 a, .int .u8 xv, .int .i64 f, .int .i64 p] w fun e w' => e = .returned (.bool true) ∧ Below w.heap.size w w' := by
  have hx : 0 ≤ xv ∧ xv < 256 := by
    have h := wx
    have h1 : IntKind.u8.min = 0 := rfl
    have h2 : IntKind.u8.max = 255 := rfl
    simp [Lit.wf] at h
    omega
  obtain ⟨xb, rfl⟩ : ∃ y : UInt8, xv = (y.toNat : Int) := ⟨UInt8.ofNat xv.toNat, by
    rw [UInt8.toNat_ofNat']
    omega⟩
  have hbf := bounds_i64 wff
  have hbp := bounds_i64 wp
  rcases (show n < 0 ∨ (0 ≤ n ∧ 2500 < n) ∨ (0 ≤ n ∧ n ≤ 2500 ∧ a < 0) ∨ (0 ≤ n ∧ n ≤ 2500 ∧ 0 ≤ a ∧ (xb.toNat : Int) = 0) ∨ (0 ≤ n ∧ n ≤ 2500 ∧ 0 ≤ a ∧ ¬ (xb.toNat : Int) = 0) by omega) with q | ⟨q, q2⟩ | ⟨q, q2, q3⟩ | ⟨q, q2, q3, q4⟩ | ⟨q, q2, q3, q4⟩
  iterate 4
    · go_enter Try.func7, Try.ntmps7
      go_wp2_with fail
      refine (begun11 _).mono ?_
      rintro e w1 ⟨rfl, hb⟩
      go_wp2_with fail
      go_ret
      exact ⟨rfl, hb⟩
  obtain ⟨N, rfl⟩ := Int.eq_ofNat_of_zero_le q
  obtain ⟨A, rfl⟩ := Int.eq_ofNat_of_zero_le q3
  have hN : N ≤ 2500 := by omega
  have hxne : xb ≠ 0 := fun e => q4 (by rw [e]; rfl)
  have d1 : decide ((N : Int) < 0) = false := by rw [decide_eq_false_iff_not]; omega
  have d2 : decide (2500 < (N : Int)) = false := by rw [decide_eq_false_iff_not]; omega
  have d3 : decide ((A : Int) < 0) = false := by rw [decide_eq_false_iff_not]; omega
  have d4 : ((xb.toNat : Int) == 0) = false := by rw [beq_eq_false_iff_ne]; exact q4
  have HXN := Lib.hid hxne
  have HBP := Lib.hid (And.intro hbf hbp)
  clear q q2 q3 q4 wf wa wx wff wp hx hxne hbf hbp
  go_enter Try.func7, Try.ntmps7
  go_wp2_with fail
  refine (begun11 _).mono ?_
  rintro e w1 ⟨rfl, hb⟩
  have hS := (St.init w).mono hb
  have hr := h.keep hb
  clear h hb
  go_wp2_with fail
  refine (short_any v bs0 60 w1 hr (by omega)).mono ?_
  rintro e w2 ⟨v', rfl, hr', rfl⟩
  have hnb : (bs0.take 60).length ≤ 1000 := by simp; omega
  generalize bs0.take 60 = fb at *
  obtain ⟨aob, capb, rfl⟩ := hr'.shape
  have H1 := Lib.hid (And.intro hr' hS)
  clear sz hr hr' hS
  go_wp2_with fail
  refine (filled_any _ fb N w1 H1.out.1 (by omega) hnb).mono ?_
  rintro e w2 ⟨x, v2, c2, hxl, rfl, hr2, hS2⟩
  obtain ⟨ao2, cap2, rfl⟩ := hr2.shape
  have hrx : Rd w2 1 (.slice ao2 N cap2) x.length (bv x) := by rw [hxl]; exact hr2.rd hS2 0 rfl
  have H2 := Lib.hid (And.intro hr2 (H1.out.2.join hS2))
  have HRX := Lib.hid hrx
  have HXL := Lib.hid hxl
  have hxb : x.length ≤ 100000 := by omega
  have HXB := Lib.hid hxb
  clear hr2 hS2 hrx hxl hxb
  go_wp2_with fail
  refine (pack_any _ x w2 HRX.out HXB.out).mono ?_
  rintro e w3 ⟨c, v3, c3, rfl, hr3, hp, hS3⟩
  have hcl : c.length ≤ 100000 := by have := hp.size; have := HXL.out; omega
  have hcp : 12 ≤ c.length := by
    obtain ⟨X, _, e⟩ := hp
    rw [e, List.length_append, sealP_length]
    omega
  obtain ⟨ao3, cap3, rfl⟩ := hr3.shape
  have hc0 : ((c.length : Int) == 0) = false := by rw [beq_eq_false_iff_ne]; omega
  have hrem := tmodN A c.length
  have hk := Nat.mod_lt A (show 0 < c.length by omega)
  generalize A % c.length = k at *
  have hki : (k : Int) < (c.length : Int) := by omega
  have hcpi : (0 : Int) < (c.length : Int) := by omega
  obtain ⟨u, hu⟩ : ∃ u, c[k]? = some u := ⟨_, List.getElem?_eq_getElem hk⟩
  obtain ⟨g, rfl⟩ := hr3.head (by omega)
  have hc := hr3.cellAt hS3 0 rfl (bv_get c k u hu)
  have hf := hr3.freeAt hS3 0 rfl k
  obtain ⟨z, hz, hzne⟩ := xorB_ne u xb HXN.out
  obtain ⟨c3', hr4, hS4⟩ := hr3.store hS3 0 rfl rfl k (.int .u8 (z.toNat : Int))
  rw [← bv_set] at hr4
  obtain ⟨cs, HCS⟩ : ∃ cs, Hid (cs = c.set k z) := ⟨_, Lib.hid rfl⟩
  have hcsl : cs.length = c.length := by rw [HCS.out]; exact List.length_set
  have HK := Lib.hid (And.intro hp (And.intro hu hzne))
  rw [← HCS.out] at hr4
  have H4 := Lib.hid (And.intro hr4 (H2.out.2.join hS4))
  have HCL := Lib.hid hcsl
  clear hr3 hr4 hS4 hS3 hp hu hzne hcsl
  go_wp2_with fail
  obtain ⟨w4, HW4⟩ : ∃ w4, Hid (w4 = w3.setCell ⟨g, k, none⟩ (.int .u8 (z.toNat : Int))) := ⟨_, Lib.hid rfl⟩
  rw [← HW4.out] at H4 ⊢
  clear hc hf HW4
  have HRC : Hid (Rd w4 1 (.slice (some ⟨g, 0, none⟩) c.length cap3) cs.length (bv cs)) := Lib.hid (by rw [HCL.out]; exact H4.out.1.rd H4.out.2 0 rfl)
  refine (ctunpack_any _ cs (N : Int) w4 HRC.out (by rw [HCL.out]; omega)).mono ?_
  rintro e w5 (⟨y, v5, hy, _, rfl, hr5, hS5⟩ | ⟨er5, he5, rfl, hS5, _⟩)
  case' inl =>
    rw [HCS.out] at hy
    obtain rfl : x = y := (UnpR.rot HK.out.1 HXB.out HK.out.2.1 HK.out.2.2 hy).symm
    obtain ⟨ao5, cap5, rfl⟩ := hr5.shape
    have hS6 := H4.out.2.join hS5
    have hc1 := conv_str hr5
    have hc2 := conv_str (H2.out.1.rd hS6 1 rfl)
    have H5 := Lib.hid hS6
    clear hy hr5 hS5 hS6
  case' inr =>
    have H5 := Lib.hid (H4.out.2.join hS5)
    clear hS5
    rcases he5 with rfl | rfl
  all_goals
    rcases (show f < 0 ∨ (0 ≤ f ∧ p < 0) ∨ (0 ≤ f ∧ 0 ≤ p ∧ (N : Int) < f) ∨ (0 ≤ f ∧ 0 ≤ p ∧ f ≤ (N : Int) ∧ (N : Int) - f < p) ∨ (0 ≤ f ∧ 0 ≤ p ∧ f ≤ (N : Int) ∧ p ≤ (N : Int) - f) by omega) with q | ⟨q, q2⟩ | ⟨q, q2, q3⟩ | ⟨q, q2, q3, q4⟩ | ⟨q, q2, q3, q4⟩
    iterate 4
      · have hwf : IntKind.i64.wrap ((N : Int) - f) = (N : Int) - f ∨ True := .inr trivial
        go_wp2_with fail
        go_ret
        exact ⟨rfl, H5.out.below⟩
    obtain ⟨F, rfl⟩ := Int.eq_ofNat_of_zero_le q
    obtain ⟨P, rfl⟩ := Int.eq_ofNat_of_zero_le q2
    have d5 : decide ((F : Int) < 0) = false := by rw [decide_eq_false_iff_not]; omega
    have d6 : decide ((P : Int) < 0) = false := by rw [decide_eq_false_iff_not]; omega
    have d7 : decide (N < F) = false := by rw [decide_eq_false_iff_not]; omega
    have d8 : decide ((N : Int) < (F : Int)) = false := by rw [decide_eq_false_iff_not]; omega
    have d9 : decide ((N : Int) - (F : Int) < (P : Int)) = false := by rw [decide_eq_false_iff_not]; omega
    have hFP : F + P ≤ N := by omega
    go_wp2_with fail
    refine (ctpart_any _ cs (F : Int) (P : Int) w5 (by rw [HCL.out]; exact H4.out.1.rd H5.out 0 rfl) (by rw [HCL.out]; omega) HBP.out.1 HBP.out.2).mono ?_
    rintro e w6 (⟨y2, v6, _, _, hy2, rfl, hr6, hS6⟩ | ⟨er6, he6, rfl, hS6, _⟩)
    · rw [HCS.out, Int.toNat_natCast, Int.toNat_natCast] at hy2
      obtain ⟨_, rfl⟩ := PartR.rot HK.out.1 HXB.out HK.out.2.1 HK.out.2.2 hy2
      have hyl := hy2.len
      rw [hyl] at hr6
      obtain ⟨ao6, cap6, rfl⟩ := hr6.shape
      have HS6 := Lib.hid (H5.out.join hS6)
      have hcc1 := conv_str (hr6.keep (Below.refl w6.heap.size w6).drew)
      have HYL := Lib.hid hyl
      have hb0 := H2.out.1.rd HS6.out.drew 1 rfl
      have hcap2 := hb0.cap
      obtain ⟨yy, HYY⟩ : ∃ yy, Hid (yy = (x.drop F).take P) := ⟨_, Lib.hid rfl⟩
      rw [← HYY.out] at hcc1
      have hwFP : IntKind.i64.wrap ((F : Int) + (P : Int)) = (F : Int) + (P : Int) := IntWalk.i64_in _ (by omega)
      have hFPc : (F : Int) + (P : Int) ≤ (cap2 : Int) := by omega
      have hFFP : (F : Int) ≤ (F : Int) + (P : Int) := by omega
      by_cases qc : cap2 = F
      · have hP0 : P = 0 := by omega
        subst hP0
        have hy0 : yy = [] := by rw [HYY.out]; rfl
        rw [hy0] at hcc1
        subst qc
        clear hy2 hyl hr6 hS6 hy0
        have hb1 : Rd w6.drew 1 (.slice ao2 0 0) 0 (bv []) := by
          have h1 := hb0.drop (ao' := ao2) cap2 (by omega) (fun e => absurd rfl e) (fun _ => rfl)
          rw [Nat.sub_self] at h1
          have h2 := h1.take 0 (Nat.zero_le _)
          simpa [bv] using h2
        have hcc2 := conv_str hb1
        clear hb0 hb1
        go_wp2_with (first | ((with_reducible refine wpStill_plain ?_ ?_ (fun _ _ => ?_)); rfl; rfl) | (with_reducible refine wpStill_nil ?_) | ((with_reducible refine wpStill_wantg 2 true ?_ ?_ ?_ (fun _ _ => ?_)); rfl; kernel_rfl; rfl) | ((with_reducible refine wpStill_skipg 14 false ?_ ?_ (fun _ _ => ?_)); rfl; kernel_rfl) | ((with_reducible refine wpStill_skipg 17 true ?_ ?_ (fun _ _ => ?_)); rfl; kernel_rfl) | ((with_reducible refine wp_draw_all (id := 17) mixed ?_ (fun _ _ => ?_)); kernel_rfl))
        go_ret
        exact ⟨by simp, HS6.out.below.drew⟩
      · have hb1 : Rd w6.drew 1 (.slice (ao2.map fun a => a.add F) P (cap2 - F)) P (bv yy) := by
          have h1 := hb0.drop (ao' := ao2.map fun a => a.add F) F (by omega) (fun _ => by rw [Nat.mul_one]) (fun e => absurd e qc)
          have h2 := h1.take P (by omega)
          rw [← bv_drop, ← bv_take] at h2
          rw [HYY.out]
          exact h2
        have hcc2 := conv_str hb1
        clear hb0 hb1 hy2 hyl hr6 hS6
        go_wp2_with (first | ((with_reducible refine wpStill_plain ?_ ?_ (fun _ _ => ?_)); rfl; rfl) | (with_reducible refine wpStill_nil ?_) | ((with_reducible refine wpStill_wantg 2 true ?_ ?_ ?_ (fun _ _ => ?_)); rfl; kernel_rfl; rfl) | ((with_reducible refine wpStill_skipg 14 false ?_ ?_ (fun _ _ => ?_)); rfl; kernel_rfl) | ((with_reducible refine wpStill_skipg 17 true ?_ ?_ (fun _ _ => ?_)); rfl; kernel_rfl) | ((with_reducible refine wp_draw_all (id := 17) mixed ?_ (fun _ _ => ?_)); kernel_rfl))
        go_ret
        exact ⟨by simp, HS6.out.below.drew⟩
    · have g3 : ((er6 : Int) == 0) = false := by rcases he6 with ⟨rfl, _⟩ | ⟨rfl, _⟩ <;> rfl
      have g4 : ((er6 : Int) != 0) = true := by rcases he6 with ⟨rfl, _⟩ | ⟨rfl, _⟩ <;> rfl
      have HS6 := Lib.hid (H5.out.join hS6)
      clear he6 hS6
      go_wp2_with (first | ((with_reducible refine wpStill_plain ?_ ?_ (fun _ _ => ?_)); rfl; rfl) | (with_reducible refine wpStill_nil ?_) | ((with_reducible refine wpStill_skipg 2 true ?_ ?_ (fun _ _ => ?_)); rfl; kernel_rfl) | ((with_reducible refine wpStill_wantg 14 false ?_ ?_ ?_ (fun _ _ => ?_)); rfl; kernel_rfl; rfl) | ((with_reducible refine wpStill_wantg 17 true ?_ ?_ ?_ (fun _ _ => ?_)); rfl; kernel_rfl; rfl) | ((with_reducible refine wp_draw_all (id := 17) mixed ?_ (fun _ _ => ?_)); kernel_rfl))
      go_ret
      exact ⟨by simp, HS6.out.below.drew⟩
end Go.Proofs.Ytdhnmcdgiddhdaa
