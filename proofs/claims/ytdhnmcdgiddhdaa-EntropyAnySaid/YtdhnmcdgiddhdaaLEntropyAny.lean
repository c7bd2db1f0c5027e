/-
  The walk of EntropyAny.
-/
import Derived.Test.YtdhnmcdgiddhdaaEg11
set_option linter.unusedVariables false
set_option linter.unusedSimpArgs false
namespace Go.Proofs.Ytdhnmcdgiddhdaa
open Go.RowKit
set_option maxRecDepth 100000
set_option maxHeartbeats 1000000 in
theorem EntropyAny_walk (w : World) (v : Value) (bs0 : List UInt8) (h : Rd w 1 v bs0.length (bv bs0)) (sz : bs0.length ≤ 140737488351232) (a : Int) (wf : (Lit.int .i64 a).wf = true) (x : Int) (wx : (Lit.int .u8 x).wf = true)
    (v2 : Value) (bs2 : List UInt8) (h2 : Rd w 1 v2 bs2.length (bv bs2)) (sz2 : bs2.length ≤ 140737488351232) :
    Calls Try.prog 5 #[v, .int .i64 a, .int .u8 x, v2] w fun e w' => e = .returned (.bool true) ∧ Below w.heap.size w w' := by
  go_enter Try.func5, Try.ntmps5
  go_wp2_with fail
  refine (begun10 _).mono ?_
  rintro e w1 ⟨rfl, hb⟩
  have hS := (St.init w).mono hb
  have hr := h.keep hb
  have hr2 := h2.keep hb
  clear h h2 hb
  go_wp2_with fail
  refine (short_any v bs0 100 w1 hr (by omega)).mono ?_
  rintro e w2 ⟨v', rfl, hr', rfl⟩
  go_wp2_with fail
  refine (short_any v2 bs2 100 w1 hr2 (by omega)).mono ?_
  rintro e w2 ⟨v2', rfl, hr2', rfl⟩
  have hnb : (bs0.take 100).length ≤ 100 := by simp; omega
  have hnb2 : (bs2.take 100).length ≤ 100 := by simp; omega
  generalize bs0.take 100 = b at *
  generalize bs2.take 100 = raw at *
  obtain ⟨aob, capb, rfl⟩ := hr'.shape
  obtain ⟨ao2, cap2, rfl⟩ := hr2'.shape
  have HRD := Lib.hid (And.intro hr' (And.intro hr2' hS))
  clear sz sz2 hr hr2 hr' hr2' hS
  go_wp2_with fail
  refine (entenc_any _ b w1 HRD.out.1 (by omega)).mono ?_
  rintro e w3 ⟨out, v3, c3, rfl, hr3, he, hS3⟩
  obtain ⟨ao3, cap3, rfl⟩ := hr3.shape
  have hpos := he.pos
  have hposi : (0 : Int) < (out.length : Int) := by omega
  have hol := he.size (by omega)
  have hol2 : out.length ≤ 1000 := by omega
  clear hol he
  by_cases qa : a < 0
  · have H3 := Lib.hid (And.intro hr3 hS3)
    clear hr3 hS3
    go_wp2_with fail
    refine (tells_any _ out w3 (H3.out.1.rd H3.out.2 0 rfl) (by omega)).mono ?_
    rintro e w4 ⟨rfl, hb4⟩
    have hS5 := H3.out.2.mono hb4
    go_wp2_with fail
    refine (tells_any _ raw w4 (HRD.out.2.1.st hS5) (by omega)).mono ?_
    rintro e w5 ⟨rfl, hb5⟩
    have HB := Lib.hid (HRD.out.2.2.join (hS5.mono hb5)).below
    clear hb4 hb5 hS5
    go_wp2_with fail
    go_ret
    exact ⟨rfl, HB.out⟩
  · have qa2 : 0 ≤ a := by omega
    obtain ⟨A, rfl⟩ := Int.eq_ofNat_of_zero_le qa2
    clear qa qa2
    have qA : (0 : Int) ≤ (A : Int) := by omega
    have hrem := tmodN A out.length
    have hk := Nat.mod_lt A hpos
    generalize A % out.length = k at *
    have hki : (k : Int) < (out.length : Int) := by omega
    obtain ⟨g, rfl⟩ := hr3.head hpos
    have hc := hr3.cellAt hS3 0 rfl (bv_get out k _ (List.getElem?_eq_getElem hk))
    have hf := hr3.freeAt hS3 0 rfl k
    generalize out[k] = y at hc
    obtain ⟨z, hz⟩ := xorB (y.toNat : Int) x
    obtain ⟨c3', hr4, hS4⟩ := hr3.store hS3 0 rfl rfl k (.int .u8 (z.toNat : Int))
    rw [← bv_set] at hr4
    have hl4 : (out.set k z).length = out.length := List.length_set
    have H4 := Lib.hid (And.intro hr4 hS4)
    have HL4 := Lib.hid hl4
    clear hr3 hr4 hS4 hS3 hl4
    go_wp2_with fail
    have H5 : Hid (Rd (w3.setCell ⟨g, k, none⟩ (.int .u8 (z.toNat : Int))) 1 (.slice (some ⟨g, 0, none⟩) out.length cap3) (out.set k z).length (bv (out.set k z))) := Lib.hid (by rw [HL4.out]; exact H4.out.1.rd H4.out.2 0 rfl)
    refine (tells_any _ (out.set k z) _ H5.out (by rw [HL4.out]; omega)).mono ?_
    rintro e w4 ⟨rfl, hb4⟩
    have hS5 := H4.out.2.mono hb4
    clear hc hf
    go_wp2_with fail
    refine (tells_any _ raw w4 (HRD.out.2.1.st hS5) (by omega)).mono ?_
    rintro e w5 ⟨rfl, hb5⟩
    have HB := Lib.hid (HRD.out.2.2.join (hS5.mono hb5)).below
    clear hb4 hb5 hS5
    go_wp2_with fail
    go_ret
    exact ⟨rfl, HB.out⟩
end Go.Proofs.Ytdhnmcdgiddhdaa
