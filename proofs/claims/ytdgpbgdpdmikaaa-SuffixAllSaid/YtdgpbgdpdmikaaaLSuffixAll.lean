/-
  The walk of SuffixAll.
-/
import Derived.Test.YtdgpbgdpdmikaaaSufRef
import Derived.Test.YtdgpbgdpdmikaaaSufBegun
import Derived.Test.YtdgpbgdpdmikaaaShort
import Derived.Test.YtdgpbgdpdmikaaaInts
set_option linter.unusedVariables false
set_option linter.unusedSimpArgs false
namespace Go.Proofs.Ytdgpbgdpdmikaaa
open Go.RowKit
set_option maxRecDepth 100000
set_option maxHeartbeats 2000000 in
theorem SuffixAll_walk (w : World) (v : Value) (bs0 : List UInt8) (h : Rd w 1 v bs0.length (bv bs0)) (sz : bs0.length ≤ 140737488351232) :
    Calls Try.prog 9 #[v] w fun e w' => e = .returned (.bool true) ∧ Below w.heap.size w w' := by
  go_enter Try.func9, Try.ntmps9
  go_wp2_with fail
  refine (begun8 _).mono ?_
  rintro e w1 ⟨rfl, hb⟩
  have hS := (St.init w).mono hb
  have hr := h.keep hb
  clear h hb
  go_wp2_with fail
  refine (short_any v bs0 300 w1 hr (by omega)).mono ?_
  rintro e w2 ⟨v', rfl, hr', rfl⟩
  clear hr
  have hnb : (bs0.take 300).length ≤ 300 := by simp; omega
  generalize bs0.take 300 = b at *
  clear sz
  obtain ⟨aob, capb, rfl⟩ := hr'.shape
  have HRD := Lib.hid hr'
  have HS := Lib.hid hS
  clear hr' hS
  go_wp2_with fail
  refine (sort_any b _ w1 (by omega) HRD.out).mono ?_
  rintro e w5 ⟨v5, T, c5, rfl, hrT, hTl, hS5, hsa⟩
  obtain ⟨ao5, cap5, rfl⟩ := hrT.shape
  have hS6 : St w.heap.size w w5 [c5] := HS.out.join hS5
  have HT := Lib.hid (And.intro hrT (And.intro hTl (And.intro hsa (And.intro hS6 hS5.below))))
  clear hrT hTl hS5 hsa hS6
  go_wp2_with fail
  refine (refsuffixes_any b _ w5 (by omega) (HRD.out.keep HT.out.2.2.2.2)).mono ?_
  rintro e w6 ⟨v6, T', c6, rfl, hrT', hTl', hS7, hsa'⟩
  obtain rfl := HT.out.2.2.1.unique hsa'
  obtain ⟨ao6, cap6, rfl⟩ := hrT'.shape
  have hS8 : St w.heap.size w w6 [c6, c5] := HT.out.2.2.2.1.join hS7
  have hb6 := (HRD.out.keep HT.out.2.2.2.2).keep hS7.below
  have HU := Lib.hid (And.intro hrT' (And.intro hS8 hb6))
  have hTi := hTl'
  clear hrT' hTl' hsa' hS7 hS8 hb6
  go_wp2_with fail
  refine (ints_any _ _ (tI T) (tI T) w6 (by rw [tI_length, HT.out.2.1]; exact HT.out.1.rd HU.out.2.1 1 rfl) (by rw [tI_length, HT.out.2.1]; exact HU.out.1.rd HU.out.2.1 0 rfl)).mono ?_
  rintro e w7 ⟨rfl, hd⟩
  rw [show decide (tI T = tI T) = true from by simp]
  have hS9 := HU.out.2.1.Drew hd
  have hb7 : Rd w7 1 (.slice aob b.length capb) b.length (bv b) := by obtain ⟨nd, rfl⟩ := hd.out; exact HU.out.2.2.drewN nd
  have h9 := Lib.hid (And.intro hS9 hb7)
  clear hd hS9 hb7
  go_wp2_with fail
  refine (common_any b T _ _ w7 (by omega) h9.out.2 (HT.out.1.rd h9.out.1 1 rfl) HT.out.2.2.1).mono ?_
  rintro e w8 ⟨v8, c8, rfl, hr8, hS10⟩
  have h11 := h9.out.1.join hS10
  have hb8 := h9.out.2.keep hS10.below
  have H11 := Lib.hid (And.intro hr8 (And.intro h11 hb8))
  clear hr8 hS10 h11 hb8
  go_wp2_with fail
  refine (refcommon_any b T _ _ w8 (by omega) H11.out.2.2 (HU.out.1.rd H11.out.2.1 1 rfl) HT.out.2.2.1).mono ?_
  rintro e w9 ⟨v9, c9, rfl, hr9, hS12⟩
  have h13 := H11.out.2.1.join hS12
  have H13 := Lib.hid (And.intro hr9 h13)
  clear hr9 hS12 h13
  go_wp2_with fail
  refine (ints_any _ _ (mkI (fun k => (cm (nb b) T k : Int)) b.length) (mkI (fun k => (cm (nb b) T k : Int)) b.length) w9 (by rw [mkI_length]; exact H11.out.1.rd H13.out.2 1 rfl) (by rw [mkI_length]; exact H13.out.1.rd H13.out.2 0 rfl)).mono ?_
  rintro e w10 ⟨rfl, hd⟩
  rw [show decide (mkI (fun k => (cm (nb b) T k : Int)) b.length = mkI (fun k => (cm (nb b) T k : Int)) b.length) = true from by simp]
  have hS14 := H13.out.2.Drew hd
  go_wp2_with fail
  go_ret
  exact ⟨rfl, hS14.below⟩
end Go.Proofs.Ytdgpbgdpdmikaaa
