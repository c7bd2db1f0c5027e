/-
  The walk of BwtForward.
-/
import Derived.Test.YtdgpbgdpdmikaabBwtBegun
import Derived.Test.YtdgpbgdpdmikaabShort
set_option linter.unusedVariables false
set_option linter.unusedSimpArgs false
namespace Go.Proofs.Ytdgpbgdpdmikaab
open Go.RowKit
set_option maxRecDepth 100000
set_option maxHeartbeats 2000000 in
theorem BwtForward_walk (w : World) (v : Value) (bs0 : List UInt8) (h : Rd w 1 v bs0.length (bv bs0)) (sz : bs0.length ≤ 140737488351232) :
    Calls Try.prog 3 #[v] w fun e w' => e = .returned (.bool true) ∧ Below w.heap.size w w' := by
  go_enter Try.func3, Try.ntmps3
  go_wp2_with fail
  refine (begun9 _).mono ?_
  rintro e w1 ⟨rfl, hb⟩
  have hS := (St.init w).mono hb
  have hr := h.keep hb
  clear h hb
  go_wp2_with fail
  refine (short_any v bs0 300 w1 hr (by omega)).mono ?_
  rintro e w2 ⟨v', rfl, hr', rfl⟩
  clear hr
  have hnb : (bs0.take 300).length ≤ 300 := by simp; omega
  generalize bs0.take 300 = b at *
  clear sz
  obtain ⟨aob, capb, rfl⟩ := hr'.shape
  have HRD := Lib.hid hr'
  have HS := Lib.hid hS
  clear hr' hS
  go_wp2_with fail
  refine (forward_any b _ w1 (by omega) HRD.out).mono ?_
  rintro e w2 ⟨T, v2, c2, L, hsa, rfl, hr2, hL, hS2⟩
  have hg := FwdOut.good hsa hL
  obtain ⟨ao2, cap2, rfl⟩ := hr2.shape
  have hS3 := HS.out.join hS2
  have hb2 := HRD.out.keep hS2.below
  have hLl : L.length = b.length := by have h1 := hsa.one; rw [nb_length] at h1; have := congrArg List.length hL; rw [nb_length, fwdN_length h1, nb_length] at this; exact this
  have hix : atF b.length T ≤ b.length := by unfold atF; have h1 := hsa.one; rw [nb_length] at h1; have := h1.idx_lt (Nat.zero_le _); rw [nb_length] at this; omega
  have H2 := Lib.hid (And.intro hsa (And.intro hL (And.intro hg (And.intro hr2 (And.intro hS3 hb2)))))
  have HL := Lib.hid (And.intro hLl hix)
  clear hsa hr2 hL hS2 hg hS3 hb2 hLl hix
  go_wp2_with fail
  refine (refforward_any b _ w2 (by omega) H2.out.2.2.2.2.2).mono ?_
  rintro e w3 ⟨T', v3, c3, M, hsa', rfl, hr3, hM, hS4⟩
  obtain rfl := H2.out.1.unique hsa'
  obtain rfl : L = M := nb_inj (H2.out.2.1.trans hM.symm)
  obtain ⟨ao3, cap3, rfl⟩ := hr3.shape
  have hS5 := H2.out.2.2.2.2.1.join hS4
  have hb3 := H2.out.2.2.2.2.2.keep hS4.below
  have H3 := Lib.hid (And.intro hr3 (And.intro hS5 hb3))
  clear hsa' hr3 hM hS4 hS5 hb3
  go_wp2_with fail
  refine (back_any L _ _ w3 (by have := HL.out.1; omega) (H2.out.2.2.2.1.rd H3.out.2.1 1 rfl)).mono ?_
  rintro e w4 (⟨_, v4, c4, x, rfl, hr4, hx, hS6⟩ | ⟨hn, _⟩)
  · obtain rfl : x = b := nb_inj (hx.trans H2.out.2.2.1.2)
    obtain ⟨ao4, cap4, rfl⟩ := hr4.shape
    have hS7 := H3.out.2.1.join hS6
    have hc1 := conv_str (H2.out.2.2.2.1.rd hS7 2 rfl)
    have hc2 := conv_str (H3.out.1.rd hS7 1 rfl)
    have hc3 := conv_str (hr4.rd hS7 0 rfl)
    have hc4 := conv_str (H3.out.2.2.keep hS6.below)
    have HE := Lib.hid hS7.below
    clear hS6 hS7 hr4 hx
    go_wp2_with fail
    go_ret
    exact ⟨by simp, HE.out⟩
  · exact absurd H2.out.2.2.1.1 hn
end Go.Proofs.Ytdgpbgdpdmikaab
