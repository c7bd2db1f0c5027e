/-
  The walk of BwtBack.
-/
import Derived.Test.YtdgpbgdpdmikaabBwtBegun
import Derived.Test.YtdgpbgdpdmikaabShort
import Derived.Test.YtdgpbgdpdmikaabBwtInv
set_option linter.unusedVariables false
set_option linter.unusedSimpArgs false
namespace Go.Proofs.Ytdgpbgdpdmikaab
open Go.RowKit
set_option maxRecDepth 100000
set_option maxHeartbeats 2000000 in
theorem BwtBack_walk (w : World) (v : Value) (bs0 : List UInt8) (h : Rd w 1 v bs0.length (bv bs0)) (sz : bs0.length ≤ 140737488351232) (a : Int) (wf : (Lit.int .i64 a).wf = true) :
    Calls Try.prog 4 #[v, .int .i64 a] w fun e w' => e = .returned (.bool true) ∧ Below w.heap.size w w' := by
  go_enter Try.func4, Try.ntmps4
  go_wp2_with fail
  refine (begun9 _).mono ?_
  rintro e w1 ⟨rfl, hb⟩
  have hS := (St.init w).mono hb
  have hr := h.keep hb
  clear h hb
  go_wp2_with fail
  refine (short_any v bs0 200 w1 hr (by omega)).mono ?_
  rintro e w2 ⟨v', rfl, hr', rfl⟩
  clear hr
  have hnb : (bs0.take 200).length ≤ 200 := by simp; omega
  generalize bs0.take 200 = b at *
  clear sz
  obtain ⟨aob, capb, rfl⟩ := hr'.shape
  have HRD := Lib.hid hr'
  have HS := Lib.hid hS
  clear hr' hS
  go_wp2_with fail
  refine (back_any b _ a w1 (by omega) HRD.out).mono ?_
  rintro e w2 (⟨hg, v2, c2, x, rfl, hr2, hx, hS2⟩ | ⟨hn, rfl, hS2⟩)
  · obtain ⟨ao2, cap2, rfl⟩ := hr2.shape
    have hS3 := HS.out.join hS2
    have hb2 := HRD.out.keep hS2.below
    have H2 := Lib.hid (And.intro hg (And.intro hr2 (And.intro hx (And.intro hS3 hb2))))
    clear hg hr2 hx hS2 hS3 hb2
    go_wp2_with fail
    refine (refinverse_any b _ a w2 (by omega) H2.out.2.2.2.2).mono ?_
    rintro e w3 (⟨hg, v3, c3, y, rfl, hr3, hy, hS4⟩ | ⟨hn, _⟩)
    · obtain rfl : x = y := nb_inj (H2.out.2.2.1.trans hy.symm)
      obtain ⟨ao3, cap3, rfl⟩ := hr3.shape
      have hS5 := H2.out.2.2.2.1.join hS4
      have hc1 := conv_str (H2.out.2.1.rd hS5 1 rfl)
      have hc2 := conv_str (hr3.rd hS5 0 rfl)
      have HE := Lib.hid hS5.below
      clear hg hr3 hy hS4 hS5
      go_wp2_with fail
      go_ret
      exact ⟨by simp, HE.out⟩
    · exact absurd H2.out.1 hn
  · have hS3 := HS.out.join hS2
    have hb2 := HRD.out.keep hS2.below
    have H2 := Lib.hid (And.intro hn (And.intro hS3 hb2))
    clear hn hS2 hS3 hb2
    go_wp2_with fail
    refine (refinverse_any b _ a w2 (by omega) H2.out.2.2).mono ?_
    rintro e w3 (⟨hg, _⟩ | ⟨_, v3, rfl, hS4⟩)
    · exact absurd hg H2.out.1
    · have HE := Lib.hid (H2.out.2.1.join hS4).below
      clear hS4
      go_wp2_with fail
      go_ret
      exact ⟨by simp, HE.out⟩
end Go.Proofs.Ytdgpbgdpdmikaab
