/-
  The walk of BwtPlaces.
-/
import Derived.Test.YtdgpbgdpdmikaabBwtBegun
import Derived.Test.YtdgpbgdpdmikaabShort
set_option linter.unusedVariables false
set_option linter.unusedSimpArgs false
namespace Go.Proofs.Ytdgpbgdpdmikaab
open Go.RowKit
set_option maxRecDepth 100000
set_option maxHeartbeats 2000000 in
theorem BwtPlaces_walk (w : World) (v : Value) (bs0 : List UInt8) (h : Rd w 1 v bs0.length (bv bs0)) (sz : bs0.length ≤ 140737488351232) (a : Int) (wf : (Lit.int .i64 a).wf = true) :
    Calls Try.prog 5 #[v, .int .i64 a] w fun e w' => e = .returned (.bool true) ∧ Below w.heap.size w w' := by
  go_enter Try.func5, Try.ntmps5
  go_wp2_with fail
  refine (begun9 _).mono ?_
  rintro e w1 ⟨rfl, hb⟩
  have hS := (St.init w).mono hb
  have hr := h.keep hb
  clear h hb
  go_wp2_with fail
  refine (short_any v bs0 60 w1 hr (by omega)).mono ?_
  rintro e w2 ⟨v', rfl, hr', rfl⟩
  clear hr
  have hnb : (bs0.take 60).length ≤ 60 := by simp; omega
  generalize bs0.take 60 = b at *
  clear sz
  obtain ⟨aob, capb, rfl⟩ := hr'.shape
  have HRD := Lib.hid hr'
  have HS := Lib.hid hS
  clear hr' hS
  go_wp2_with fail
  refine (forward_any b _ w1 (by omega) HRD.out).mono ?_
  rintro e w2 ⟨T, v2, c2, L, hsa, rfl, hr2, hL, hS2⟩
  have hg := FwdOut.good hsa hL
  obtain ⟨ao2, cap2, rfl⟩ := hr2.shape
  have hS3 := HS.out.join hS2
  have hb2 := HRD.out.keep hS2.below
  have hLl : L.length = b.length := by have h1 := hsa.one; rw [nb_length] at h1; have := congrArg List.length hL; rw [nb_length, fwdN_length h1, nb_length] at this; exact this
  have hix : atF b.length T ≤ b.length := by unfold atF; have h1 := hsa.one; rw [nb_length] at h1; have := h1.idx_lt (Nat.zero_le _); rw [nb_length] at this; omega
  have H2 := Lib.hid (And.intro hsa (And.intro hL (And.intro hg (And.intro hr2 (And.intro hS3 hb2)))))
  have HL := Lib.hid (And.intro hLl hix)
  clear hsa hr2 hL hS2 hg hS3 hb2 hLl hix
  go_wp2_with fail
  refine (back_any L _ a w2 (by have := HL.out.1; omega) (H2.out.2.2.2.1.rd H2.out.2.2.2.2.1 0 rfl)).mono ?_
  rintro e w4 (⟨hga, v4, c4, x, rfl, hr4, hx, hS6⟩ | ⟨hn, rfl, hS6⟩)
  · obtain ⟨ao4, cap4, rfl⟩ := hr4.shape
    have hS7 := H2.out.2.2.2.2.1.join hS6
    have hc3 := conv_str (hr4.rd hS7 0 rfl)
    have hc4 := conv_str (H2.out.2.2.2.2.2.keep hS6.below)
    have HE := Lib.hid hS7.below
    have hiff : (a == ((atF b.length T : Nat) : Int)) = (x == b) := by
      by_cases e : a = ((atF b.length T : Nat) : Int)
      · have e2 : x = b := nb_inj (by rw [hx, e]; exact H2.out.2.2.1.2)
        rw [e2]
        simp [e]
      · have e2 : x ≠ b := by
          rintro rfl
          have h1 := H2.out.1.one
          rw [nb_length, hx] at h1
          have h2 : atF x.length T = a.toNat := (hga.2.fwd h1).2
          obtain ⟨h3, _⟩ := hga
          omega
        have e3 : (x == b) = false := by simpa using e2
        rw [e3]
        simpa using e
    have HI := Lib.hid hiff
    clear hS6 hS7 hr4 hx hga hiff
    go_wp2_with fail
    go_ret
    exact ⟨by simp [HI.out], HE.out⟩
  · have hS7 := H2.out.2.2.2.2.1.join hS6
    have HE := Lib.hid hS7.below
    clear hn hS6 hS7
    go_wp2_with fail
    go_ret
    exact ⟨by simp, HE.out⟩
end Go.Proofs.Ytdgpbgdpdmikaab
