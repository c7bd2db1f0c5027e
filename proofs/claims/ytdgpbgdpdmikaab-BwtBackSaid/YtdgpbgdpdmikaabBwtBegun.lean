/-
  foliolaw9.begun returns true.
-/
import Derived.Test.YtdgpbgdpdmikaabBwtFwd
import Derived.Test.YtdgpbgdpdmikaabBan
import Derived.Test.YtdgpbgdpdmikaabBytesStr
import Derived.Laws.Strings
import Derived.Lib.SlBytesConst
set_option linter.unusedVariables false
set_option linter.unusedSimpArgs false
namespace Go.Proofs.Ytdgpbgdpdmikaab
open Go.RowKit
set_option maxRecDepth 100000
theorem FwdOut.good {b : List UInt8} {T : List Nat} {L : List UInt8} (hT : IsSA (nb b) T) (hL : nb L = fwdN (nb b) (b.length :: T)) : goodI (nb L) ((atF b.length T : Nat) : Int) ∧ invP (nb L) (((atF b.length T : Nat) : Int).toNat) = nb b := by
  have h1 := hT.one
  rw [nb_length] at h1
  rw [hL, Int.toNat_natCast]
  exact ⟨⟨by omega, fwd_good h1⟩, fwd_back h1⟩
set_option maxHeartbeats 1000000 in
theorem begun9 (w : World) : Calls Try.prog 15 #[] w fun e w' => e = .returned (.bool true) ∧ Below w.heap.size w w' := by
  have hb : Rd _ 1 _ ban.length (bv ban) := Rd.litsF w #[.int .u8 98, .int .u8 97, .int .u8 110, .int .u8 97, .int .u8 110, .int .u8 97] 5 (6, 7) 6 rfl m6
  have hS := (St.init w).alloc (.cells #[.int .u8 98, .int .u8 97, .int .u8 110, .int .u8 97, .int .u8 110, .int .u8 97] 5 (6, 7))
  go_enter Try.func15, Try.ntmps15
  go_wp2_with fail
  rw [Lib.run_convert_bytes_const _ 22 5 _ _ _ Try.underlying22 Try.underlying5]
  go_wp2_with fail
  refine (forward_any ban _ _ (by decide) hb).mono ?_
  rintro e w1 ⟨T, v, c, L, hsa, rfl, hr, hL, hS1⟩
  have hg := FwdOut.good hsa hL
  obtain rfl : T = [5, 3, 1, 0, 4, 2] := hsa.unique ban_sa
  obtain rfl : L = [97, 110, 110, 98, 97, 97] := nb_inj (hL.trans (by decide))
  rw [show ((atF ban.length [5, 3, 1, 0, 4, 2] : Nat) : Int) = 4 from by decide] at *
  obtain ⟨ao, cap, rfl⟩ := hr.shape
  have hS2 := (hS.join hS1).pick [0] (by decide) [c] rfl
  have HG := Lib.hid hg
  clear hS hS1 hsa hb hL hg
  go_wp2_with fail
  refine (back_any [97, 110, 110, 98, 97, 97] _ 4 _ (by decide) (hr.rd hS2 0 rfl)).mono ?_
  rintro e w2 (⟨_, v2, c2, x, rfl, hr2, hx, hS3⟩ | ⟨hn, _⟩)
  · obtain rfl : x = ban := nb_inj (hx.trans HG.out.2)
    obtain ⟨ao2, cap2, rfl⟩ := hr2.shape
    have hS4 := hS2.join hS3
    have hb : Rd _ 1 _ [97, 98].length (bv [97, 98]) := Rd.litsF w2 #[.int .u8 97, .int .u8 98] 5 (2, 3) 2 rfl (by decide)
    have hS5 := hS4.alloc (.cells #[.int .u8 97, .int .u8 98] 5 (2, 3))
    clear hS2 hS3 hS4 hx
    go_wp2_with fail
    rw [Lib.run_convert_bytes_const _ 22 5 _ _ _ Try.underlying22 Try.underlying5]
    go_wp2_with fail
    refine (back_any [97, 98] _ 0 _ (by decide) hb).mono ?_
    rintro e w3 (⟨⟨_, _, hn, _⟩, _⟩ | ⟨_, rfl, hS6⟩)
    · exact absurd rfl (hn 0 (by decide))
    · have hS7 := hS5.join hS6
      have hc1 : (convert 22 9 (.slice ao 6 cap)).run Try.prog w3 = .ok (.string ⟨#[97, 110, 110, 98, 97, 97]⟩) w3 := conv_str (hr.rd hS7 2 rfl)
      have hc2 : (convert 22 9 (.slice ao2 ban.length cap2)).run Try.prog w3 = .ok (.string ⟨#[98, 97, 110, 97, 110, 97]⟩) w3 := conv_str (hr2.rd hS7 1 rfl)
      clear hb hS5 hS6
      go_wp2_with fail
      go_ret
      exact ⟨rfl, hS7.below⟩
  · exact absurd HG.out.1 hn
end Go.Proofs.Ytdgpbgdpdmikaab
