/-
  SealedNone: the walk.
-/
import Derived.Test.YthgbkncanoknkaaSg12
set_option linter.unusedVariables false
set_option linter.unusedSimpArgs false
namespace Go.Proofs.Ythgbkncanoknkaa
open Go.RowKit
set_option maxRecDepth 100000
set_option maxHeartbeats 4000000 in
theorem SealedNone_walk (w : World) : Calls Try.prog 8 #[] w fun e w'' => e = .returned (.bool true) ∧ Below w.heap.size w w'' := by
  go_enter Try.func8, Try.ntmps8
  go_wp2_with fail
  refine (sget_nil 0 w).mono ?_
  rintro e w1 ⟨rfl, hb1⟩
  unfold recV rec0
  dsimp only
  go_wp2_with fail
  obtain ⟨w2, HW2⟩ : ∃ w2, Hid (w2 = w1.alloc (.cells #[.int .i64 0, .int .i64 0, .string ⟨#[]⟩, .string ⟨#[]⟩] 26 (0, 0))) := ⟨_, Lib.hid rfl⟩
  have HB2 : Hid (Below w.heap.size w w2) := Lib.hid (by rw [HW2.out]; exact hb1.alloc hb1.size _)
  rw [← HW2.out]
  clear hb1
  refine (sall_nil w2).mono ?_
  rintro e w3 ⟨rfl, rfl⟩
  go_wp2_with fail
  refine (sfind_nil [107] w2).mono ?_
  rintro e w3 ⟨rfl, rfl⟩
  go_wp2_with fail
  refine (sopen_any (.slice none 0 0) [] w2 (Rd.nil _ _) (by decide)).mono ?_
  rintro e w3 ⟨hb3, ⟨es, pk, p, ⟨x, k, h1, _⟩, _⟩ | ⟨_, rfl⟩⟩
  · cases h1
  have HB3 : Hid (Below w.heap.size w w3) := Lib.hid (HB2.out.trans (hb3.mono HB2.out.size))
  clear hb3
  go_wp2_with fail
  refine (build_ok (.slice none 0 0) [] w3 (Rd.nil _ _) (by decide) (by decide) (by intro r hr; cases hr)).mono ?_
  rintro e w4 ⟨y, v4, c4, rfl, hr4, hs4, hS4⟩
  have H4 := Lib.hid (And.intro (hr4.rd hS4 0 rfl) (And.intro hs4 (HB3.out.trans (hS4.below.mono HB3.out.size))))
  obtain ⟨ao4, cap4, rfl⟩ := hr4.shape
  clear hr4 hs4 hS4
  go_wp2_with fail
  refine (sopen_seal _ [] y w4 H4.out.1 H4.out.2.1 (by intro r hr; cases hr) (by decide) (by decide)).mono ?_
  rintro e w5 ⟨p, pk, rfl, hp, hin, hb5⟩
  have H5 := Lib.hid (And.intro hin (H4.out.2.2.trans (hb5.mono H4.out.2.2.size)))
  clear hp hin hb5
  go_wp2_with fail
  refine (begun16_any w5).mono ?_
  rintro e w6 ⟨rfl, hb6⟩
  have H6 := Lib.hid (And.intro (H5.out.1.keep hb6) (H5.out.2.trans (hb6.mono H5.out.2.size)))
  clear hb6
  go_wp2_with fail
  refine (slen_nil w6).mono ?_
  rintro e w7 ⟨rfl, rfl⟩
  go_wp2_with fail
  refine (slen_seal p [] pk w6 H6.out.1).mono ?_
  rintro e w7 ⟨rfl, rfl⟩
  go_wp2_with fail
  go_ret
  exact ⟨rfl, H6.out.2⟩
end Go.Proofs.Ythgbkncanoknkaa
