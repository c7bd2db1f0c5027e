/-
  foliolaw8.begun returns true.
-/
import Derived.Test.YtdgpbgdpdmikaaaSufCom
import Derived.Test.YtdgpbgdpdmikaaaCodesBegun
import Derived.Lib.SlBytesConst
set_option linter.unusedVariables false
set_option linter.unusedSimpArgs false
namespace Go.Proofs.Ytdgpbgdpdmikaaa
open Go.RowKit
set_option maxRecDepth 100000
theorem Rd.litsF (w : World) (X : Array Value) (T : TypeId) (fr : Nat × Nat) (n : Nat) (hn : X.size = n) (hm : n ≤ maxLen) : Rd (w.alloc (.cells X T fr)) 1 (.slice (some ⟨w.heap.size, 0, none⟩) n n) n X.toList := by
  refine ⟨_, n, rfl, ⟨Nat.le_refl _, hm⟩, by simp [hn], fun e => by simp at e, fun ad e j u hu => ?_⟩
  simp only [Option.some.injEq] at e
  subst e
  rw [add_lit0]
  have h1 : (w.alloc (.cells X T fr)).heap[w.heap.size]? = some (.cells X T fr) := heap_alloc_new w _
  simp only [World.cell?, h1]
  simpa using hu
def ban : List UInt8 := [98, 97, 110, 97, 110, 97]
theorem ban_sa : IsSA (nb ban) [5, 3, 1, 0, 4, 2] := ⟨by decide, by decide⟩
theorem m6 : 6 ≤ maxLen := by decide
set_option maxHeartbeats 1000000 in
theorem begun8 (w : World) : Calls Try.prog 34 #[] w fun e w' => e = .returned (.bool true) ∧ Below w.heap.size w w' := by
  have hb : Rd _ 1 _ ban.length (bv ban) := Rd.litsF w #[.int .u8 98, .int .u8 97, .int .u8 110, .int .u8 97, .int .u8 110, .int .u8 97] 5 (6, 7) 6 rfl m6
  have hS := (St.init w).alloc (.cells #[.int .u8 98, .int .u8 97, .int .u8 110, .int .u8 97, .int .u8 110, .int .u8 97] 5 (6, 7))
  go_enter Try.func34, Try.ntmps34
  go_wp2_with fail
  rw [Lib.run_convert_bytes_const _ 37 5 _ _ _ Try.underlying37 Try.underlying5]
  go_wp2_with fail
  refine (sort_any ban _ _ (by decide) hb).mono ?_
  rintro e w1 ⟨v, T, c, rfl, hr, hTl, hS1, hsa⟩
  obtain rfl : T = [5, 3, 1, 0, 4, 2] := hsa.unique ban_sa
  obtain ⟨ao, cap, rfl⟩ := hr.shape
  have hS2 := ((hS.join hS1).pick [0] (by decide) [c] rfl).alloc (.cells #[.int .i64 5, .int .i64 3, .int .i64 1, .int .i64 0, .int .i64 4, .int .i64 2] 3)
  have r1 : RowC 3 1 (.slice (some ⟨w1.heap.size, 0, none⟩) 6 6) 6 (iv [5, 3, 1, 0, 4, 2]) [(w1.heap.size, Obj.cells #[.int .i64 5, .int .i64 3, .int .i64 1, .int .i64 0, .int .i64 4, .int .i64 2] 3 (0, 0))] := RowC.fresh _ _ rfl (Nat.le_refl _) m6 rfl rfl
  clear hS hS1 hsa hTl hb
  go_wp2_with fail
  refine (ints_any _ _ [5, 3, 1, 0, 4, 2] [5, 3, 1, 0, 4, 2] _ (hr.rd hS2 1 rfl) (r1.rd hS2 0 rfl)).mono ?_
  rintro e w2 ⟨rfl, hd⟩
  rw [show decide (([5, 3, 1, 0, 4, 2] : List Int) = [5, 3, 1, 0, 4, 2]) = true from by simp]
  have hS3 := ((hS2.Drew hd).pick [1] (by decide) [c] rfl).alloc (.cells #[.int .u8 98, .int .u8 97, .int .u8 110, .int .u8 97, .int .u8 110, .int .u8 97] 5 (6, 7))
  have hb : Rd _ 1 _ ban.length (bv ban) := Rd.litsF w2 #[.int .u8 98, .int .u8 97, .int .u8 110, .int .u8 97, .int .u8 110, .int .u8 97] 5 (6, 7) 6 rfl m6
  clear hS2 r1 hd
  go_wp2_with fail
  rw [Lib.run_convert_bytes_const _ 37 5 _ _ _ Try.underlying37 Try.underlying5]
  go_wp2_with fail
  refine (common_any ban [5, 3, 1, 0, 4, 2] _ _ _ (by decide) hb (hr.rd hS3 1 rfl) ban_sa).mono ?_
  rintro e w3 ⟨v3, c3, rfl, hr3, hS4⟩
  rw [show mkI (fun k => (cm (nb ban) [5, 3, 1, 0, 4, 2] k : Int)) ban.length = [0, 1, 3, 0, 0, 2] from by decide] at hr3
  obtain ⟨ao3, cap3, rfl⟩ := hr3.shape
  have hS5 := ((hS3.join hS4).pick [0] (by decide) [c3] rfl).alloc (.cells #[.int .i64 0, .int .i64 1, .int .i64 3, .int .i64 0, .int .i64 0, .int .i64 2] 3)
  have r1 : RowC 3 1 (.slice (some ⟨w3.heap.size, 0, none⟩) 6 6) 6 (iv [0, 1, 3, 0, 0, 2]) [(w3.heap.size, Obj.cells #[.int .i64 0, .int .i64 1, .int .i64 3, .int .i64 0, .int .i64 0, .int .i64 2] 3 (0, 0))] := RowC.fresh _ _ rfl (Nat.le_refl _) m6 rfl rfl
  clear hS3 hS4 hb hr
  go_wp2_with fail
  refine (ints_any _ _ [0, 1, 3, 0, 0, 2] [0, 1, 3, 0, 0, 2] _ (hr3.rd hS5 1 rfl) (r1.rd hS5 0 rfl)).mono ?_
  rintro e w4 ⟨rfl, hd⟩
  rw [show decide (([0, 1, 3, 0, 0, 2] : List Int) = [0, 1, 3, 0, 0, 2]) = true from by simp]
  have hS6 := (hS5.Drew hd).pick [] (by decide) [] rfl
  clear hS5 r1 hd hr3
  go_wp2_with fail
  refine (sort_any [] (.slice none 0 0) _ (by decide) (Rd.nil _ _)).mono ?_
  rintro e w5 ⟨v5, T5, c5, rfl, hr5, hTl5, hS7, hsa5⟩
  obtain ⟨ao5, cap5, rfl⟩ := hr5.shape
  have hS8 := hS6.join hS7
  clear hS6 hS7 hr5 hTl5 hsa5
  go_wp2_with fail
  go_ret
  exact ⟨by simp, hS8.below⟩
end Go.Proofs.Ytdgpbgdpdmikaaa
