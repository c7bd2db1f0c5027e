/-
  Bytes as cells.
-/
import Derived.Test.YtdgpbgdpdmikaabCore
set_option linter.unusedVariables false
set_option linter.unusedSimpArgs false
namespace Go.Proofs.Ytdgpbgdpdmikaab
open Go.RowKit
set_option maxRecDepth 100000
theorem infoU8 : (Try.prog.info? 5).map (fun i => (i.zero, i.size, i.bytes)) = some (some (.int .u8 0), 1, 1) := by kernel_rfl
/-- Bytes as cells. -/
def bv (bs : List UInt8) : List Value := bs.map fun b => .int .u8 (b.toNat : Int)
theorem bv_length (bs : List UInt8) : (bv bs).length = bs.length := by simp [bv]
theorem bv_append (a b : List UInt8) : bv (a ++ b) = bv a ++ bv b := by simp [bv]
theorem bv_get (bs : List UInt8) (i : Nat) (b : UInt8) (h : bs[i]? = some b) : (bv bs)[i]? = some (.int .u8 (b.toNat : Int)) := by simp [bv, h]
theorem bv_set (bs : List UInt8) (i : Nat) (b : UInt8) : bv (bs.set i b) = (bv bs).set i (.int .u8 (b.toNat : Int)) := by simp [bv, List.map_set]
theorem bv_one (bs : List UInt8) : ∀ u ∈ bv bs, u.oneCell' = true := by
  intro u hu
  obtain ⟨b, _, rfl⟩ := List.mem_map.1 hu
  rfl

@[go_sem] theorem eql_nil_bytes (w : World) (ao : Option Addr) (n c : Nat) : (binOp .eql 22 (.slice ao n c) (.slice none 0 0)).run Try.prog w = .ok (.bool ao.isNone) w := Lib.run_eql_slice_nil w _ _ _ _ _ _ _ Try.underlying22

end Go.Proofs.Ytdgpbgdpdmikaab
