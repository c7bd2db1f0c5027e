/-
  A number below 256 is a byte.
-/
import Derived.Test.YtdhnmcdgiddhdaaCg2
set_option linter.unusedVariables false
set_option linter.unusedSimpArgs false
namespace Go.Proofs.Ytdhnmcdgiddhdaa
open Go.RowKit
theorem byteOf (V : Int) (h0 : 0 ≤ V) (h1 : V < 256) : ∃ z : UInt8, V = (z.toNat : Int) := ⟨UInt8.ofNat V.toNat, by
  rw [UInt8.toNat_ofNat']
  omega⟩
end Go.Proofs.Ytdhnmcdgiddhdaa
