/-
  No cell of these rows narrows 'for every input' (looked for: loops, veiled, ifaces, maps, wideKeys, modest, calm, conditions, laid).
  DERIVED. THE GIVEN ROWS OF THIS SEAT. 5 by the template 'for every input the law returns true; each argument reads behind the call as it read before'; 0 by the template 'total and deterministic' (their statements: YtdhnmcdgiddhdabTotals.lean).
  GIVEN WITH THE SEED: the statements are not yours to turn. If you find one false, say at which input.
  Laid BY PROGRAM, IN A SANDBOX (cutbox-rows.mjs): the forced cells as the released guide's own fill.sh prints them over the translation f5ae3d9fb4acb1ef… (all of the seat's roots in one cut). By AI agents, Wed Nov 11 2026. No macro, syntax, notation, axiom, sorry.
-/
import Derived.Test.YtdhnmcdgiddhdabChecked
import GoSem.Claim
import GoSem.ClaimJoined
import GoSem.ClaimMapViews
import Derived.JoinedTies
import Derived.KernelRfl
namespace Go.Proofs.Ytdhnmcdgiddhdab
/- THE CELL 'sum', in the pinned program and in every row, IS THE sha256 OF THE DUMP (.gsa) THAT YtdhnmcdgiddhdabProg.lean LOADS. Nothing in Lean hashes anything: it is a label: what it is worth is what the hold of that sum in a sandbox is worth. -/
noncomputable def Try.pinned : Pinned := { name := "ytdhnmcdgiddhdab", sum := "f5ae3d9fb4acb1ef2338c8446b4b6533c02dc22e2cef3a8a164d378187f8bbb7", checked := Try.checked }
namespace Rows
def none {H : Type} : Left H := { results := [], args := [] }

/-- 'foliolaw27.ChooseOrder': WHATEVER THE INPUT: true; the input reads as it did. -/
def chooseOrderSpec : ChangeSpec := { name := "chooseOrder", fn := fun _ => fun
  | [d1, d2] => { results := [.lit (.bool true)], args := [d1, d2] }
  | _ => none }
def chooseOrderRow : OpenClaim := { program := "ytdhnmcdgiddhdab", sum := "f5ae3d9fb4acb1ef2338c8446b4b6533c02dc22e2cef3a8a164d378187f8bbb7", func := "folio/foliolaw27.ChooseOrder", spec := "chooseOrder", inPlace := ["math.Float64bits", "slices.overlaps[float64]", "math.Float64frombits"], unfollowed := true, recurses := true, apart := false }
def ChooseOrderSaid : Prop := chooseOrderRow.holds Try.pinned (OpenSpec.ofChange chooseOrderSpec)

/-- ITS FALSE NEIGHBOUR: 'it returns false'. Refute it at one input. -/
def chooseOrderWrong : ChangeSpec := { name := "chooseOrder", fn := fun _ => fun
  | [d1, d2] => { results := [.lit (.bool false)], args := [d1, d2] }
  | _ => none }
def ChooseOrderWrongFalsely : Prop := chooseOrderRow.holds Try.pinned (OpenSpec.ofChange chooseOrderWrong)

/-- 'foliolaw27.ChooseTurned': WHATEVER THE INPUT: true; the input reads as it did. -/
def chooseTurnedSpec : ChangeSpec := { name := "chooseTurned", fn := fun _ => fun
  | [d1, d2, d3] => { results := [.lit (.bool true)], args := [d1, d2, d3] }
  | _ => none }
def chooseTurnedRow : OpenClaim := { program := "ytdhnmcdgiddhdab", sum := "f5ae3d9fb4acb1ef2338c8446b4b6533c02dc22e2cef3a8a164d378187f8bbb7", func := "folio/foliolaw27.ChooseTurned", spec := "chooseTurned", inPlace := ["math.Float64bits", "slices.overlaps[float64]", "math.Float64frombits"], unfollowed := true, recurses := true, apart := false }
def ChooseTurnedSaid : Prop := chooseTurnedRow.holds Try.pinned (OpenSpec.ofChange chooseTurnedSpec)

/-- ITS FALSE NEIGHBOUR: 'it returns false'. Refute it at one input. -/
def chooseTurnedWrong : ChangeSpec := { name := "chooseTurned", fn := fun _ => fun
  | [d1, d2, d3] => { results := [.lit (.bool false)], args := [d1, d2, d3] }
  | _ => none }
def ChooseTurnedWrongFalsely : Prop := chooseTurnedRow.holds Try.pinned (OpenSpec.ofChange chooseTurnedWrong)

/-- 'foliolaw27.ChooseNone': WHATEVER THE INPUT: true; the input reads as it did. -/
def chooseNoneSpec : ChangeSpec := { name := "chooseNone", fn := fun _ => fun
  | [] => { results := [.lit (.bool true)], args := [] }
  | _ => none }
def chooseNoneRow : OpenClaim := { program := "ytdhnmcdgiddhdab", sum := "f5ae3d9fb4acb1ef2338c8446b4b6533c02dc22e2cef3a8a164d378187f8bbb7", func := "folio/foliolaw27.ChooseNone", spec := "chooseNone", inPlace := ["math.Float64bits", "slices.overlaps[float64]", "math.Float64frombits"], unfollowed := true, recurses := true, apart := false }
def ChooseNoneSaid : Prop := chooseNoneRow.holds Try.pinned (OpenSpec.ofChange chooseNoneSpec)

/-- ITS FALSE NEIGHBOUR: 'it returns false'. Refute it at one input. -/
def chooseNoneWrong : ChangeSpec := { name := "chooseNone", fn := fun _ => fun
  | [] => { results := [.lit (.bool false)], args := [] }
  | _ => none }
def ChooseNoneWrongFalsely : Prop := chooseNoneRow.holds Try.pinned (OpenSpec.ofChange chooseNoneWrong)

/-- 'foliolaw27.ChooseMiddle': WHATEVER THE INPUT: true; the input reads as it did. -/
def chooseMiddleSpec : ChangeSpec := { name := "chooseMiddle", fn := fun _ => fun
  | [d] => { results := [.lit (.bool true)], args := [d] }
  | _ => none }
def chooseMiddleRow : OpenClaim := { program := "ytdhnmcdgiddhdab", sum := "f5ae3d9fb4acb1ef2338c8446b4b6533c02dc22e2cef3a8a164d378187f8bbb7", func := "folio/foliolaw27.ChooseMiddle", spec := "chooseMiddle", inPlace := ["math.Float64bits", "slices.overlaps[float64]", "math.Float64frombits"], unfollowed := true, recurses := true, apart := false }
def ChooseMiddleSaid : Prop := chooseMiddleRow.holds Try.pinned (OpenSpec.ofChange chooseMiddleSpec)

/-- ITS FALSE NEIGHBOUR: 'it returns false'. Refute it at one input. -/
def chooseMiddleWrong : ChangeSpec := { name := "chooseMiddle", fn := fun _ => fun
  | [d] => { results := [.lit (.bool false)], args := [d] }
  | _ => none }
def ChooseMiddleWrongFalsely : Prop := chooseMiddleRow.holds Try.pinned (OpenSpec.ofChange chooseMiddleWrong)

/-- 'foliolaw27.ChooseBetween': WHATEVER THE INPUT: true; the input reads as it did. -/
def chooseBetweenSpec : ChangeSpec := { name := "chooseBetween", fn := fun _ => fun
  | [d] => { results := [.lit (.bool true)], args := [d] }
  | _ => none }
def chooseBetweenRow : OpenClaim := { program := "ytdhnmcdgiddhdab", sum := "f5ae3d9fb4acb1ef2338c8446b4b6533c02dc22e2cef3a8a164d378187f8bbb7", func := "folio/foliolaw27.ChooseBetween", spec := "chooseBetween", inPlace := ["math.Float64bits", "slices.overlaps[float64]", "math.Float64frombits", "math.archMin", "math.archMax"], unfollowed := true, recurses := true, apart := false }
def ChooseBetweenSaid : Prop := chooseBetweenRow.holds Try.pinned (OpenSpec.ofChange chooseBetweenSpec)

/-- ITS FALSE NEIGHBOUR: 'it returns false'. Refute it at one input. -/
def chooseBetweenWrong : ChangeSpec := { name := "chooseBetween", fn := fun _ => fun
  | [d] => { results := [.lit (.bool false)], args := [d] }
  | _ => none }
def ChooseBetweenWrongFalsely : Prop := chooseBetweenRow.holds Try.pinned (OpenSpec.ofChange chooseBetweenWrong)

/- THE SECOND FORM. 'bulk': how many values and letters a reading holds, each counted each time it is reached (what is shared counts as often as it is met; a slice's spare places count too). A statement '..UptoSaid' is the law's where the arguments, and the package variables that the reading takes, are together of bulk at most 1048576: NARROWER than '..Said'. Prove '..Said' where nothing that the law and all that it calls make is longer than what came in: it says more and counts as full. Else prove '..UptoSaid'. A law counts once. -/
mutual
def uptoBulk {H : Type} : DataW H → Nat
  | .lit (.string bytes) => bytes.length + 1
  | .lit _ => 1
  | .nil => 1
  | .ptr d => uptoBulk d + 1
  | .slice elems spare => uptoBulkAll elems + uptoBulkAll spare + 1
  | .agg parts => uptoBulkAll parts + 1
  | .iface _ d => uptoBulk d + 1
  | .map entries => uptoBulkEntries entries + 1
  | .held _ => 1
def uptoBulkAll {H : Type} : List (DataW H) → Nat
  | [] => 0
  | d :: r => uptoBulk d + uptoBulkAll r
def uptoBulkEntries {H : Type} : List (Lit × DataW H) → Nat
  | [] => 0
  | x :: r => uptoBulkEntry x + uptoBulkEntries r
def uptoBulkEntry {H : Type} : Lit × DataW H → Nat
  | (.string bytes, d) => bytes.length + uptoBulk d + 1
  | (_, d) => uptoBulk d + 1
 end
def uptoSmall : (H : Type) → List (DataW H) → Bool := fun _ ds => decide (uptoBulkAll ds ≤ 1048576)
def OpenSpec.upto (s : _root_.Go.ChangeSpec) : _root_.Go.OpenSpec := { _root_.Go.OpenSpec.ofChange s with cond := some uptoSmall }

/-- 'foliolaw27.ChooseOrder', WHERE WHAT IT READS IS OF BULK AT MOST 1048576: true; the input reads as it did. -/
def chooseOrderUptoRow : OpenClaim := { program := "ytdhnmcdgiddhdab", sum := "f5ae3d9fb4acb1ef2338c8446b4b6533c02dc22e2cef3a8a164d378187f8bbb7", func := "folio/foliolaw27.ChooseOrder", spec := "chooseOrder", inPlace := ["math.Float64bits", "slices.overlaps[float64]", "math.Float64frombits"], unfollowed := true, recurses := true, apart := false, narrowed := true }
def ChooseOrderUptoSaid : Prop := chooseOrderUptoRow.holds Try.pinned (OpenSpec.upto chooseOrderSpec)

/-- 'foliolaw27.ChooseTurned', WHERE WHAT IT READS IS OF BULK AT MOST 1048576: true; the input reads as it did. -/
def chooseTurnedUptoRow : OpenClaim := { program := "ytdhnmcdgiddhdab", sum := "f5ae3d9fb4acb1ef2338c8446b4b6533c02dc22e2cef3a8a164d378187f8bbb7", func := "folio/foliolaw27.ChooseTurned", spec := "chooseTurned", inPlace := ["math.Float64bits", "slices.overlaps[float64]", "math.Float64frombits"], unfollowed := true, recurses := true, apart := false, narrowed := true }
def ChooseTurnedUptoSaid : Prop := chooseTurnedUptoRow.holds Try.pinned (OpenSpec.upto chooseTurnedSpec)

/-- 'foliolaw27.ChooseNone', WHERE WHAT IT READS IS OF BULK AT MOST 1048576: true; the input reads as it did. -/
def chooseNoneUptoRow : OpenClaim := { program := "ytdhnmcdgiddhdab", sum := "f5ae3d9fb4acb1ef2338c8446b4b6533c02dc22e2cef3a8a164d378187f8bbb7", func := "folio/foliolaw27.ChooseNone", spec := "chooseNone", inPlace := ["math.Float64bits", "slices.overlaps[float64]", "math.Float64frombits"], unfollowed := true, recurses := true, apart := false, narrowed := true }
def ChooseNoneUptoSaid : Prop := chooseNoneUptoRow.holds Try.pinned (OpenSpec.upto chooseNoneSpec)

/-- 'foliolaw27.ChooseMiddle', WHERE WHAT IT READS IS OF BULK AT MOST 1048576: true; the input reads as it did. -/
def chooseMiddleUptoRow : OpenClaim := { program := "ytdhnmcdgiddhdab", sum := "f5ae3d9fb4acb1ef2338c8446b4b6533c02dc22e2cef3a8a164d378187f8bbb7", func := "folio/foliolaw27.ChooseMiddle", spec := "chooseMiddle", inPlace := ["math.Float64bits", "slices.overlaps[float64]", "math.Float64frombits"], unfollowed := true, recurses := true, apart := false, narrowed := true }
def ChooseMiddleUptoSaid : Prop := chooseMiddleUptoRow.holds Try.pinned (OpenSpec.upto chooseMiddleSpec)

/-- 'foliolaw27.ChooseBetween', WHERE WHAT IT READS IS OF BULK AT MOST 1048576: true; the input reads as it did. -/
def chooseBetweenUptoRow : OpenClaim := { program := "ytdhnmcdgiddhdab", sum := "f5ae3d9fb4acb1ef2338c8446b4b6533c02dc22e2cef3a8a164d378187f8bbb7", func := "folio/foliolaw27.ChooseBetween", spec := "chooseBetween", inPlace := ["math.Float64bits", "slices.overlaps[float64]", "math.Float64frombits", "math.archMin", "math.archMax"], unfollowed := true, recurses := true, apart := false, narrowed := true }
def ChooseBetweenUptoSaid : Prop := chooseBetweenUptoRow.holds Try.pinned (OpenSpec.upto chooseBetweenSpec)

end Rows
end Go.Proofs.Ytdhnmcdgiddhdab
