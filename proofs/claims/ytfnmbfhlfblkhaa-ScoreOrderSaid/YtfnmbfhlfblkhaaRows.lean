/-
  No cell of these rows narrows 'for every input' (looked for: loops, veiled, ifaces, maps, wideKeys, modest, calm, conditions, laid).
  DERIVED. THE GIVEN ROWS OF THIS SEAT. 12 by the template 'for every input the law returns true; each argument reads behind the call as it read before'; 0 by the template 'total and deterministic' (their statements: YtfnmbfhlfblkhaaTotals.lean).
  GIVEN WITH THE SEED: the statements are not yours to turn. If you find one false, say at which input.
  Laid BY PROGRAM, IN A SANDBOX (cutbox-rows.mjs): the forced cells as the released guide's own fill.sh prints them over the translation 03518c5bbf8a6dcb… (all of the seat's roots in one cut). By AI agents, Wed Nov 11 2026. No macro, syntax, notation, axiom, sorry.
-/
import Derived.Test.YtfnmbfhlfblkhaaChecked
import GoSem.Claim
import GoSem.ClaimJoined
import GoSem.ClaimMapViews
import Derived.JoinedTies
import Derived.KernelRfl
namespace Go.Proofs.Ytfnmbfhlfblkhaa
/- THE CELL 'sum', in the pinned program and in every row, IS THE sha256 OF THE DUMP (.gsa) THAT YtfnmbfhlfblkhaaProg.lean LOADS. Nothing in Lean hashes anything: it is a label: what it is worth is what the hold of that sum in a sandbox is worth. -/
noncomputable def Try.pinned : Pinned := { name := "ytfnmbfhlfblkhaa", sum := "03518c5bbf8a6dcb7f72672da0387bef2502a62b53a4e0f5bcc66ea549bd0cd9", checked := Try.checked }
namespace Rows
def none {H : Type} : Left H := { results := [], args := [] }

/-- 'foliolaw5.ZerosAny': WHATEVER THE INPUT: true; the input reads as it did. -/
def zerosAnySpec : ChangeSpec := { name := "zerosAny", fn := fun _ => fun
  | [d1, d2] => { results := [.lit (.bool true)], args := [d1, d2] }
  | _ => none }
def zerosAnyRow : OpenClaim := { program := "ytfnmbfhlfblkhaa", sum := "03518c5bbf8a6dcb7f72672da0387bef2502a62b53a4e0f5bcc66ea549bd0cd9", func := "folio/foliolaw5.ZerosAny", spec := "zerosAny", apart := false }
def ZerosAnySaid : Prop := zerosAnyRow.holds Try.pinned (OpenSpec.ofChange zerosAnySpec)

/-- ITS FALSE NEIGHBOUR: 'it returns false'. Refute it at one input. -/
def zerosAnyWrong : ChangeSpec := { name := "zerosAny", fn := fun _ => fun
  | [d1, d2] => { results := [.lit (.bool false)], args := [d1, d2] }
  | _ => none }
def ZerosAnyWrongFalsely : Prop := zerosAnyRow.holds Try.pinned (OpenSpec.ofChange zerosAnyWrong)

/-- 'foliolaw5.ZerosRun': WHATEVER THE INPUT: true; the input reads as it did. -/
def zerosRunSpec : ChangeSpec := { name := "zerosRun", fn := fun _ => fun
  | [d] => { results := [.lit (.bool true)], args := [d] }
  | _ => none }
def zerosRunRow : OpenClaim := { program := "ytfnmbfhlfblkhaa", sum := "03518c5bbf8a6dcb7f72672da0387bef2502a62b53a4e0f5bcc66ea549bd0cd9", func := "folio/foliolaw5.ZerosRun", spec := "zerosRun", apart := false }
def ZerosRunSaid : Prop := zerosRunRow.holds Try.pinned (OpenSpec.ofChange zerosRunSpec)

/-- ITS FALSE NEIGHBOUR: 'it returns false'. Refute it at one input. -/
def zerosRunWrong : ChangeSpec := { name := "zerosRun", fn := fun _ => fun
  | [d] => { results := [.lit (.bool false)], args := [d] }
  | _ => none }
def ZerosRunWrongFalsely : Prop := zerosRunRow.holds Try.pinned (OpenSpec.ofChange zerosRunWrong)

/-- 'foliolaw5.ZerosJoin': WHATEVER THE INPUT: true; the input reads as it did. -/
def zerosJoinSpec : ChangeSpec := { name := "zerosJoin", fn := fun _ => fun
  | [d1, d2, d3] => { results := [.lit (.bool true)], args := [d1, d2, d3] }
  | _ => none }
def zerosJoinRow : OpenClaim := { program := "ytfnmbfhlfblkhaa", sum := "03518c5bbf8a6dcb7f72672da0387bef2502a62b53a4e0f5bcc66ea549bd0cd9", func := "folio/foliolaw5.ZerosJoin", spec := "zerosJoin", apart := false }
def ZerosJoinSaid : Prop := zerosJoinRow.holds Try.pinned (OpenSpec.ofChange zerosJoinSpec)

/-- ITS FALSE NEIGHBOUR: 'it returns false'. Refute it at one input. -/
def zerosJoinWrong : ChangeSpec := { name := "zerosJoin", fn := fun _ => fun
  | [d1, d2, d3] => { results := [.lit (.bool false)], args := [d1, d2, d3] }
  | _ => none }
def ZerosJoinWrongFalsely : Prop := zerosJoinRow.holds Try.pinned (OpenSpec.ofChange zerosJoinWrong)

/-- 'foliolaw5.ZerosGreat': WHATEVER THE INPUT: true; the input reads as it did. -/
def zerosGreatSpec : ChangeSpec := { name := "zerosGreat", fn := fun _ => fun
  | [d1, d2] => { results := [.lit (.bool true)], args := [d1, d2] }
  | _ => none }
def zerosGreatRow : OpenClaim := { program := "ytfnmbfhlfblkhaa", sum := "03518c5bbf8a6dcb7f72672da0387bef2502a62b53a4e0f5bcc66ea549bd0cd9", func := "folio/foliolaw5.ZerosGreat", spec := "zerosGreat", apart := false }
def ZerosGreatSaid : Prop := zerosGreatRow.holds Try.pinned (OpenSpec.ofChange zerosGreatSpec)

/-- ITS FALSE NEIGHBOUR: 'it returns false'. Refute it at one input. -/
def zerosGreatWrong : ChangeSpec := { name := "zerosGreat", fn := fun _ => fun
  | [d1, d2] => { results := [.lit (.bool false)], args := [d1, d2] }
  | _ => none }
def ZerosGreatWrongFalsely : Prop := zerosGreatRow.holds Try.pinned (OpenSpec.ofChange zerosGreatWrong)

/-- 'foliolaw1.BitsAll': WHATEVER THE INPUT: true; the input reads as it did. -/
def bitsAllSpec : ChangeSpec := { name := "bitsAll", fn := fun _ => fun
  | [d] => { results := [.lit (.bool true)], args := [d] }
  | _ => none }
def bitsAllRow : OpenClaim := { program := "ytfnmbfhlfblkhaa", sum := "03518c5bbf8a6dcb7f72672da0387bef2502a62b53a4e0f5bcc66ea549bd0cd9", func := "folio/foliolaw1.BitsAll", spec := "bitsAll", apart := false }
def BitsAllSaid : Prop := bitsAllRow.holds Try.pinned (OpenSpec.ofChange bitsAllSpec)

/-- ITS FALSE NEIGHBOUR: 'it returns false'. Refute it at one input. -/
def bitsAllWrong : ChangeSpec := { name := "bitsAll", fn := fun _ => fun
  | [d] => { results := [.lit (.bool false)], args := [d] }
  | _ => none }
def BitsAllWrongFalsely : Prop := bitsAllRow.holds Try.pinned (OpenSpec.ofChange bitsAllWrong)

/-- 'foliolaw1.BitsRead': WHATEVER THE INPUT: true; the input reads as it did. -/
def bitsReadSpec : ChangeSpec := { name := "bitsRead", fn := fun _ => fun
  | [d1, d2] => { results := [.lit (.bool true)], args := [d1, d2] }
  | _ => none }
def bitsReadRow : OpenClaim := { program := "ytfnmbfhlfblkhaa", sum := "03518c5bbf8a6dcb7f72672da0387bef2502a62b53a4e0f5bcc66ea549bd0cd9", func := "folio/foliolaw1.BitsRead", spec := "bitsRead", apart := false }
def BitsReadSaid : Prop := bitsReadRow.holds Try.pinned (OpenSpec.ofChange bitsReadSpec)

/-- ITS FALSE NEIGHBOUR: 'it returns false'. Refute it at one input. -/
def bitsReadWrong : ChangeSpec := { name := "bitsRead", fn := fun _ => fun
  | [d1, d2] => { results := [.lit (.bool false)], args := [d1, d2] }
  | _ => none }
def BitsReadWrongFalsely : Prop := bitsReadRow.holds Try.pinned (OpenSpec.ofChange bitsReadWrong)

/-- 'foliolaw1.BitsNone': WHATEVER THE INPUT: true; the input reads as it did. -/
def bitsNoneSpec : ChangeSpec := { name := "bitsNone", fn := fun _ => fun
  | [] => { results := [.lit (.bool true)], args := [] }
  | _ => none }
def bitsNoneRow : OpenClaim := { program := "ytfnmbfhlfblkhaa", sum := "03518c5bbf8a6dcb7f72672da0387bef2502a62b53a4e0f5bcc66ea549bd0cd9", func := "folio/foliolaw1.BitsNone", spec := "bitsNone", apart := false }
def BitsNoneSaid : Prop := bitsNoneRow.holds Try.pinned (OpenSpec.ofChange bitsNoneSpec)

/-- ITS FALSE NEIGHBOUR: 'it returns false'. Refute it at one input. -/
def bitsNoneWrong : ChangeSpec := { name := "bitsNone", fn := fun _ => fun
  | [] => { results := [.lit (.bool false)], args := [] }
  | _ => none }
def BitsNoneWrongFalsely : Prop := bitsNoneRow.holds Try.pinned (OpenSpec.ofChange bitsNoneWrong)

/-- 'foliolaw1.BitsWide': WHATEVER THE INPUT: true; the input reads as it did. -/
def bitsWideSpec : ChangeSpec := { name := "bitsWide", fn := fun _ => fun
  | [d1, d2] => { results := [.lit (.bool true)], args := [d1, d2] }
  | _ => none }
def bitsWideRow : OpenClaim := { program := "ytfnmbfhlfblkhaa", sum := "03518c5bbf8a6dcb7f72672da0387bef2502a62b53a4e0f5bcc66ea549bd0cd9", func := "folio/foliolaw1.BitsWide", spec := "bitsWide", apart := false }
def BitsWideSaid : Prop := bitsWideRow.holds Try.pinned (OpenSpec.ofChange bitsWideSpec)

/-- ITS FALSE NEIGHBOUR: 'it returns false'. Refute it at one input. -/
def bitsWideWrong : ChangeSpec := { name := "bitsWide", fn := fun _ => fun
  | [d1, d2] => { results := [.lit (.bool false)], args := [d1, d2] }
  | _ => none }
def BitsWideWrongFalsely : Prop := bitsWideRow.holds Try.pinned (OpenSpec.ofChange bitsWideWrong)

/-- 'foliolaw1.BitsParts': WHATEVER THE INPUT: true; the input reads as it did. -/
def bitsPartsSpec : ChangeSpec := { name := "bitsParts", fn := fun _ => fun
  | [d1, d2, d3] => { results := [.lit (.bool true)], args := [d1, d2, d3] }
  | _ => none }
def bitsPartsRow : OpenClaim := { program := "ytfnmbfhlfblkhaa", sum := "03518c5bbf8a6dcb7f72672da0387bef2502a62b53a4e0f5bcc66ea549bd0cd9", func := "folio/foliolaw1.BitsParts", spec := "bitsParts", apart := false }
def BitsPartsSaid : Prop := bitsPartsRow.holds Try.pinned (OpenSpec.ofChange bitsPartsSpec)

/-- ITS FALSE NEIGHBOUR: 'it returns false'. Refute it at one input. -/
def bitsPartsWrong : ChangeSpec := { name := "bitsParts", fn := fun _ => fun
  | [d1, d2, d3] => { results := [.lit (.bool false)], args := [d1, d2, d3] }
  | _ => none }
def BitsPartsWrongFalsely : Prop := bitsPartsRow.holds Try.pinned (OpenSpec.ofChange bitsPartsWrong)

/-- 'foliolaw1.BitsOnes': WHATEVER THE INPUT: true; the input reads as it did. -/
def bitsOnesSpec : ChangeSpec := { name := "bitsOnes", fn := fun _ => fun
  | [d] => { results := [.lit (.bool true)], args := [d] }
  | _ => none }
def bitsOnesRow : OpenClaim := { program := "ytfnmbfhlfblkhaa", sum := "03518c5bbf8a6dcb7f72672da0387bef2502a62b53a4e0f5bcc66ea549bd0cd9", func := "folio/foliolaw1.BitsOnes", spec := "bitsOnes", apart := false }
def BitsOnesSaid : Prop := bitsOnesRow.holds Try.pinned (OpenSpec.ofChange bitsOnesSpec)

/-- ITS FALSE NEIGHBOUR: 'it returns false'. Refute it at one input. -/
def bitsOnesWrong : ChangeSpec := { name := "bitsOnes", fn := fun _ => fun
  | [d] => { results := [.lit (.bool false)], args := [d] }
  | _ => none }
def BitsOnesWrongFalsely : Prop := bitsOnesRow.holds Try.pinned (OpenSpec.ofChange bitsOnesWrong)

/-- 'foliolaw1.BitsOwn': WHATEVER THE INPUT: true; the input reads as it did. -/
def bitsOwnSpec : ChangeSpec := { name := "bitsOwn", fn := fun _ => fun
  | [d] => { results := [.lit (.bool true)], args := [d] }
  | _ => none }
def bitsOwnRow : OpenClaim := { program := "ytfnmbfhlfblkhaa", sum := "03518c5bbf8a6dcb7f72672da0387bef2502a62b53a4e0f5bcc66ea549bd0cd9", func := "folio/foliolaw1.BitsOwn", spec := "bitsOwn", apart := false }
def BitsOwnSaid : Prop := bitsOwnRow.holds Try.pinned (OpenSpec.ofChange bitsOwnSpec)

/-- ITS FALSE NEIGHBOUR: 'it returns false'. Refute it at one input. -/
def bitsOwnWrong : ChangeSpec := { name := "bitsOwn", fn := fun _ => fun
  | [d] => { results := [.lit (.bool false)], args := [d] }
  | _ => none }
def BitsOwnWrongFalsely : Prop := bitsOwnRow.holds Try.pinned (OpenSpec.ofChange bitsOwnWrong)

/-- 'foliolaw12.ScoreOrder': WHATEVER THE INPUT: true; the input reads as it did. -/
def scoreOrderSpec : ChangeSpec := { name := "scoreOrder", fn := fun _ => fun
  | [d1, d2, d3] => { results := [.lit (.bool true)], args := [d1, d2, d3] }
  | _ => none }
def scoreOrderRow : OpenClaim := { program := "ytfnmbfhlfblkhaa", sum := "03518c5bbf8a6dcb7f72672da0387bef2502a62b53a4e0f5bcc66ea549bd0cd9", func := "folio/foliolaw12.ScoreOrder", spec := "scoreOrder", inPlace := ["math.Float64frombits", "math.Float64bits"], apart := false }
def ScoreOrderSaid : Prop := scoreOrderRow.holds Try.pinned (OpenSpec.ofChange scoreOrderSpec)

/-- ITS FALSE NEIGHBOUR: 'it returns false'. Refute it at one input. -/
def scoreOrderWrong : ChangeSpec := { name := "scoreOrder", fn := fun _ => fun
  | [d1, d2, d3] => { results := [.lit (.bool false)], args := [d1, d2, d3] }
  | _ => none }
def ScoreOrderWrongFalsely : Prop := scoreOrderRow.holds Try.pinned (OpenSpec.ofChange scoreOrderWrong)

/- THE SECOND FORM. 'bulk': how many values and letters a reading holds, each counted each time it is reached (what is shared counts as often as it is met; a slice's spare places count too). A statement '..UptoSaid' is the law's where the arguments, and the package variables that the reading takes, are together of bulk at most 1048576: NARROWER than '..Said'. Prove '..Said' where nothing that the law and all that it calls make is longer than what came in: it says more and counts as full. Else prove '..UptoSaid'. A law counts once. -/
mutual
def uptoBulk {H : Type} : DataW H → Nat
  | .lit (.string bytes) => bytes.length + 1
  | .lit _ => 1
  | .nil => 1
  | .ptr d => uptoBulk d + 1
  | .slice elems spare => uptoBulkAll elems + uptoBulkAll spare + 1
  | .agg parts => uptoBulkAll parts + 1
  | .iface _ d => uptoBulk d + 1
  | .map entries => uptoBulkEntries entries + 1
  | .held _ => 1
def uptoBulkAll {H : Type} : List (DataW H) → Nat
  | [] => 0
  | d :: r => uptoBulk d + uptoBulkAll r
def uptoBulkEntries {H : Type} : List (Lit × DataW H) → Nat
  | [] => 0
  | x :: r => uptoBulkEntry x + uptoBulkEntries r
def uptoBulkEntry {H : Type} : Lit × DataW H → Nat
  | (.string bytes, d) => bytes.length + uptoBulk d + 1
  | (_, d) => uptoBulk d + 1
 end
def uptoSmall : (H : Type) → List (DataW H) → Bool := fun _ ds => decide (uptoBulkAll ds ≤ 1048576)
def OpenSpec.upto (s : _root_.Go.ChangeSpec) : _root_.Go.OpenSpec := { _root_.Go.OpenSpec.ofChange s with cond := some uptoSmall }

/-- 'foliolaw5.ZerosAny', WHERE WHAT IT READS IS OF BULK AT MOST 1048576: true; the input reads as it did. -/
def zerosAnyUptoRow : OpenClaim := { program := "ytfnmbfhlfblkhaa", sum := "03518c5bbf8a6dcb7f72672da0387bef2502a62b53a4e0f5bcc66ea549bd0cd9", func := "folio/foliolaw5.ZerosAny", spec := "zerosAny", apart := false, narrowed := true }
def ZerosAnyUptoSaid : Prop := zerosAnyUptoRow.holds Try.pinned (OpenSpec.upto zerosAnySpec)

/-- 'foliolaw5.ZerosRun', WHERE WHAT IT READS IS OF BULK AT MOST 1048576: true; the input reads as it did. -/
def zerosRunUptoRow : OpenClaim := { program := "ytfnmbfhlfblkhaa", sum := "03518c5bbf8a6dcb7f72672da0387bef2502a62b53a4e0f5bcc66ea549bd0cd9", func := "folio/foliolaw5.ZerosRun", spec := "zerosRun", apart := false, narrowed := true }
def ZerosRunUptoSaid : Prop := zerosRunUptoRow.holds Try.pinned (OpenSpec.upto zerosRunSpec)

/-- 'foliolaw5.ZerosJoin', WHERE WHAT IT READS IS OF BULK AT MOST 1048576: true; the input reads as it did. -/
def zerosJoinUptoRow : OpenClaim := { program := "ytfnmbfhlfblkhaa", sum := "03518c5bbf8a6dcb7f72672da0387bef2502a62b53a4e0f5bcc66ea549bd0cd9", func := "folio/foliolaw5.ZerosJoin", spec := "zerosJoin", apart := false, narrowed := true }
def ZerosJoinUptoSaid : Prop := zerosJoinUptoRow.holds Try.pinned (OpenSpec.upto zerosJoinSpec)

/-- 'foliolaw5.ZerosGreat', WHERE WHAT IT READS IS OF BULK AT MOST 1048576: true; the input reads as it did. -/
def zerosGreatUptoRow : OpenClaim := { program := "ytfnmbfhlfblkhaa", sum := "03518c5bbf8a6dcb7f72672da0387bef2502a62b53a4e0f5bcc66ea549bd0cd9", func := "folio/foliolaw5.ZerosGreat", spec := "zerosGreat", apart := false, narrowed := true }
def ZerosGreatUptoSaid : Prop := zerosGreatUptoRow.holds Try.pinned (OpenSpec.upto zerosGreatSpec)

/-- 'foliolaw1.BitsAll', WHERE WHAT IT READS IS OF BULK AT MOST 1048576: true; the input reads as it did. -/
def bitsAllUptoRow : OpenClaim := { program := "ytfnmbfhlfblkhaa", sum := "03518c5bbf8a6dcb7f72672da0387bef2502a62b53a4e0f5bcc66ea549bd0cd9", func := "folio/foliolaw1.BitsAll", spec := "bitsAll", apart := false, narrowed := true }
def BitsAllUptoSaid : Prop := bitsAllUptoRow.holds Try.pinned (OpenSpec.upto bitsAllSpec)

/-- 'foliolaw1.BitsRead', WHERE WHAT IT READS IS OF BULK AT MOST 1048576: true; the input reads as it did. -/
def bitsReadUptoRow : OpenClaim := { program := "ytfnmbfhlfblkhaa", sum := "03518c5bbf8a6dcb7f72672da0387bef2502a62b53a4e0f5bcc66ea549bd0cd9", func := "folio/foliolaw1.BitsRead", spec := "bitsRead", apart := false, narrowed := true }
def BitsReadUptoSaid : Prop := bitsReadUptoRow.holds Try.pinned (OpenSpec.upto bitsReadSpec)

/-- 'foliolaw1.BitsNone', WHERE WHAT IT READS IS OF BULK AT MOST 1048576: true; the input reads as it did. -/
def bitsNoneUptoRow : OpenClaim := { program := "ytfnmbfhlfblkhaa", sum := "03518c5bbf8a6dcb7f72672da0387bef2502a62b53a4e0f5bcc66ea549bd0cd9", func := "folio/foliolaw1.BitsNone", spec := "bitsNone", apart := false, narrowed := true }
def BitsNoneUptoSaid : Prop := bitsNoneUptoRow.holds Try.pinned (OpenSpec.upto bitsNoneSpec)

/-- 'foliolaw1.BitsWide', WHERE WHAT IT READS IS OF BULK AT MOST 1048576: true; the input reads as it did. -/
def bitsWideUptoRow : OpenClaim := { program := "ytfnmbfhlfblkhaa", sum := "03518c5bbf8a6dcb7f72672da0387bef2502a62b53a4e0f5bcc66ea549bd0cd9", func := "folio/foliolaw1.BitsWide", spec := "bitsWide", apart := false, narrowed := true }
def BitsWideUptoSaid : Prop := bitsWideUptoRow.holds Try.pinned (OpenSpec.upto bitsWideSpec)

/-- 'foliolaw1.BitsParts', WHERE WHAT IT READS IS OF BULK AT MOST 1048576: true; the input reads as it did. -/
def bitsPartsUptoRow : OpenClaim := { program := "ytfnmbfhlfblkhaa", sum := "03518c5bbf8a6dcb7f72672da0387bef2502a62b53a4e0f5bcc66ea549bd0cd9", func := "folio/foliolaw1.BitsParts", spec := "bitsParts", apart := false, narrowed := true }
def BitsPartsUptoSaid : Prop := bitsPartsUptoRow.holds Try.pinned (OpenSpec.upto bitsPartsSpec)

/-- 'foliolaw1.BitsOnes', WHERE WHAT IT READS IS OF BULK AT MOST 1048576: true; the input reads as it did. -/
def bitsOnesUptoRow : OpenClaim := { program := "ytfnmbfhlfblkhaa", sum := "03518c5bbf8a6dcb7f72672da0387bef2502a62b53a4e0f5bcc66ea549bd0cd9", func := "folio/foliolaw1.BitsOnes", spec := "bitsOnes", apart := false, narrowed := true }
def BitsOnesUptoSaid : Prop := bitsOnesUptoRow.holds Try.pinned (OpenSpec.upto bitsOnesSpec)

/-- 'foliolaw1.BitsOwn', WHERE WHAT IT READS IS OF BULK AT MOST 1048576: true; the input reads as it did. -/
def bitsOwnUptoRow : OpenClaim := { program := "ytfnmbfhlfblkhaa", sum := "03518c5bbf8a6dcb7f72672da0387bef2502a62b53a4e0f5bcc66ea549bd0cd9", func := "folio/foliolaw1.BitsOwn", spec := "bitsOwn", apart := false, narrowed := true }
def BitsOwnUptoSaid : Prop := bitsOwnUptoRow.holds Try.pinned (OpenSpec.upto bitsOwnSpec)

/-- 'foliolaw12.ScoreOrder', WHERE WHAT IT READS IS OF BULK AT MOST 1048576: true; the input reads as it did. -/
def scoreOrderUptoRow : OpenClaim := { program := "ytfnmbfhlfblkhaa", sum := "03518c5bbf8a6dcb7f72672da0387bef2502a62b53a4e0f5bcc66ea549bd0cd9", func := "folio/foliolaw12.ScoreOrder", spec := "scoreOrder", inPlace := ["math.Float64frombits", "math.Float64bits"], apart := false, narrowed := true }
def ScoreOrderUptoSaid : Prop := scoreOrderUptoRow.holds Try.pinned (OpenSpec.upto scoreOrderSpec)

end Rows
end Go.Proofs.Ytfnmbfhlfblkhaa
