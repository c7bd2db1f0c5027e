/-
  No cell of these rows narrows 'for every input' (looked for: loops, veiled, ifaces, maps, wideKeys, modest, calm, conditions, laid).
  DERIVED. THE GIVEN ROWS OF THIS SEAT. 4 by the template 'for every input the law returns true; each argument reads behind the call as it read before'; 0 by the template 'total and deterministic' (their statements: YtfnmbfhlfblkhabTotals.lean).
  GIVEN WITH THE SEED: the statements are not yours to turn. If you find one false, say at which input.
  Laid BY PROGRAM, IN A SANDBOX (cutbox-rows.mjs): the forced cells as the released guide's own fill.sh prints them over the translation 5eb749173f3e9cb2… (all of the seat's roots in one cut). By AI agents, Wed Nov 11 2026. No macro, syntax, notation, axiom, sorry.
-/
import Derived.Test.YtfnmbfhlfblkhabChecked
import GoSem.Claim
import GoSem.ClaimJoined
import GoSem.ClaimMapViews
import Derived.JoinedTies
import Derived.KernelRfl
namespace Go.Proofs.Ytfnmbfhlfblkhab
/- THE CELL 'sum', in the pinned program and in every row, IS THE sha256 OF THE DUMP (.gsa) THAT YtfnmbfhlfblkhabProg.lean LOADS. Nothing in Lean hashes anything: it is a label: what it is worth is what the hold of that sum in a sandbox is worth. -/
noncomputable def Try.pinned : Pinned := { name := "ytfnmbfhlfblkhab", sum := "5eb749173f3e9cb2ab8f45eb3ac90dca3687335b795627dd8be59c18ec168bdc", checked := Try.checked }
namespace Rows
def none {H : Type} : Left H := { results := [], args := [] }

/-- 'foliolaw12.ScoreBest': WHATEVER THE INPUT: true; the input reads as it did. -/
def scoreBestSpec : ChangeSpec := { name := "scoreBest", fn := fun _ => fun
  | [d] => { results := [.lit (.bool true)], args := [d] }
  | _ => none }
def scoreBestRow : OpenClaim := { program := "ytfnmbfhlfblkhab", sum := "5eb749173f3e9cb2ab8f45eb3ac90dca3687335b795627dd8be59c18ec168bdc", func := "folio/foliolaw12.ScoreBest", spec := "scoreBest", inPlace := ["math.Float64frombits", "math.Float64bits"], apart := false }
def ScoreBestSaid : Prop := scoreBestRow.holds Try.pinned (OpenSpec.ofChange scoreBestSpec)

/-- ITS FALSE NEIGHBOUR: 'it returns false'. Refute it at one input. -/
def scoreBestWrong : ChangeSpec := { name := "scoreBest", fn := fun _ => fun
  | [d] => { results := [.lit (.bool false)], args := [d] }
  | _ => none }
def ScoreBestWrongFalsely : Prop := scoreBestRow.holds Try.pinned (OpenSpec.ofChange scoreBestWrong)

/-- 'foliolaw12.ScoreSort': WHATEVER THE INPUT: true; the input reads as it did. -/
def scoreSortSpec : ChangeSpec := { name := "scoreSort", fn := fun _ => fun
  | [d] => { results := [.lit (.bool true)], args := [d] }
  | _ => none }
def scoreSortRow : OpenClaim := { program := "ytfnmbfhlfblkhab", sum := "5eb749173f3e9cb2ab8f45eb3ac90dca3687335b795627dd8be59c18ec168bdc", func := "folio/foliolaw12.ScoreSort", spec := "scoreSort", inPlace := ["math.Float64frombits", "math.Float64bits"], apart := false }
def ScoreSortSaid : Prop := scoreSortRow.holds Try.pinned (OpenSpec.ofChange scoreSortSpec)

/-- ITS FALSE NEIGHBOUR: 'it returns false'. Refute it at one input. -/
def scoreSortWrong : ChangeSpec := { name := "scoreSort", fn := fun _ => fun
  | [d] => { results := [.lit (.bool false)], args := [d] }
  | _ => none }
def ScoreSortWrongFalsely : Prop := scoreSortRow.holds Try.pinned (OpenSpec.ofChange scoreSortWrong)

/-- 'foliolaw12.ScoreGain': WHATEVER THE INPUT: true; the input reads as it did. -/
def scoreGainSpec : ChangeSpec := { name := "scoreGain", fn := fun _ => fun
  | [d1, d2, d3, d4] => { results := [.lit (.bool true)], args := [d1, d2, d3, d4] }
  | _ => none }
def scoreGainRow : OpenClaim := { program := "ytfnmbfhlfblkhab", sum := "5eb749173f3e9cb2ab8f45eb3ac90dca3687335b795627dd8be59c18ec168bdc", func := "folio/foliolaw12.ScoreGain", spec := "scoreGain", inPlace := ["math.Float64frombits", "math.Float64bits"], apart := false }
def ScoreGainSaid : Prop := scoreGainRow.holds Try.pinned (OpenSpec.ofChange scoreGainSpec)

/-- ITS FALSE NEIGHBOUR: 'it returns false'. Refute it at one input. -/
def scoreGainWrong : ChangeSpec := { name := "scoreGain", fn := fun _ => fun
  | [d1, d2, d3, d4] => { results := [.lit (.bool false)], args := [d1, d2, d3, d4] }
  | _ => none }
def ScoreGainWrongFalsely : Prop := scoreGainRow.holds Try.pinned (OpenSpec.ofChange scoreGainWrong)

/-- 'foliolaw12.ScoreWhole': WHATEVER THE INPUT: true; the input reads as it did. -/
def scoreWholeSpec : ChangeSpec := { name := "scoreWhole", fn := fun _ => fun
  | [d1, d2] => { results := [.lit (.bool true)], args := [d1, d2] }
  | _ => none }
def scoreWholeRow : OpenClaim := { program := "ytfnmbfhlfblkhab", sum := "5eb749173f3e9cb2ab8f45eb3ac90dca3687335b795627dd8be59c18ec168bdc", func := "folio/foliolaw12.ScoreWhole", spec := "scoreWhole", inPlace := ["math.Float64frombits", "math.Float64bits"], apart := false }
def ScoreWholeSaid : Prop := scoreWholeRow.holds Try.pinned (OpenSpec.ofChange scoreWholeSpec)

/-- ITS FALSE NEIGHBOUR: 'it returns false'. Refute it at one input. -/
def scoreWholeWrong : ChangeSpec := { name := "scoreWhole", fn := fun _ => fun
  | [d1, d2] => { results := [.lit (.bool false)], args := [d1, d2] }
  | _ => none }
def ScoreWholeWrongFalsely : Prop := scoreWholeRow.holds Try.pinned (OpenSpec.ofChange scoreWholeWrong)

/- THE SECOND FORM. 'bulk': how many values and letters a reading holds, each counted each time it is reached (what is shared counts as often as it is met; a slice's spare places count too). A statement '..UptoSaid' is the law's where the arguments, and the package variables that the reading takes, are together of bulk at most 1048576: NARROWER than '..Said'. Prove '..Said' where nothing that the law and all that it calls make is longer than what came in: it says more and counts as full. Else prove '..UptoSaid'. A law counts once. -/
mutual
def uptoBulk {H : Type} : DataW H → Nat
  | .lit (.string bytes) => bytes.length + 1
  | .lit _ => 1
  | .nil => 1
  | .ptr d => uptoBulk d + 1
  | .slice elems spare => uptoBulkAll elems + uptoBulkAll spare + 1
  | .agg parts => uptoBulkAll parts + 1
  | .iface _ d => uptoBulk d + 1
  | .map entries => uptoBulkEntries entries + 1
  | .held _ => 1
def uptoBulkAll {H : Type} : List (DataW H) → Nat
  | [] => 0
  | d :: r => uptoBulk d + uptoBulkAll r
def uptoBulkEntries {H : Type} : List (Lit × DataW H) → Nat
  | [] => 0
  | x :: r => uptoBulkEntry x + uptoBulkEntries r
def uptoBulkEntry {H : Type} : Lit × DataW H → Nat
  | (.string bytes, d) => bytes.length + uptoBulk d + 1
  | (_, d) => uptoBulk d + 1
 end
def uptoSmall : (H : Type) → List (DataW H) → Bool := fun _ ds => decide (uptoBulkAll ds ≤ 1048576)
def OpenSpec.upto (s : _root_.Go.ChangeSpec) : _root_.Go.OpenSpec := { _root_.Go.OpenSpec.ofChange s with cond := some uptoSmall }

/-- 'foliolaw12.ScoreBest', WHERE WHAT IT READS IS OF BULK AT MOST 1048576: true; the input reads as it did. -/
def scoreBestUptoRow : OpenClaim := { program := "ytfnmbfhlfblkhab", sum := "5eb749173f3e9cb2ab8f45eb3ac90dca3687335b795627dd8be59c18ec168bdc", func := "folio/foliolaw12.ScoreBest", spec := "scoreBest", inPlace := ["math.Float64frombits", "math.Float64bits"], apart := false, narrowed := true }
def ScoreBestUptoSaid : Prop := scoreBestUptoRow.holds Try.pinned (OpenSpec.upto scoreBestSpec)

/-- 'foliolaw12.ScoreSort', WHERE WHAT IT READS IS OF BULK AT MOST 1048576: true; the input reads as it did. -/
def scoreSortUptoRow : OpenClaim := { program := "ytfnmbfhlfblkhab", sum := "5eb749173f3e9cb2ab8f45eb3ac90dca3687335b795627dd8be59c18ec168bdc", func := "folio/foliolaw12.ScoreSort", spec := "scoreSort", inPlace := ["math.Float64frombits", "math.Float64bits"], apart := false, narrowed := true }
def ScoreSortUptoSaid : Prop := scoreSortUptoRow.holds Try.pinned (OpenSpec.upto scoreSortSpec)

/-- 'foliolaw12.ScoreGain', WHERE WHAT IT READS IS OF BULK AT MOST 1048576: true; the input reads as it did. -/
def scoreGainUptoRow : OpenClaim := { program := "ytfnmbfhlfblkhab", sum := "5eb749173f3e9cb2ab8f45eb3ac90dca3687335b795627dd8be59c18ec168bdc", func := "folio/foliolaw12.ScoreGain", spec := "scoreGain", inPlace := ["math.Float64frombits", "math.Float64bits"], apart := false, narrowed := true }
def ScoreGainUptoSaid : Prop := scoreGainUptoRow.holds Try.pinned (OpenSpec.upto scoreGainSpec)

/-- 'foliolaw12.ScoreWhole', WHERE WHAT IT READS IS OF BULK AT MOST 1048576: true; the input reads as it did. -/
def scoreWholeUptoRow : OpenClaim := { program := "ytfnmbfhlfblkhab", sum := "5eb749173f3e9cb2ab8f45eb3ac90dca3687335b795627dd8be59c18ec168bdc", func := "folio/foliolaw12.ScoreWhole", spec := "scoreWhole", inPlace := ["math.Float64frombits", "math.Float64bits"], apart := false, narrowed := true }
def ScoreWholeUptoSaid : Prop := scoreWholeUptoRow.holds Try.pinned (OpenSpec.upto scoreWholeSpec)

end Rows
end Go.Proofs.Ytfnmbfhlfblkhab
