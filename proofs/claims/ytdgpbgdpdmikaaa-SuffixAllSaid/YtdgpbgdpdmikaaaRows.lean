/-
  No cell of these rows narrows 'for every input' (looked for: loops, veiled, ifaces, maps, wideKeys, modest, calm, conditions, laid).
  DERIVED. THE GIVEN ROWS OF THIS SEAT. 12 by the template 'for every input the law returns true; each argument reads behind the call as it read before'; 0 by the template 'total and deterministic' (their statements: YtdgpbgdpdmikaaaTotals.lean).
  GIVEN WITH THE SEED: the statements are not yours to turn. If you find one false, say at which input.
  Laid BY PROGRAM, IN A SANDBOX (cutbox-rows.mjs): the forced cells as the released guide's own fill.sh prints them over the translation 2abfc187bd078e60… (all of the seat's roots in one cut). By AI agents, Wed Nov 11 2026. No macro, syntax, notation, axiom, sorry.
-/
import Derived.Test.YtdgpbgdpdmikaaaChecked
import GoSem.Claim
import GoSem.ClaimJoined
import GoSem.ClaimMapViews
import Derived.JoinedTies
import Derived.KernelRfl
namespace Go.Proofs.Ytdgpbgdpdmikaaa
/- THE CELL 'sum', in the pinned program and in every row, IS THE sha256 OF THE DUMP (.gsa) THAT YtdgpbgdpdmikaaaProg.lean LOADS. Nothing in Lean hashes anything: it is a label: what it is worth is what the hold of that sum in a sandbox is worth. -/
noncomputable def Try.pinned : Pinned := { name := "ytdgpbgdpdmikaaa", sum := "2abfc187bd078e609ab647279d869d52d5f86b3d30ec2d73cc3d20bc598d093e", checked := Try.checked }
namespace Rows
def none {H : Type} : Left H := { results := [], args := [] }

/-- 'foliolaw7.CodesOf': WHATEVER THE INPUT: true; the input reads as it did. -/
def codesOfSpec : ChangeSpec := { name := "codesOf", fn := fun _ => fun
  | [d] => { results := [.lit (.bool true)], args := [d] }
  | _ => none }
def codesOfRow : OpenClaim := { program := "ytdgpbgdpdmikaaa", sum := "2abfc187bd078e609ab647279d869d52d5f86b3d30ec2d73cc3d20bc598d093e", func := "folio/foliolaw7.CodesOf", spec := "codesOf", apart := false }
def CodesOfSaid : Prop := codesOfRow.holds Try.pinned (OpenSpec.ofChange codesOfSpec)

/-- ITS FALSE NEIGHBOUR: 'it returns false'. Refute it at one input. -/
def codesOfWrong : ChangeSpec := { name := "codesOf", fn := fun _ => fun
  | [d] => { results := [.lit (.bool false)], args := [d] }
  | _ => none }
def CodesOfWrongFalsely : Prop := codesOfRow.holds Try.pinned (OpenSpec.ofChange codesOfWrong)

/-- 'foliolaw7.CodesWrite': WHATEVER THE INPUT: true; the input reads as it did. -/
def codesWriteSpec : ChangeSpec := { name := "codesWrite", fn := fun _ => fun
  | [d1, d2, d3] => { results := [.lit (.bool true)], args := [d1, d2, d3] }
  | _ => none }
def codesWriteRow : OpenClaim := { program := "ytdgpbgdpdmikaaa", sum := "2abfc187bd078e609ab647279d869d52d5f86b3d30ec2d73cc3d20bc598d093e", func := "folio/foliolaw7.CodesWrite", spec := "codesWrite", apart := false }
def CodesWriteSaid : Prop := codesWriteRow.holds Try.pinned (OpenSpec.ofChange codesWriteSpec)

/-- ITS FALSE NEIGHBOUR: 'it returns false'. Refute it at one input. -/
def codesWriteWrong : ChangeSpec := { name := "codesWrite", fn := fun _ => fun
  | [d1, d2, d3] => { results := [.lit (.bool false)], args := [d1, d2, d3] }
  | _ => none }
def CodesWriteWrongFalsely : Prop := codesWriteRow.holds Try.pinned (OpenSpec.ofChange codesWriteWrong)

/-- 'foliolaw7.CodesRead': WHATEVER THE INPUT: true; the input reads as it did. -/
def codesReadSpec : ChangeSpec := { name := "codesRead", fn := fun _ => fun
  | [d1, d2, d3, d4] => { results := [.lit (.bool true)], args := [d1, d2, d3, d4] }
  | _ => none }
def codesReadRow : OpenClaim := { program := "ytdgpbgdpdmikaaa", sum := "2abfc187bd078e609ab647279d869d52d5f86b3d30ec2d73cc3d20bc598d093e", func := "folio/foliolaw7.CodesRead", spec := "codesRead", apart := false }
def CodesReadSaid : Prop := codesReadRow.holds Try.pinned (OpenSpec.ofChange codesReadSpec)

/-- ITS FALSE NEIGHBOUR: 'it returns false'. Refute it at one input. -/
def codesReadWrong : ChangeSpec := { name := "codesRead", fn := fun _ => fun
  | [d1, d2, d3, d4] => { results := [.lit (.bool false)], args := [d1, d2, d3, d4] }
  | _ => none }
def CodesReadWrongFalsely : Prop := codesReadRow.holds Try.pinned (OpenSpec.ofChange codesReadWrong)

/-- 'foliolaw7.CodesWhole': WHATEVER THE INPUT: true; the input reads as it did. -/
def codesWholeSpec : ChangeSpec := { name := "codesWhole", fn := fun _ => fun
  | [d1, d2] => { results := [.lit (.bool true)], args := [d1, d2] }
  | _ => none }
def codesWholeRow : OpenClaim := { program := "ytdgpbgdpdmikaaa", sum := "2abfc187bd078e609ab647279d869d52d5f86b3d30ec2d73cc3d20bc598d093e", func := "folio/foliolaw7.CodesWhole", spec := "codesWhole", apart := false }
def CodesWholeSaid : Prop := codesWholeRow.holds Try.pinned (OpenSpec.ofChange codesWholeSpec)

/-- ITS FALSE NEIGHBOUR: 'it returns false'. Refute it at one input. -/
def codesWholeWrong : ChangeSpec := { name := "codesWhole", fn := fun _ => fun
  | [d1, d2] => { results := [.lit (.bool false)], args := [d1, d2] }
  | _ => none }
def CodesWholeWrongFalsely : Prop := codesWholeRow.holds Try.pinned (OpenSpec.ofChange codesWholeWrong)

/-- 'foliolaw7.CodesApart': WHATEVER THE INPUT: true; the input reads as it did. -/
def codesApartSpec : ChangeSpec := { name := "codesApart", fn := fun _ => fun
  | [d] => { results := [.lit (.bool true)], args := [d] }
  | _ => none }
def codesApartRow : OpenClaim := { program := "ytdgpbgdpdmikaaa", sum := "2abfc187bd078e609ab647279d869d52d5f86b3d30ec2d73cc3d20bc598d093e", func := "folio/foliolaw7.CodesApart", spec := "codesApart", apart := false }
def CodesApartSaid : Prop := codesApartRow.holds Try.pinned (OpenSpec.ofChange codesApartSpec)

/-- ITS FALSE NEIGHBOUR: 'it returns false'. Refute it at one input. -/
def codesApartWrong : ChangeSpec := { name := "codesApart", fn := fun _ => fun
  | [d] => { results := [.lit (.bool false)], args := [d] }
  | _ => none }
def CodesApartWrongFalsely : Prop := codesApartRow.holds Try.pinned (OpenSpec.ofChange codesApartWrong)

/-- 'foliolaw7.CodesRise': WHATEVER THE INPUT: true; the input reads as it did. -/
def codesRiseSpec : ChangeSpec := { name := "codesRise", fn := fun _ => fun
  | [d] => { results := [.lit (.bool true)], args := [d] }
  | _ => none }
def codesRiseRow : OpenClaim := { program := "ytdgpbgdpdmikaaa", sum := "2abfc187bd078e609ab647279d869d52d5f86b3d30ec2d73cc3d20bc598d093e", func := "folio/foliolaw7.CodesRise", spec := "codesRise", apart := false }
def CodesRiseSaid : Prop := codesRiseRow.holds Try.pinned (OpenSpec.ofChange codesRiseSpec)

/-- ITS FALSE NEIGHBOUR: 'it returns false'. Refute it at one input. -/
def codesRiseWrong : ChangeSpec := { name := "codesRise", fn := fun _ => fun
  | [d] => { results := [.lit (.bool false)], args := [d] }
  | _ => none }
def CodesRiseWrongFalsely : Prop := codesRiseRow.holds Try.pinned (OpenSpec.ofChange codesRiseWrong)

/-- 'foliolaw8.SuffixAll': WHATEVER THE INPUT: true; the input reads as it did. -/
def suffixAllSpec : ChangeSpec := { name := "suffixAll", fn := fun _ => fun
  | [d] => { results := [.lit (.bool true)], args := [d] }
  | _ => none }
def suffixAllRow : OpenClaim := { program := "ytdgpbgdpdmikaaa", sum := "2abfc187bd078e609ab647279d869d52d5f86b3d30ec2d73cc3d20bc598d093e", func := "folio/foliolaw8.SuffixAll", spec := "suffixAll", recurses := true, apart := false }
def SuffixAllSaid : Prop := suffixAllRow.holds Try.pinned (OpenSpec.ofChange suffixAllSpec)

/-- ITS FALSE NEIGHBOUR: 'it returns false'. Refute it at one input. -/
def suffixAllWrong : ChangeSpec := { name := "suffixAll", fn := fun _ => fun
  | [d] => { results := [.lit (.bool false)], args := [d] }
  | _ => none }
def SuffixAllWrongFalsely : Prop := suffixAllRow.holds Try.pinned (OpenSpec.ofChange suffixAllWrong)

/-- 'foliolaw8.SuffixWords': WHATEVER THE INPUT: true; the input reads as it did. -/
def suffixWordsSpec : ChangeSpec := { name := "suffixWords", fn := fun _ => fun
  | [d1, d2] => { results := [.lit (.bool true)], args := [d1, d2] }
  | _ => none }
def suffixWordsRow : OpenClaim := { program := "ytdgpbgdpdmikaaa", sum := "2abfc187bd078e609ab647279d869d52d5f86b3d30ec2d73cc3d20bc598d093e", func := "folio/foliolaw8.SuffixWords", spec := "suffixWords", recurses := true, apart := false }
def SuffixWordsSaid : Prop := suffixWordsRow.holds Try.pinned (OpenSpec.ofChange suffixWordsSpec)

/-- ITS FALSE NEIGHBOUR: 'it returns false'. Refute it at one input. -/
def suffixWordsWrong : ChangeSpec := { name := "suffixWords", fn := fun _ => fun
  | [d1, d2] => { results := [.lit (.bool false)], args := [d1, d2] }
  | _ => none }
def SuffixWordsWrongFalsely : Prop := suffixWordsRow.holds Try.pinned (OpenSpec.ofChange suffixWordsWrong)

/-- 'foliolaw8.SuffixFind': WHATEVER THE INPUT: true; the input reads as it did. -/
def suffixFindSpec : ChangeSpec := { name := "suffixFind", fn := fun _ => fun
  | [d1, d2] => { results := [.lit (.bool true)], args := [d1, d2] }
  | _ => none }
def suffixFindRow : OpenClaim := { program := "ytdgpbgdpdmikaaa", sum := "2abfc187bd078e609ab647279d869d52d5f86b3d30ec2d73cc3d20bc598d093e", func := "folio/foliolaw8.SuffixFind", spec := "suffixFind", recurses := true, apart := false }
def SuffixFindSaid : Prop := suffixFindRow.holds Try.pinned (OpenSpec.ofChange suffixFindSpec)

/-- ITS FALSE NEIGHBOUR: 'it returns false'. Refute it at one input. -/
def suffixFindWrong : ChangeSpec := { name := "suffixFind", fn := fun _ => fun
  | [d1, d2] => { results := [.lit (.bool false)], args := [d1, d2] }
  | _ => none }
def SuffixFindWrongFalsely : Prop := suffixFindRow.holds Try.pinned (OpenSpec.ofChange suffixFindWrong)

/-- 'foliolaw8.SuffixTail': WHATEVER THE INPUT: true; the input reads as it did. -/
def suffixTailSpec : ChangeSpec := { name := "suffixTail", fn := fun _ => fun
  | [d] => { results := [.lit (.bool true)], args := [d] }
  | _ => none }
def suffixTailRow : OpenClaim := { program := "ytdgpbgdpdmikaaa", sum := "2abfc187bd078e609ab647279d869d52d5f86b3d30ec2d73cc3d20bc598d093e", func := "folio/foliolaw8.SuffixTail", spec := "suffixTail", recurses := true, apart := false }
def SuffixTailSaid : Prop := suffixTailRow.holds Try.pinned (OpenSpec.ofChange suffixTailSpec)

/-- ITS FALSE NEIGHBOUR: 'it returns false'. Refute it at one input. -/
def suffixTailWrong : ChangeSpec := { name := "suffixTail", fn := fun _ => fun
  | [d] => { results := [.lit (.bool false)], args := [d] }
  | _ => none }
def SuffixTailWrongFalsely : Prop := suffixTailRow.holds Try.pinned (OpenSpec.ofChange suffixTailWrong)

/-- 'foliolaw8.SuffixOne': WHATEVER THE INPUT: true; the input reads as it did. -/
def suffixOneSpec : ChangeSpec := { name := "suffixOne", fn := fun _ => fun
  | [d1, d2] => { results := [.lit (.bool true)], args := [d1, d2] }
  | _ => none }
def suffixOneRow : OpenClaim := { program := "ytdgpbgdpdmikaaa", sum := "2abfc187bd078e609ab647279d869d52d5f86b3d30ec2d73cc3d20bc598d093e", func := "folio/foliolaw8.SuffixOne", spec := "suffixOne", recurses := true, apart := false }
def SuffixOneSaid : Prop := suffixOneRow.holds Try.pinned (OpenSpec.ofChange suffixOneSpec)

/-- ITS FALSE NEIGHBOUR: 'it returns false'. Refute it at one input. -/
def suffixOneWrong : ChangeSpec := { name := "suffixOne", fn := fun _ => fun
  | [d1, d2] => { results := [.lit (.bool false)], args := [d1, d2] }
  | _ => none }
def SuffixOneWrongFalsely : Prop := suffixOneRow.holds Try.pinned (OpenSpec.ofChange suffixOneWrong)

/-- 'foliolaw8.SuffixRabbits': WHATEVER THE INPUT: true; the input reads as it did. -/
def suffixRabbitsSpec : ChangeSpec := { name := "suffixRabbits", fn := fun _ => fun
  | [d1, d2, d3] => { results := [.lit (.bool true)], args := [d1, d2, d3] }
  | _ => none }
def suffixRabbitsRow : OpenClaim := { program := "ytdgpbgdpdmikaaa", sum := "2abfc187bd078e609ab647279d869d52d5f86b3d30ec2d73cc3d20bc598d093e", func := "folio/foliolaw8.SuffixRabbits", spec := "suffixRabbits", recurses := true, apart := false }
def SuffixRabbitsSaid : Prop := suffixRabbitsRow.holds Try.pinned (OpenSpec.ofChange suffixRabbitsSpec)

/-- ITS FALSE NEIGHBOUR: 'it returns false'. Refute it at one input. -/
def suffixRabbitsWrong : ChangeSpec := { name := "suffixRabbits", fn := fun _ => fun
  | [d1, d2, d3] => { results := [.lit (.bool false)], args := [d1, d2, d3] }
  | _ => none }
def SuffixRabbitsWrongFalsely : Prop := suffixRabbitsRow.holds Try.pinned (OpenSpec.ofChange suffixRabbitsWrong)

/- THE SECOND FORM. 'bulk': how many values and letters a reading holds, each counted each time it is reached (what is shared counts as often as it is met; a slice's spare places count too). A statement '..UptoSaid' is the law's where the arguments, and the package variables that the reading takes, are together of bulk at most 1048576: NARROWER than '..Said'. Prove '..Said' where nothing that the law and all that it calls make is longer than what came in: it says more and counts as full. Else prove '..UptoSaid'. A law counts once. -/
mutual
def uptoBulk {H : Type} : DataW H → Nat
  | .lit (.string bytes) => bytes.length + 1
  | .lit _ => 1
  | .nil => 1
  | .ptr d => uptoBulk d + 1
  | .slice elems spare => uptoBulkAll elems + uptoBulkAll spare + 1
  | .agg parts => uptoBulkAll parts + 1
  | .iface _ d => uptoBulk d + 1
  | .map entries => uptoBulkEntries entries + 1
  | .held _ => 1
def uptoBulkAll {H : Type} : List (DataW H) → Nat
  | [] => 0
  | d :: r => uptoBulk d + uptoBulkAll r
def uptoBulkEntries {H : Type} : List (Lit × DataW H) → Nat
  | [] => 0
  | x :: r => uptoBulkEntry x + uptoBulkEntries r
def uptoBulkEntry {H : Type} : Lit × DataW H → Nat
  | (.string bytes, d) => bytes.length + uptoBulk d + 1
  | (_, d) => uptoBulk d + 1
 end
def uptoSmall : (H : Type) → List (DataW H) → Bool := fun _ ds => decide (uptoBulkAll ds ≤ 1048576)
def OpenSpec.upto (s : _root_.Go.ChangeSpec) : _root_.Go.OpenSpec := { _root_.Go.OpenSpec.ofChange s with cond := some uptoSmall }

/-- 'foliolaw7.CodesOf', WHERE WHAT IT READS IS OF BULK AT MOST 1048576: true; the input reads as it did. -/
def codesOfUptoRow : OpenClaim := { program := "ytdgpbgdpdmikaaa", sum := "2abfc187bd078e609ab647279d869d52d5f86b3d30ec2d73cc3d20bc598d093e", func := "folio/foliolaw7.CodesOf", spec := "codesOf", apart := false, narrowed := true }
def CodesOfUptoSaid : Prop := codesOfUptoRow.holds Try.pinned (OpenSpec.upto codesOfSpec)

/-- 'foliolaw7.CodesWrite', WHERE WHAT IT READS IS OF BULK AT MOST 1048576: true; the input reads as it did. -/
def codesWriteUptoRow : OpenClaim := { program := "ytdgpbgdpdmikaaa", sum := "2abfc187bd078e609ab647279d869d52d5f86b3d30ec2d73cc3d20bc598d093e", func := "folio/foliolaw7.CodesWrite", spec := "codesWrite", apart := false, narrowed := true }
def CodesWriteUptoSaid : Prop := codesWriteUptoRow.holds Try.pinned (OpenSpec.upto codesWriteSpec)

/-- 'foliolaw7.CodesRead', WHERE WHAT IT READS IS OF BULK AT MOST 1048576: true; the input reads as it did. -/
def codesReadUptoRow : OpenClaim := { program := "ytdgpbgdpdmikaaa", sum := "2abfc187bd078e609ab647279d869d52d5f86b3d30ec2d73cc3d20bc598d093e", func := "folio/foliolaw7.CodesRead", spec := "codesRead", apart := false, narrowed := true }
def CodesReadUptoSaid : Prop := codesReadUptoRow.holds Try.pinned (OpenSpec.upto codesReadSpec)

/-- 'foliolaw7.CodesWhole', WHERE WHAT IT READS IS OF BULK AT MOST 1048576: true; the input reads as it did. -/
def codesWholeUptoRow : OpenClaim := { program := "ytdgpbgdpdmikaaa", sum := "2abfc187bd078e609ab647279d869d52d5f86b3d30ec2d73cc3d20bc598d093e", func := "folio/foliolaw7.CodesWhole", spec := "codesWhole", apart := false, narrowed := true }
def CodesWholeUptoSaid : Prop := codesWholeUptoRow.holds Try.pinned (OpenSpec.upto codesWholeSpec)

/-- 'foliolaw7.CodesApart', WHERE WHAT IT READS IS OF BULK AT MOST 1048576: true; the input reads as it did. -/
def codesApartUptoRow : OpenClaim := { program := "ytdgpbgdpdmikaaa", sum := "2abfc187bd078e609ab647279d869d52d5f86b3d30ec2d73cc3d20bc598d093e", func := "folio/foliolaw7.CodesApart", spec := "codesApart", apart := false, narrowed := true }
def CodesApartUptoSaid : Prop := codesApartUptoRow.holds Try.pinned (OpenSpec.upto codesApartSpec)

/-- 'foliolaw7.CodesRise', WHERE WHAT IT READS IS OF BULK AT MOST 1048576: true; the input reads as it did. -/
def codesRiseUptoRow : OpenClaim := { program := "ytdgpbgdpdmikaaa", sum := "2abfc187bd078e609ab647279d869d52d5f86b3d30ec2d73cc3d20bc598d093e", func := "folio/foliolaw7.CodesRise", spec := "codesRise", apart := false, narrowed := true }
def CodesRiseUptoSaid : Prop := codesRiseUptoRow.holds Try.pinned (OpenSpec.upto codesRiseSpec)

/-- 'foliolaw8.SuffixAll', WHERE WHAT IT READS IS OF BULK AT MOST 1048576: true; the input reads as it did. -/
def suffixAllUptoRow : OpenClaim := { program := "ytdgpbgdpdmikaaa", sum := "2abfc187bd078e609ab647279d869d52d5f86b3d30ec2d73cc3d20bc598d093e", func := "folio/foliolaw8.SuffixAll", spec := "suffixAll", recurses := true, apart := false, narrowed := true }
def SuffixAllUptoSaid : Prop := suffixAllUptoRow.holds Try.pinned (OpenSpec.upto suffixAllSpec)

/-- 'foliolaw8.SuffixWords', WHERE WHAT IT READS IS OF BULK AT MOST 1048576: true; the input reads as it did. -/
def suffixWordsUptoRow : OpenClaim := { program := "ytdgpbgdpdmikaaa", sum := "2abfc187bd078e609ab647279d869d52d5f86b3d30ec2d73cc3d20bc598d093e", func := "folio/foliolaw8.SuffixWords", spec := "suffixWords", recurses := true, apart := false, narrowed := true }
def SuffixWordsUptoSaid : Prop := suffixWordsUptoRow.holds Try.pinned (OpenSpec.upto suffixWordsSpec)

/-- 'foliolaw8.SuffixFind', WHERE WHAT IT READS IS OF BULK AT MOST 1048576: true; the input reads as it did. -/
def suffixFindUptoRow : OpenClaim := { program := "ytdgpbgdpdmikaaa", sum := "2abfc187bd078e609ab647279d869d52d5f86b3d30ec2d73cc3d20bc598d093e", func := "folio/foliolaw8.SuffixFind", spec := "suffixFind", recurses := true, apart := false, narrowed := true }
def SuffixFindUptoSaid : Prop := suffixFindUptoRow.holds Try.pinned (OpenSpec.upto suffixFindSpec)

/-- 'foliolaw8.SuffixTail', WHERE WHAT IT READS IS OF BULK AT MOST 1048576: true; the input reads as it did. -/
def suffixTailUptoRow : OpenClaim := { program := "ytdgpbgdpdmikaaa", sum := "2abfc187bd078e609ab647279d869d52d5f86b3d30ec2d73cc3d20bc598d093e", func := "folio/foliolaw8.SuffixTail", spec := "suffixTail", recurses := true, apart := false, narrowed := true }
def SuffixTailUptoSaid : Prop := suffixTailUptoRow.holds Try.pinned (OpenSpec.upto suffixTailSpec)

/-- 'foliolaw8.SuffixOne', WHERE WHAT IT READS IS OF BULK AT MOST 1048576: true; the input reads as it did. -/
def suffixOneUptoRow : OpenClaim := { program := "ytdgpbgdpdmikaaa", sum := "2abfc187bd078e609ab647279d869d52d5f86b3d30ec2d73cc3d20bc598d093e", func := "folio/foliolaw8.SuffixOne", spec := "suffixOne", recurses := true, apart := false, narrowed := true }
def SuffixOneUptoSaid : Prop := suffixOneUptoRow.holds Try.pinned (OpenSpec.upto suffixOneSpec)

/-- 'foliolaw8.SuffixRabbits', WHERE WHAT IT READS IS OF BULK AT MOST 1048576: true; the input reads as it did. -/
def suffixRabbitsUptoRow : OpenClaim := { program := "ytdgpbgdpdmikaaa", sum := "2abfc187bd078e609ab647279d869d52d5f86b3d30ec2d73cc3d20bc598d093e", func := "folio/foliolaw8.SuffixRabbits", spec := "suffixRabbits", recurses := true, apart := false, narrowed := true }
def SuffixRabbitsUptoSaid : Prop := suffixRabbitsUptoRow.holds Try.pinned (OpenSpec.upto suffixRabbitsSpec)

end Rows
end Go.Proofs.Ytdgpbgdpdmikaaa
