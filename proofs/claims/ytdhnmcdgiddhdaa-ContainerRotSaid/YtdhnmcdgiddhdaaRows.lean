/-
  No cell of these rows narrows 'for every input' (looked for: loops, veiled, ifaces, maps, wideKeys, modest, calm, conditions, laid).
  DERIVED. THE GIVEN ROWS OF THIS SEAT. 8 by the template 'for every input the law returns true; each argument reads behind the call as it read before'; 0 by the template 'total and deterministic' (their statements: YtdhnmcdgiddhdaaTotals.lean).
  GIVEN WITH THE SEED: the statements are not yours to turn. If you find one false, say at which input.
  Laid BY PROGRAM, IN A SANDBOX (cutbox-rows.mjs): the forced cells as the released guide's own fill.sh prints them over the translation 2bc80bccea9ec5b6… (all of the seat's roots in one cut). By AI agents, Wed Nov 11 2026. No macro, syntax, notation, axiom, sorry.
-/
import Derived.Test.YtdhnmcdgiddhdaaChecked
import GoSem.Claim
import GoSem.ClaimJoined
import GoSem.ClaimMapViews
import Derived.JoinedTies
import Derived.KernelRfl
namespace Go.Proofs.Ytdhnmcdgiddhdaa
/- THE CELL 'sum', in the pinned program and in every row, IS THE sha256 OF THE DUMP (.gsa) THAT YtdhnmcdgiddhdaaProg.lean LOADS. Nothing in Lean hashes anything: it is a label: what it is worth is what the hold of that sum in a sandbox is worth. -/
noncomputable def Try.pinned : Pinned := { name := "ytdhnmcdgiddhdaa", sum := "2bc80bccea9ec5b6b7fc07200bfac6a02cd4778a0dd94f135e1a7468b14c3129", checked := Try.checked }
namespace Rows
def none {H : Type} : Left H := { results := [], args := [] }

/-- 'foliolaw10.EntropyAll': WHATEVER THE INPUT: true; the input reads as it did. -/
def entropyAllSpec : ChangeSpec := { name := "entropyAll", fn := fun _ => fun
  | [d1, d2, d3] => { results := [.lit (.bool true)], args := [d1, d2, d3] }
  | _ => none }
def entropyAllRow : OpenClaim := { program := "ytdhnmcdgiddhdaa", sum := "2bc80bccea9ec5b6b7fc07200bfac6a02cd4778a0dd94f135e1a7468b14c3129", func := "folio/foliolaw10.EntropyAll", spec := "entropyAll", unfollowed := true, recurses := true, apart := false }
def EntropyAllSaid : Prop := entropyAllRow.holds Try.pinned (OpenSpec.ofChange entropyAllSpec)

/-- ITS FALSE NEIGHBOUR: 'it returns false'. Refute it at one input. -/
def entropyAllWrong : ChangeSpec := { name := "entropyAll", fn := fun _ => fun
  | [d1, d2, d3] => { results := [.lit (.bool false)], args := [d1, d2, d3] }
  | _ => none }
def EntropyAllWrongFalsely : Prop := entropyAllRow.holds Try.pinned (OpenSpec.ofChange entropyAllWrong)

/-- 'foliolaw10.EntropyEqual': WHATEVER THE INPUT: true; the input reads as it did. -/
def entropyEqualSpec : ChangeSpec := { name := "entropyEqual", fn := fun _ => fun
  | [d1, d2] => { results := [.lit (.bool true)], args := [d1, d2] }
  | _ => none }
def entropyEqualRow : OpenClaim := { program := "ytdhnmcdgiddhdaa", sum := "2bc80bccea9ec5b6b7fc07200bfac6a02cd4778a0dd94f135e1a7468b14c3129", func := "folio/foliolaw10.EntropyEqual", spec := "entropyEqual", unfollowed := true, recurses := true, apart := false }
def EntropyEqualSaid : Prop := entropyEqualRow.holds Try.pinned (OpenSpec.ofChange entropyEqualSpec)

/-- ITS FALSE NEIGHBOUR: 'it returns false'. Refute it at one input. -/
def entropyEqualWrong : ChangeSpec := { name := "entropyEqual", fn := fun _ => fun
  | [d1, d2] => { results := [.lit (.bool false)], args := [d1, d2] }
  | _ => none }
def EntropyEqualWrongFalsely : Prop := entropyEqualRow.holds Try.pinned (OpenSpec.ofChange entropyEqualWrong)

/-- 'foliolaw10.EntropyAny': WHATEVER THE INPUT: true; the input reads as it did. -/
def entropyAnySpec : ChangeSpec := { name := "entropyAny", fn := fun _ => fun
  | [d1, d2, d3, d4] => { results := [.lit (.bool true)], args := [d1, d2, d3, d4] }
  | _ => none }
def entropyAnyRow : OpenClaim := { program := "ytdhnmcdgiddhdaa", sum := "2bc80bccea9ec5b6b7fc07200bfac6a02cd4778a0dd94f135e1a7468b14c3129", func := "folio/foliolaw10.EntropyAny", spec := "entropyAny", unfollowed := true, recurses := true, apart := false }
def EntropyAnySaid : Prop := entropyAnyRow.holds Try.pinned (OpenSpec.ofChange entropyAnySpec)

/-- ITS FALSE NEIGHBOUR: 'it returns false'. Refute it at one input. -/
def entropyAnyWrong : ChangeSpec := { name := "entropyAny", fn := fun _ => fun
  | [d1, d2, d3, d4] => { results := [.lit (.bool false)], args := [d1, d2, d3, d4] }
  | _ => none }
def EntropyAnyWrongFalsely : Prop := entropyAnyRow.holds Try.pinned (OpenSpec.ofChange entropyAnyWrong)

/-- 'foliolaw10.EntropyApart': WHATEVER THE INPUT: true; the input reads as it did. -/
def entropyApartSpec : ChangeSpec := { name := "entropyApart", fn := fun _ => fun
  | [d1, d2, d3, d4] => { results := [.lit (.bool true)], args := [d1, d2, d3, d4] }
  | _ => none }
def entropyApartRow : OpenClaim := { program := "ytdhnmcdgiddhdaa", sum := "2bc80bccea9ec5b6b7fc07200bfac6a02cd4778a0dd94f135e1a7468b14c3129", func := "folio/foliolaw10.EntropyApart", spec := "entropyApart", unfollowed := true, recurses := true, apart := false }
def EntropyApartSaid : Prop := entropyApartRow.holds Try.pinned (OpenSpec.ofChange entropyApartSpec)

/-- ITS FALSE NEIGHBOUR: 'it returns false'. Refute it at one input. -/
def entropyApartWrong : ChangeSpec := { name := "entropyApart", fn := fun _ => fun
  | [d1, d2, d3, d4] => { results := [.lit (.bool false)], args := [d1, d2, d3, d4] }
  | _ => none }
def EntropyApartWrongFalsely : Prop := entropyApartRow.holds Try.pinned (OpenSpec.ofChange entropyApartWrong)

/-- 'foliolaw11.ContainerRot': WHATEVER THE INPUT: true; the input reads as it did. -/
def containerRotSpec : ChangeSpec := { name := "containerRot", fn := fun _ => fun
  | [d1, d2, d3, d4, d5, d6] => { results := [.lit (.bool true)], args := [d1, d2, d3, d4, d5, d6] }
  | _ => none }
def containerRotRow : OpenClaim := { program := "ytdhnmcdgiddhdaa", sum := "2bc80bccea9ec5b6b7fc07200bfac6a02cd4778a0dd94f135e1a7468b14c3129", func := "folio/foliolaw11.ContainerRot", spec := "containerRot", unfollowed := true, recurses := true, apart := false }
def ContainerRotSaid : Prop := containerRotRow.holds Try.pinned (OpenSpec.ofChange containerRotSpec)

/-- ITS FALSE NEIGHBOUR: 'it returns false'. Refute it at one input. -/
def containerRotWrong : ChangeSpec := { name := "containerRot", fn := fun _ => fun
  | [d1, d2, d3, d4, d5, d6] => { results := [.lit (.bool false)], args := [d1, d2, d3, d4, d5, d6] }
  | _ => none }
def ContainerRotWrongFalsely : Prop := containerRotRow.holds Try.pinned (OpenSpec.ofChange containerRotWrong)

/-- 'foliolaw11.ContainerAny': WHATEVER THE INPUT: true; the input reads as it did. -/
def containerAnySpec : ChangeSpec := { name := "containerAny", fn := fun _ => fun
  | [d1, d2, d3] => { results := [.lit (.bool true)], args := [d1, d2, d3] }
  | _ => none }
def containerAnyRow : OpenClaim := { program := "ytdhnmcdgiddhdaa", sum := "2bc80bccea9ec5b6b7fc07200bfac6a02cd4778a0dd94f135e1a7468b14c3129", func := "folio/foliolaw11.ContainerAny", spec := "containerAny", unfollowed := true, recurses := true, apart := false }
def ContainerAnySaid : Prop := containerAnyRow.holds Try.pinned (OpenSpec.ofChange containerAnySpec)

/-- ITS FALSE NEIGHBOUR: 'it returns false'. Refute it at one input. -/
def containerAnyWrong : ChangeSpec := { name := "containerAny", fn := fun _ => fun
  | [d1, d2, d3] => { results := [.lit (.bool false)], args := [d1, d2, d3] }
  | _ => none }
def ContainerAnyWrongFalsely : Prop := containerAnyRow.holds Try.pinned (OpenSpec.ofChange containerAnyWrong)

/-- 'foliolaw11.ContainerParts': WHATEVER THE INPUT: true; the input reads as it did. -/
def containerPartsSpec : ChangeSpec := { name := "containerParts", fn := fun _ => fun
  | [d1, d2, d3] => { results := [.lit (.bool true)], args := [d1, d2, d3] }
  | _ => none }
def containerPartsRow : OpenClaim := { program := "ytdhnmcdgiddhdaa", sum := "2bc80bccea9ec5b6b7fc07200bfac6a02cd4778a0dd94f135e1a7468b14c3129", func := "folio/foliolaw11.ContainerParts", spec := "containerParts", unfollowed := true, recurses := true, apart := false }
def ContainerPartsSaid : Prop := containerPartsRow.holds Try.pinned (OpenSpec.ofChange containerPartsSpec)

/-- ITS FALSE NEIGHBOUR: 'it returns false'. Refute it at one input. -/
def containerPartsWrong : ChangeSpec := { name := "containerParts", fn := fun _ => fun
  | [d1, d2, d3] => { results := [.lit (.bool false)], args := [d1, d2, d3] }
  | _ => none }
def ContainerPartsWrongFalsely : Prop := containerPartsRow.holds Try.pinned (OpenSpec.ofChange containerPartsWrong)

/-- 'foliolaw11.ContainerPoor': WHATEVER THE INPUT: true; the input reads as it did. -/
def containerPoorSpec : ChangeSpec := { name := "containerPoor", fn := fun _ => fun
  | [d1, d2] => { results := [.lit (.bool true)], args := [d1, d2] }
  | _ => none }
def containerPoorRow : OpenClaim := { program := "ytdhnmcdgiddhdaa", sum := "2bc80bccea9ec5b6b7fc07200bfac6a02cd4778a0dd94f135e1a7468b14c3129", func := "folio/foliolaw11.ContainerPoor", spec := "containerPoor", unfollowed := true, recurses := true, apart := false }
def ContainerPoorSaid : Prop := containerPoorRow.holds Try.pinned (OpenSpec.ofChange containerPoorSpec)

/-- ITS FALSE NEIGHBOUR: 'it returns false'. Refute it at one input. -/
def containerPoorWrong : ChangeSpec := { name := "containerPoor", fn := fun _ => fun
  | [d1, d2] => { results := [.lit (.bool false)], args := [d1, d2] }
  | _ => none }
def ContainerPoorWrongFalsely : Prop := containerPoorRow.holds Try.pinned (OpenSpec.ofChange containerPoorWrong)

/- THE SECOND FORM. 'bulk': how many values and letters a reading holds, each counted each time it is reached (what is shared counts as often as it is met; a slice's spare places count too). A statement '..UptoSaid' is the law's where the arguments, and the package variables that the reading takes, are together of bulk at most 1048576: NARROWER than '..Said'. Prove '..Said' where nothing that the law and all that it calls make is longer than what came in: it says more and counts as full. Else prove '..UptoSaid'. A law counts once. -/
mutual
def uptoBulk {H : Type} : DataW H → Nat
  | .lit (.string bytes) => bytes.length + 1
  | .lit _ => 1
  | .nil => 1
  | .ptr d => uptoBulk d + 1
  | .slice elems spare => uptoBulkAll elems + uptoBulkAll spare + 1
  | .agg parts => uptoBulkAll parts + 1
  | .iface _ d => uptoBulk d + 1
  | .map entries => uptoBulkEntries entries + 1
  | .held _ => 1
def uptoBulkAll {H : Type} : List (DataW H) → Nat
  | [] => 0
  | d :: r => uptoBulk d + uptoBulkAll r
def uptoBulkEntries {H : Type} : List (Lit × DataW H) → Nat
  | [] => 0
  | x :: r => uptoBulkEntry x + uptoBulkEntries r
def uptoBulkEntry {H : Type} : Lit × DataW H → Nat
  | (.string bytes, d) => bytes.length + uptoBulk d + 1
  | (_, d) => uptoBulk d + 1
 end
def uptoSmall : (H : Type) → List (DataW H) → Bool := fun _ ds => decide (uptoBulkAll ds ≤ 1048576)
def OpenSpec.upto (s : _root_.Go.ChangeSpec) : _root_.Go.OpenSpec := { _root_.Go.OpenSpec.ofChange s with cond := some uptoSmall }

/-- 'foliolaw10.EntropyAll', WHERE WHAT IT READS IS OF BULK AT MOST 1048576: true; the input reads as it did. -/
def entropyAllUptoRow : OpenClaim := { program := "ytdhnmcdgiddhdaa", sum := "2bc80bccea9ec5b6b7fc07200bfac6a02cd4778a0dd94f135e1a7468b14c3129", func := "folio/foliolaw10.EntropyAll", spec := "entropyAll", unfollowed := true, recurses := true, apart := false, narrowed := true }
def EntropyAllUptoSaid : Prop := entropyAllUptoRow.holds Try.pinned (OpenSpec.upto entropyAllSpec)

/-- 'foliolaw10.EntropyEqual', WHERE WHAT IT READS IS OF BULK AT MOST 1048576: true; the input reads as it did. -/
def entropyEqualUptoRow : OpenClaim := { program := "ytdhnmcdgiddhdaa", sum := "2bc80bccea9ec5b6b7fc07200bfac6a02cd4778a0dd94f135e1a7468b14c3129", func := "folio/foliolaw10.EntropyEqual", spec := "entropyEqual", unfollowed := true, recurses := true, apart := false, narrowed := true }
def EntropyEqualUptoSaid : Prop := entropyEqualUptoRow.holds Try.pinned (OpenSpec.upto entropyEqualSpec)

/-- 'foliolaw10.EntropyAny', WHERE WHAT IT READS IS OF BULK AT MOST 1048576: true; the input reads as it did. -/
def entropyAnyUptoRow : OpenClaim := { program := "ytdhnmcdgiddhdaa", sum := "2bc80bccea9ec5b6b7fc07200bfac6a02cd4778a0dd94f135e1a7468b14c3129", func := "folio/foliolaw10.EntropyAny", spec := "entropyAny", unfollowed := true, recurses := true, apart := false, narrowed := true }
def EntropyAnyUptoSaid : Prop := entropyAnyUptoRow.holds Try.pinned (OpenSpec.upto entropyAnySpec)

/-- 'foliolaw10.EntropyApart', WHERE WHAT IT READS IS OF BULK AT MOST 1048576: true; the input reads as it did. -/
def entropyApartUptoRow : OpenClaim := { program := "ytdhnmcdgiddhdaa", sum := "2bc80bccea9ec5b6b7fc07200bfac6a02cd4778a0dd94f135e1a7468b14c3129", func := "folio/foliolaw10.EntropyApart", spec := "entropyApart", unfollowed := true, recurses := true, apart := false, narrowed := true }
def EntropyApartUptoSaid : Prop := entropyApartUptoRow.holds Try.pinned (OpenSpec.upto entropyApartSpec)

/-- 'foliolaw11.ContainerRot', WHERE WHAT IT READS IS OF BULK AT MOST 1048576: true; the input reads as it did. -/
def containerRotUptoRow : OpenClaim := { program := "ytdhnmcdgiddhdaa", sum := "2bc80bccea9ec5b6b7fc07200bfac6a02cd4778a0dd94f135e1a7468b14c3129", func := "folio/foliolaw11.ContainerRot", spec := "containerRot", unfollowed := true, recurses := true, apart := false, narrowed := true }
def ContainerRotUptoSaid : Prop := containerRotUptoRow.holds Try.pinned (OpenSpec.upto containerRotSpec)

/-- 'foliolaw11.ContainerAny', WHERE WHAT IT READS IS OF BULK AT MOST 1048576: true; the input reads as it did. -/
def containerAnyUptoRow : OpenClaim := { program := "ytdhnmcdgiddhdaa", sum := "2bc80bccea9ec5b6b7fc07200bfac6a02cd4778a0dd94f135e1a7468b14c3129", func := "folio/foliolaw11.ContainerAny", spec := "containerAny", unfollowed := true, recurses := true, apart := false, narrowed := true }
def ContainerAnyUptoSaid : Prop := containerAnyUptoRow.holds Try.pinned (OpenSpec.upto containerAnySpec)

/-- 'foliolaw11.ContainerParts', WHERE WHAT IT READS IS OF BULK AT MOST 1048576: true; the input reads as it did. -/
def containerPartsUptoRow : OpenClaim := { program := "ytdhnmcdgiddhdaa", sum := "2bc80bccea9ec5b6b7fc07200bfac6a02cd4778a0dd94f135e1a7468b14c3129", func := "folio/foliolaw11.ContainerParts", spec := "containerParts", unfollowed := true, recurses := true, apart := false, narrowed := true }
def ContainerPartsUptoSaid : Prop := containerPartsUptoRow.holds Try.pinned (OpenSpec.upto containerPartsSpec)

/-- 'foliolaw11.ContainerPoor', WHERE WHAT IT READS IS OF BULK AT MOST 1048576: true; the input reads as it did. -/
def containerPoorUptoRow : OpenClaim := { program := "ytdhnmcdgiddhdaa", sum := "2bc80bccea9ec5b6b7fc07200bfac6a02cd4778a0dd94f135e1a7468b14c3129", func := "folio/foliolaw11.ContainerPoor", spec := "containerPoor", unfollowed := true, recurses := true, apart := false, narrowed := true }
def ContainerPoorUptoSaid : Prop := containerPoorUptoRow.holds Try.pinned (OpenSpec.upto containerPoorSpec)

end Rows
end Go.Proofs.Ytdhnmcdgiddhdaa
