/-
  No cell of these rows narrows 'for every input' (looked for: loops, veiled, ifaces, maps, wideKeys, modest, calm, conditions, laid).
  DERIVED. THE GIVEN ROWS OF THIS SEAT. 6 by the template 'for every input the law returns true; each argument reads behind the call as it read before'; 0 by the template 'total and deterministic' (their statements: YthgbkncanoknkaaTotals.lean).
  GIVEN WITH THE SEED: the statements are not yours to turn. If you find one false, say at which input.
  Laid BY PROGRAM, IN A SANDBOX (cutbox-rows.mjs): the forced cells as the released guide's own fill.sh prints them over the translation 6e7ce4e34741cc5a… (all of the seat's roots in one cut). By AI agents, Wed Nov 11 2026. No macro, syntax, notation, axiom, sorry.
-/
import Derived.Test.YthgbkncanoknkaaChecked
import GoSem.Claim
import GoSem.ClaimJoined
import GoSem.ClaimMapViews
import Derived.JoinedTies
import Derived.KernelRfl
namespace Go.Proofs.Ythgbkncanoknkaa
/- THE CELL 'sum', in the pinned program and in every row, IS THE sha256 OF THE DUMP (.gsa) THAT YthgbkncanoknkaaProg.lean LOADS. Nothing in Lean hashes anything: it is a label: what it is worth is what the hold of that sum in a sandbox is worth. -/
noncomputable def Try.pinned : Pinned := { name := "ythgbkncanoknkaa", sum := "6e7ce4e34741cc5a4601c40549f867435d3079acb12b9710baae42447ec49b28", checked := Try.checked }
namespace Rows
def none {H : Type} : Left H := { results := [], args := [] }

/-- 'foliolaw16.SealedRaw': WHATEVER THE INPUT: true; the input reads as it did. -/
def sealedRawSpec : ChangeSpec := { name := "sealedRaw", fn := fun _ => fun
  | [d] => { results := [.lit (.bool true)], args := [d] }
  | _ => none }
def sealedRawRow : OpenClaim := { program := "ythgbkncanoknkaa", sum := "6e7ce4e34741cc5a4601c40549f867435d3079acb12b9710baae42447ec49b28", func := "folio/foliolaw16.SealedRaw", spec := "sealedRaw", unfollowed := true, recurses := true, apart := false }
def SealedRawSaid : Prop := sealedRawRow.holds Try.pinned (OpenSpec.ofChange sealedRawSpec)

/-- ITS FALSE NEIGHBOUR: 'it returns false'. Refute it at one input. -/
def sealedRawWrong : ChangeSpec := { name := "sealedRaw", fn := fun _ => fun
  | [d] => { results := [.lit (.bool false)], args := [d] }
  | _ => none }
def SealedRawWrongFalsely : Prop := sealedRawRow.holds Try.pinned (OpenSpec.ofChange sealedRawWrong)

/-- 'foliolaw16.SealedAny': WHATEVER THE INPUT: true; the input reads as it did. -/
def sealedAnySpec : ChangeSpec := { name := "sealedAny", fn := fun _ => fun
  | [d1, d2] => { results := [.lit (.bool true)], args := [d1, d2] }
  | _ => none }
def sealedAnyRow : OpenClaim := { program := "ythgbkncanoknkaa", sum := "6e7ce4e34741cc5a4601c40549f867435d3079acb12b9710baae42447ec49b28", func := "folio/foliolaw16.SealedAny", spec := "sealedAny", unfollowed := true, recurses := true, apart := false }
def SealedAnySaid : Prop := sealedAnyRow.holds Try.pinned (OpenSpec.ofChange sealedAnySpec)

/-- ITS FALSE NEIGHBOUR: 'it returns false'. Refute it at one input. -/
def sealedAnyWrong : ChangeSpec := { name := "sealedAny", fn := fun _ => fun
  | [d1, d2] => { results := [.lit (.bool false)], args := [d1, d2] }
  | _ => none }
def SealedAnyWrongFalsely : Prop := sealedAnyRow.holds Try.pinned (OpenSpec.ofChange sealedAnyWrong)

/-- 'foliolaw16.SealedTwins': WHATEVER THE INPUT: true; the input reads as it did. -/
def sealedTwinsSpec : ChangeSpec := { name := "sealedTwins", fn := fun _ => fun
  | [d1, d2] => { results := [.lit (.bool true)], args := [d1, d2] }
  | _ => none }
def sealedTwinsRow : OpenClaim := { program := "ythgbkncanoknkaa", sum := "6e7ce4e34741cc5a4601c40549f867435d3079acb12b9710baae42447ec49b28", func := "folio/foliolaw16.SealedTwins", spec := "sealedTwins", unfollowed := true, recurses := true, apart := false }
def SealedTwinsSaid : Prop := sealedTwinsRow.holds Try.pinned (OpenSpec.ofChange sealedTwinsSpec)

/-- ITS FALSE NEIGHBOUR: 'it returns false'. Refute it at one input. -/
def sealedTwinsWrong : ChangeSpec := { name := "sealedTwins", fn := fun _ => fun
  | [d1, d2] => { results := [.lit (.bool false)], args := [d1, d2] }
  | _ => none }
def SealedTwinsWrongFalsely : Prop := sealedTwinsRow.holds Try.pinned (OpenSpec.ofChange sealedTwinsWrong)

/-- 'foliolaw16.SealedMany': WHATEVER THE INPUT: true; the input reads as it did. -/
def sealedManySpec : ChangeSpec := { name := "sealedMany", fn := fun _ => fun
  | [d1, d2, d3] => { results := [.lit (.bool true)], args := [d1, d2, d3] }
  | _ => none }
def sealedManyRow : OpenClaim := { program := "ythgbkncanoknkaa", sum := "6e7ce4e34741cc5a4601c40549f867435d3079acb12b9710baae42447ec49b28", func := "folio/foliolaw16.SealedMany", spec := "sealedMany", unfollowed := true, recurses := true, apart := false }
def SealedManySaid : Prop := sealedManyRow.holds Try.pinned (OpenSpec.ofChange sealedManySpec)

/-- ITS FALSE NEIGHBOUR: 'it returns false'. Refute it at one input. -/
def sealedManyWrong : ChangeSpec := { name := "sealedMany", fn := fun _ => fun
  | [d1, d2, d3] => { results := [.lit (.bool false)], args := [d1, d2, d3] }
  | _ => none }
def SealedManyWrongFalsely : Prop := sealedManyRow.holds Try.pinned (OpenSpec.ofChange sealedManyWrong)

/-- 'foliolaw16.SealedAll': WHATEVER THE INPUT: true; the input reads as it did. -/
def sealedAllSpec : ChangeSpec := { name := "sealedAll", fn := fun _ => fun
  | [d1, d2, d3] => { results := [.lit (.bool true)], args := [d1, d2, d3] }
  | _ => none }
def sealedAllRow : OpenClaim := { program := "ythgbkncanoknkaa", sum := "6e7ce4e34741cc5a4601c40549f867435d3079acb12b9710baae42447ec49b28", func := "folio/foliolaw16.SealedAll", spec := "sealedAll", unfollowed := true, recurses := true, apart := false }
def SealedAllSaid : Prop := sealedAllRow.holds Try.pinned (OpenSpec.ofChange sealedAllSpec)

/-- ITS FALSE NEIGHBOUR: 'it returns false'. Refute it at one input. -/
def sealedAllWrong : ChangeSpec := { name := "sealedAll", fn := fun _ => fun
  | [d1, d2, d3] => { results := [.lit (.bool false)], args := [d1, d2, d3] }
  | _ => none }
def SealedAllWrongFalsely : Prop := sealedAllRow.holds Try.pinned (OpenSpec.ofChange sealedAllWrong)

/-- 'foliolaw16.SealedNone': WHATEVER THE INPUT: true; the input reads as it did. -/
def sealedNoneSpec : ChangeSpec := { name := "sealedNone", fn := fun _ => fun
  | [] => { results := [.lit (.bool true)], args := [] }
  | _ => none }
def sealedNoneRow : OpenClaim := { program := "ythgbkncanoknkaa", sum := "6e7ce4e34741cc5a4601c40549f867435d3079acb12b9710baae42447ec49b28", func := "folio/foliolaw16.SealedNone", spec := "sealedNone", unfollowed := true, recurses := true, apart := false }
def SealedNoneSaid : Prop := sealedNoneRow.holds Try.pinned (OpenSpec.ofChange sealedNoneSpec)

/-- ITS FALSE NEIGHBOUR: 'it returns false'. Refute it at one input. -/
def sealedNoneWrong : ChangeSpec := { name := "sealedNone", fn := fun _ => fun
  | [] => { results := [.lit (.bool false)], args := [] }
  | _ => none }
def SealedNoneWrongFalsely : Prop := sealedNoneRow.holds Try.pinned (OpenSpec.ofChange sealedNoneWrong)

/- THE SECOND FORM. 'bulk': how many values and letters a reading holds, each counted each time it is reached (what is shared counts as often as it is met; a slice's spare places count too). A statement '..UptoSaid' is the law's where the arguments, and the package variables that the reading takes, are together of bulk at most 1048576: NARROWER than '..Said'. Prove '..Said' where nothing that the law and all that it calls make is longer than what came in: it says more and counts as full. Else prove '..UptoSaid'. A law counts once. -/
mutual
def uptoBulk {H : Type} : DataW H → Nat
  | .lit (.string bytes) => bytes.length + 1
  | .lit _ => 1
  | .nil => 1
  | .ptr d => uptoBulk d + 1
  | .slice elems spare => uptoBulkAll elems + uptoBulkAll spare + 1
  | .agg parts => uptoBulkAll parts + 1
  | .iface _ d => uptoBulk d + 1
  | .map entries => uptoBulkEntries entries + 1
  | .held _ => 1
def uptoBulkAll {H : Type} : List (DataW H) → Nat
  | [] => 0
  | d :: r => uptoBulk d + uptoBulkAll r
def uptoBulkEntries {H : Type} : List (Lit × DataW H) → Nat
  | [] => 0
  | x :: r => uptoBulkEntry x + uptoBulkEntries r
def uptoBulkEntry {H : Type} : Lit × DataW H → Nat
  | (.string bytes, d) => bytes.length + uptoBulk d + 1
  | (_, d) => uptoBulk d + 1
 end
def uptoSmall : (H : Type) → List (DataW H) → Bool := fun _ ds => decide (uptoBulkAll ds ≤ 1048576)
def OpenSpec.upto (s : _root_.Go.ChangeSpec) : _root_.Go.OpenSpec := { _root_.Go.OpenSpec.ofChange s with cond := some uptoSmall }

/-- 'foliolaw16.SealedRaw', WHERE WHAT IT READS IS OF BULK AT MOST 1048576: true; the input reads as it did. -/
def sealedRawUptoRow : OpenClaim := { program := "ythgbkncanoknkaa", sum := "6e7ce4e34741cc5a4601c40549f867435d3079acb12b9710baae42447ec49b28", func := "folio/foliolaw16.SealedRaw", spec := "sealedRaw", unfollowed := true, recurses := true, apart := false, narrowed := true }
def SealedRawUptoSaid : Prop := sealedRawUptoRow.holds Try.pinned (OpenSpec.upto sealedRawSpec)

/-- 'foliolaw16.SealedAny', WHERE WHAT IT READS IS OF BULK AT MOST 1048576: true; the input reads as it did. -/
def sealedAnyUptoRow : OpenClaim := { program := "ythgbkncanoknkaa", sum := "6e7ce4e34741cc5a4601c40549f867435d3079acb12b9710baae42447ec49b28", func := "folio/foliolaw16.SealedAny", spec := "sealedAny", unfollowed := true, recurses := true, apart := false, narrowed := true }
def SealedAnyUptoSaid : Prop := sealedAnyUptoRow.holds Try.pinned (OpenSpec.upto sealedAnySpec)

/-- 'foliolaw16.SealedTwins', WHERE WHAT IT READS IS OF BULK AT MOST 1048576: true; the input reads as it did. -/
def sealedTwinsUptoRow : OpenClaim := { program := "ythgbkncanoknkaa", sum := "6e7ce4e34741cc5a4601c40549f867435d3079acb12b9710baae42447ec49b28", func := "folio/foliolaw16.SealedTwins", spec := "sealedTwins", unfollowed := true, recurses := true, apart := false, narrowed := true }
def SealedTwinsUptoSaid : Prop := sealedTwinsUptoRow.holds Try.pinned (OpenSpec.upto sealedTwinsSpec)

/-- 'foliolaw16.SealedMany', WHERE WHAT IT READS IS OF BULK AT MOST 1048576: true; the input reads as it did. -/
def sealedManyUptoRow : OpenClaim := { program := "ythgbkncanoknkaa", sum := "6e7ce4e34741cc5a4601c40549f867435d3079acb12b9710baae42447ec49b28", func := "folio/foliolaw16.SealedMany", spec := "sealedMany", unfollowed := true, recurses := true, apart := false, narrowed := true }
def SealedManyUptoSaid : Prop := sealedManyUptoRow.holds Try.pinned (OpenSpec.upto sealedManySpec)

/-- 'foliolaw16.SealedAll', WHERE WHAT IT READS IS OF BULK AT MOST 1048576: true; the input reads as it did. -/
def sealedAllUptoRow : OpenClaim := { program := "ythgbkncanoknkaa", sum := "6e7ce4e34741cc5a4601c40549f867435d3079acb12b9710baae42447ec49b28", func := "folio/foliolaw16.SealedAll", spec := "sealedAll", unfollowed := true, recurses := true, apart := false, narrowed := true }
def SealedAllUptoSaid : Prop := sealedAllUptoRow.holds Try.pinned (OpenSpec.upto sealedAllSpec)

/-- 'foliolaw16.SealedNone', WHERE WHAT IT READS IS OF BULK AT MOST 1048576: true; the input reads as it did. -/
def sealedNoneUptoRow : OpenClaim := { program := "ythgbkncanoknkaa", sum := "6e7ce4e34741cc5a4601c40549f867435d3079acb12b9710baae42447ec49b28", func := "folio/foliolaw16.SealedNone", spec := "sealedNone", unfollowed := true, recurses := true, apart := false, narrowed := true }
def SealedNoneUptoSaid : Prop := sealedNoneUptoRow.holds Try.pinned (OpenSpec.upto sealedNoneSpec)

end Rows
end Go.Proofs.Ythgbkncanoknkaa
