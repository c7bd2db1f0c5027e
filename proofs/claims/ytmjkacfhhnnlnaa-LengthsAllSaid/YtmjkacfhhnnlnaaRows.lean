/-
  No cell of these rows narrows 'for every input' (looked for: loops, veiled, ifaces, maps, wideKeys, modest, calm, conditions, laid).
  DERIVED. THE GIVEN ROWS OF THIS SEAT. 3 by the template 'for every input the law returns true; each argument reads behind the call as it read before'; 0 by the template 'total and deterministic' (their statements: YtmjkacfhhnnlnaaTotals.lean).
  GIVEN WITH THE SEED: the statements are not yours to turn. If you find one false, say at which input.
  Laid BY PROGRAM, IN A SANDBOX (cutbox-rows.mjs): the forced cells as the released guide's own fill.sh prints them over the translation a25d63c1c369e17b… (all of the seat's roots in one cut). By AI agents, Wed Nov 11 2026. No macro, syntax, notation, axiom, sorry.
-/
import Derived.Test.YtmjkacfhhnnlnaaChecked
import GoSem.Claim
import GoSem.ClaimJoined
import GoSem.ClaimMapViews
import Derived.JoinedTies
import Derived.KernelRfl
namespace Go.Proofs.Ytmjkacfhhnnlnaa
/- THE CELL 'sum', in the pinned program and in every row, IS THE sha256 OF THE DUMP (.gsa) THAT YtmjkacfhhnnlnaaProg.lean LOADS. Nothing in Lean hashes anything: it is a label: what it is worth is what the hold of that sum in a sandbox is worth. -/
noncomputable def Try.pinned : Pinned := { name := "ytmjkacfhhnnlnaa", sum := "a25d63c1c369e17bf94bbdd499d807bba27cef8c5bf947fb8b79a2f4d2a22032", checked := Try.checked }
namespace Rows
def none {H : Type} : Left H := { results := [], args := [] }

/-- 'foliolaw6.LengthsAll': WHATEVER THE INPUT: true; the input reads as it did. -/
def lengthsAllSpec : ChangeSpec := { name := "lengthsAll", fn := fun _ => fun
  | [d] => { results := [.lit (.bool true)], args := [d] }
  | _ => none }
def lengthsAllRow : OpenClaim := { program := "ytmjkacfhhnnlnaa", sum := "a25d63c1c369e17bf94bbdd499d807bba27cef8c5bf947fb8b79a2f4d2a22032", func := "folio/foliolaw6.LengthsAll", spec := "lengthsAll", unfollowed := true, recurses := true, apart := false }
def LengthsAllSaid : Prop := lengthsAllRow.holds Try.pinned (OpenSpec.ofChange lengthsAllSpec)

/-- ITS FALSE NEIGHBOUR: 'it returns false'. Refute it at one input. -/
def lengthsAllWrong : ChangeSpec := { name := "lengthsAll", fn := fun _ => fun
  | [d] => { results := [.lit (.bool false)], args := [d] }
  | _ => none }
def LengthsAllWrongFalsely : Prop := lengthsAllRow.holds Try.pinned (OpenSpec.ofChange lengthsAllWrong)

/-- 'foliolaw6.LengthsSteep': WHATEVER THE INPUT: true; the input reads as it did. -/
def lengthsSteepSpec : ChangeSpec := { name := "lengthsSteep", fn := fun _ => fun
  | [d1, d2] => { results := [.lit (.bool true)], args := [d1, d2] }
  | _ => none }
def lengthsSteepRow : OpenClaim := { program := "ytmjkacfhhnnlnaa", sum := "a25d63c1c369e17bf94bbdd499d807bba27cef8c5bf947fb8b79a2f4d2a22032", func := "folio/foliolaw6.LengthsSteep", spec := "lengthsSteep", unfollowed := true, recurses := true, apart := false }
def LengthsSteepSaid : Prop := lengthsSteepRow.holds Try.pinned (OpenSpec.ofChange lengthsSteepSpec)

/-- ITS FALSE NEIGHBOUR: 'it returns false'. Refute it at one input. -/
def lengthsSteepWrong : ChangeSpec := { name := "lengthsSteep", fn := fun _ => fun
  | [d1, d2] => { results := [.lit (.bool false)], args := [d1, d2] }
  | _ => none }
def LengthsSteepWrongFalsely : Prop := lengthsSteepRow.holds Try.pinned (OpenSpec.ofChange lengthsSteepWrong)

/-- 'foliolaw6.LengthsOrder': WHATEVER THE INPUT: true; the input reads as it did. -/
def lengthsOrderSpec : ChangeSpec := { name := "lengthsOrder", fn := fun _ => fun
  | [d] => { results := [.lit (.bool true)], args := [d] }
  | _ => none }
def lengthsOrderRow : OpenClaim := { program := "ytmjkacfhhnnlnaa", sum := "a25d63c1c369e17bf94bbdd499d807bba27cef8c5bf947fb8b79a2f4d2a22032", func := "folio/foliolaw6.LengthsOrder", spec := "lengthsOrder", unfollowed := true, recurses := true, apart := false }
def LengthsOrderSaid : Prop := lengthsOrderRow.holds Try.pinned (OpenSpec.ofChange lengthsOrderSpec)

/-- ITS FALSE NEIGHBOUR: 'it returns false'. Refute it at one input. -/
def lengthsOrderWrong : ChangeSpec := { name := "lengthsOrder", fn := fun _ => fun
  | [d] => { results := [.lit (.bool false)], args := [d] }
  | _ => none }
def LengthsOrderWrongFalsely : Prop := lengthsOrderRow.holds Try.pinned (OpenSpec.ofChange lengthsOrderWrong)

/- THE SECOND FORM. 'bulk': how many values and letters a reading holds, each counted each time it is reached (what is shared counts as often as it is met; a slice's spare places count too). A statement '..UptoSaid' is the law's where the arguments, and the package variables that the reading takes, are together of bulk at most 1048576: NARROWER than '..Said'. Prove '..Said' where nothing that the law and all that it calls make is longer than what came in: it says more and counts as full. Else prove '..UptoSaid'. A law counts once. -/
mutual
def uptoBulk {H : Type} : DataW H → Nat
  | .lit (.string bytes) => bytes.length + 1
  | .lit _ => 1
  | .nil => 1
  | .ptr d => uptoBulk d + 1
  | .slice elems spare => uptoBulkAll elems + uptoBulkAll spare + 1
  | .agg parts => uptoBulkAll parts + 1
  | .iface _ d => uptoBulk d + 1
  | .map entries => uptoBulkEntries entries + 1
  | .held _ => 1
def uptoBulkAll {H : Type} : List (DataW H) → Nat
  | [] => 0
  | d :: r => uptoBulk d + uptoBulkAll r
def uptoBulkEntries {H : Type} : List (Lit × DataW H) → Nat
  | [] => 0
  | x :: r => uptoBulkEntry x + uptoBulkEntries r
def uptoBulkEntry {H : Type} : Lit × DataW H → Nat
  | (.string bytes, d) => bytes.length + uptoBulk d + 1
  | (_, d) => uptoBulk d + 1
 end
def uptoSmall : (H : Type) → List (DataW H) → Bool := fun _ ds => decide (uptoBulkAll ds ≤ 1048576)
def OpenSpec.upto (s : _root_.Go.ChangeSpec) : _root_.Go.OpenSpec := { _root_.Go.OpenSpec.ofChange s with cond := some uptoSmall }

/-- 'foliolaw6.LengthsAll', WHERE WHAT IT READS IS OF BULK AT MOST 1048576: true; the input reads as it did. -/
def lengthsAllUptoRow : OpenClaim := { program := "ytmjkacfhhnnlnaa", sum := "a25d63c1c369e17bf94bbdd499d807bba27cef8c5bf947fb8b79a2f4d2a22032", func := "folio/foliolaw6.LengthsAll", spec := "lengthsAll", unfollowed := true, recurses := true, apart := false, narrowed := true }
def LengthsAllUptoSaid : Prop := lengthsAllUptoRow.holds Try.pinned (OpenSpec.upto lengthsAllSpec)

/-- 'foliolaw6.LengthsSteep', WHERE WHAT IT READS IS OF BULK AT MOST 1048576: true; the input reads as it did. -/
def lengthsSteepUptoRow : OpenClaim := { program := "ytmjkacfhhnnlnaa", sum := "a25d63c1c369e17bf94bbdd499d807bba27cef8c5bf947fb8b79a2f4d2a22032", func := "folio/foliolaw6.LengthsSteep", spec := "lengthsSteep", unfollowed := true, recurses := true, apart := false, narrowed := true }
def LengthsSteepUptoSaid : Prop := lengthsSteepUptoRow.holds Try.pinned (OpenSpec.upto lengthsSteepSpec)

/-- 'foliolaw6.LengthsOrder', WHERE WHAT IT READS IS OF BULK AT MOST 1048576: true; the input reads as it did. -/
def lengthsOrderUptoRow : OpenClaim := { program := "ytmjkacfhhnnlnaa", sum := "a25d63c1c369e17bf94bbdd499d807bba27cef8c5bf947fb8b79a2f4d2a22032", func := "folio/foliolaw6.LengthsOrder", spec := "lengthsOrder", unfollowed := true, recurses := true, apart := false, narrowed := true }
def LengthsOrderUptoSaid : Prop := lengthsOrderUptoRow.holds Try.pinned (OpenSpec.upto lengthsOrderSpec)

end Rows
end Go.Proofs.Ytmjkacfhhnnlnaa
