/-
  No cell of these rows narrows 'for every input' (looked for: loops, veiled, ifaces, maps, wideKeys, modest, calm, conditions, laid).
  DERIVED. THE GIVEN ROWS OF THIS SEAT. 12 by the template 'for every input the law returns true; each argument reads behind the call as it read before'; 0 by the template 'total and deterministic' (their statements: YtdgpbgdpdmikaabTotals.lean).
  GIVEN WITH THE SEED: the statements are not yours to turn. If you find one false, say at which input.
  Laid BY PROGRAM, IN A SANDBOX (cutbox-rows.mjs): the forced cells as the released guide's own fill.sh prints them over the translation 9aa57bd37d7ab666… (all of the seat's roots in one cut). By AI agents, Wed Nov 11 2026. No macro, syntax, notation, axiom, sorry.
-/
import Derived.Test.YtdgpbgdpdmikaabChecked
import GoSem.Claim
import GoSem.ClaimJoined
import GoSem.ClaimMapViews
import Derived.JoinedTies
import Derived.KernelRfl
namespace Go.Proofs.Ytdgpbgdpdmikaab
/- THE CELL 'sum', in the pinned program and in every row, IS THE sha256 OF THE DUMP (.gsa) THAT YtdgpbgdpdmikaabProg.lean LOADS. Nothing in Lean hashes anything: it is a label: what it is worth is what the hold of that sum in a sandbox is worth. -/
noncomputable def Try.pinned : Pinned := { name := "ytdgpbgdpdmikaab", sum := "9aa57bd37d7ab66657e2011b5c98ff5cffd43b17fea91101f052c89cf080d26f", checked := Try.checked }
namespace Rows
def none {H : Type} : Left H := { results := [], args := [] }

/-- 'foliolaw9.BwtForward': WHATEVER THE INPUT: true; the input reads as it did. -/
def bwtForwardSpec : ChangeSpec := { name := "bwtForward", fn := fun _ => fun
  | [d] => { results := [.lit (.bool true)], args := [d] }
  | _ => none }
def bwtForwardRow : OpenClaim := { program := "ytdgpbgdpdmikaab", sum := "9aa57bd37d7ab66657e2011b5c98ff5cffd43b17fea91101f052c89cf080d26f", func := "folio/foliolaw9.BwtForward", spec := "bwtForward", recurses := true, apart := false }
def BwtForwardSaid : Prop := bwtForwardRow.holds Try.pinned (OpenSpec.ofChange bwtForwardSpec)

/-- ITS FALSE NEIGHBOUR: 'it returns false'. Refute it at one input. -/
def bwtForwardWrong : ChangeSpec := { name := "bwtForward", fn := fun _ => fun
  | [d] => { results := [.lit (.bool false)], args := [d] }
  | _ => none }
def BwtForwardWrongFalsely : Prop := bwtForwardRow.holds Try.pinned (OpenSpec.ofChange bwtForwardWrong)

/-- 'foliolaw9.BwtBack': WHATEVER THE INPUT: true; the input reads as it did. -/
def bwtBackSpec : ChangeSpec := { name := "bwtBack", fn := fun _ => fun
  | [d1, d2] => { results := [.lit (.bool true)], args := [d1, d2] }
  | _ => none }
def bwtBackRow : OpenClaim := { program := "ytdgpbgdpdmikaab", sum := "9aa57bd37d7ab66657e2011b5c98ff5cffd43b17fea91101f052c89cf080d26f", func := "folio/foliolaw9.BwtBack", spec := "bwtBack", recurses := true, apart := false }
def BwtBackSaid : Prop := bwtBackRow.holds Try.pinned (OpenSpec.ofChange bwtBackSpec)

/-- ITS FALSE NEIGHBOUR: 'it returns false'. Refute it at one input. -/
def bwtBackWrong : ChangeSpec := { name := "bwtBack", fn := fun _ => fun
  | [d1, d2] => { results := [.lit (.bool false)], args := [d1, d2] }
  | _ => none }
def BwtBackWrongFalsely : Prop := bwtBackRow.holds Try.pinned (OpenSpec.ofChange bwtBackWrong)

/-- 'foliolaw9.BwtPlaces': WHATEVER THE INPUT: true; the input reads as it did. -/
def bwtPlacesSpec : ChangeSpec := { name := "bwtPlaces", fn := fun _ => fun
  | [d1, d2] => { results := [.lit (.bool true)], args := [d1, d2] }
  | _ => none }
def bwtPlacesRow : OpenClaim := { program := "ytdgpbgdpdmikaab", sum := "9aa57bd37d7ab66657e2011b5c98ff5cffd43b17fea91101f052c89cf080d26f", func := "folio/foliolaw9.BwtPlaces", spec := "bwtPlaces", recurses := true, apart := false }
def BwtPlacesSaid : Prop := bwtPlacesRow.holds Try.pinned (OpenSpec.ofChange bwtPlacesSpec)

/-- ITS FALSE NEIGHBOUR: 'it returns false'. Refute it at one input. -/
def bwtPlacesWrong : ChangeSpec := { name := "bwtPlaces", fn := fun _ => fun
  | [d1, d2] => { results := [.lit (.bool false)], args := [d1, d2] }
  | _ => none }
def BwtPlacesWrongFalsely : Prop := bwtPlacesRow.holds Try.pinned (OpenSpec.ofChange bwtPlacesWrong)

/-- 'foliolaw9.BwtSame': WHATEVER THE INPUT: true; the input reads as it did. -/
def bwtSameSpec : ChangeSpec := { name := "bwtSame", fn := fun _ => fun
  | [d] => { results := [.lit (.bool true)], args := [d] }
  | _ => none }
def bwtSameRow : OpenClaim := { program := "ytdgpbgdpdmikaab", sum := "9aa57bd37d7ab66657e2011b5c98ff5cffd43b17fea91101f052c89cf080d26f", func := "folio/foliolaw9.BwtSame", spec := "bwtSame", recurses := true, apart := false }
def BwtSameSaid : Prop := bwtSameRow.holds Try.pinned (OpenSpec.ofChange bwtSameSpec)

/-- ITS FALSE NEIGHBOUR: 'it returns false'. Refute it at one input. -/
def bwtSameWrong : ChangeSpec := { name := "bwtSame", fn := fun _ => fun
  | [d] => { results := [.lit (.bool false)], args := [d] }
  | _ => none }
def BwtSameWrongFalsely : Prop := bwtSameRow.holds Try.pinned (OpenSpec.ofChange bwtSameWrong)

/-- 'foliolaw9.BwtWords': WHATEVER THE INPUT: true; the input reads as it did. -/
def bwtWordsSpec : ChangeSpec := { name := "bwtWords", fn := fun _ => fun
  | [d1, d2] => { results := [.lit (.bool true)], args := [d1, d2] }
  | _ => none }
def bwtWordsRow : OpenClaim := { program := "ytdgpbgdpdmikaab", sum := "9aa57bd37d7ab66657e2011b5c98ff5cffd43b17fea91101f052c89cf080d26f", func := "folio/foliolaw9.BwtWords", spec := "bwtWords", recurses := true, apart := false }
def BwtWordsSaid : Prop := bwtWordsRow.holds Try.pinned (OpenSpec.ofChange bwtWordsSpec)

/-- ITS FALSE NEIGHBOUR: 'it returns false'. Refute it at one input. -/
def bwtWordsWrong : ChangeSpec := { name := "bwtWords", fn := fun _ => fun
  | [d1, d2] => { results := [.lit (.bool false)], args := [d1, d2] }
  | _ => none }
def BwtWordsWrongFalsely : Prop := bwtWordsRow.holds Try.pinned (OpenSpec.ofChange bwtWordsWrong)

/-- 'foliolaw6.LengthsAll': WHATEVER THE INPUT: true; the input reads as it did. -/
def lengthsAllSpec : ChangeSpec := { name := "lengthsAll", fn := fun _ => fun
  | [d] => { results := [.lit (.bool true)], args := [d] }
  | _ => none }
def lengthsAllRow : OpenClaim := { program := "ytdgpbgdpdmikaab", sum := "9aa57bd37d7ab66657e2011b5c98ff5cffd43b17fea91101f052c89cf080d26f", func := "folio/foliolaw6.LengthsAll", spec := "lengthsAll", unfollowed := true, recurses := true, apart := false }
def LengthsAllSaid : Prop := lengthsAllRow.holds Try.pinned (OpenSpec.ofChange lengthsAllSpec)

/-- ITS FALSE NEIGHBOUR: 'it returns false'. Refute it at one input. -/
def lengthsAllWrong : ChangeSpec := { name := "lengthsAll", fn := fun _ => fun
  | [d] => { results := [.lit (.bool false)], args := [d] }
  | _ => none }
def LengthsAllWrongFalsely : Prop := lengthsAllRow.holds Try.pinned (OpenSpec.ofChange lengthsAllWrong)

/-- 'foliolaw6.LengthsSteep': WHATEVER THE INPUT: true; the input reads as it did. -/
def lengthsSteepSpec : ChangeSpec := { name := "lengthsSteep", fn := fun _ => fun
  | [d1, d2] => { results := [.lit (.bool true)], args := [d1, d2] }
  | _ => none }
def lengthsSteepRow : OpenClaim := { program := "ytdgpbgdpdmikaab", sum := "9aa57bd37d7ab66657e2011b5c98ff5cffd43b17fea91101f052c89cf080d26f", func := "folio/foliolaw6.LengthsSteep", spec := "lengthsSteep", unfollowed := true, recurses := true, apart := false }
def LengthsSteepSaid : Prop := lengthsSteepRow.holds Try.pinned (OpenSpec.ofChange lengthsSteepSpec)

/-- ITS FALSE NEIGHBOUR: 'it returns false'. Refute it at one input. -/
def lengthsSteepWrong : ChangeSpec := { name := "lengthsSteep", fn := fun _ => fun
  | [d1, d2] => { results := [.lit (.bool false)], args := [d1, d2] }
  | _ => none }
def LengthsSteepWrongFalsely : Prop := lengthsSteepRow.holds Try.pinned (OpenSpec.ofChange lengthsSteepWrong)

/-- 'foliolaw6.LengthsSums': WHATEVER THE INPUT: true; the input reads as it did. -/
def lengthsSumsSpec : ChangeSpec := { name := "lengthsSums", fn := fun _ => fun
  | [d1, d2] => { results := [.lit (.bool true)], args := [d1, d2] }
  | _ => none }
def lengthsSumsRow : OpenClaim := { program := "ytdgpbgdpdmikaab", sum := "9aa57bd37d7ab66657e2011b5c98ff5cffd43b17fea91101f052c89cf080d26f", func := "folio/foliolaw6.LengthsSums", spec := "lengthsSums", unfollowed := true, recurses := true, apart := false }
def LengthsSumsSaid : Prop := lengthsSumsRow.holds Try.pinned (OpenSpec.ofChange lengthsSumsSpec)

/-- ITS FALSE NEIGHBOUR: 'it returns false'. Refute it at one input. -/
def lengthsSumsWrong : ChangeSpec := { name := "lengthsSums", fn := fun _ => fun
  | [d1, d2] => { results := [.lit (.bool false)], args := [d1, d2] }
  | _ => none }
def LengthsSumsWrongFalsely : Prop := lengthsSumsRow.holds Try.pinned (OpenSpec.ofChange lengthsSumsWrong)

/-- 'foliolaw6.LengthsTwos': WHATEVER THE INPUT: true; the input reads as it did. -/
def lengthsTwosSpec : ChangeSpec := { name := "lengthsTwos", fn := fun _ => fun
  | [d] => { results := [.lit (.bool true)], args := [d] }
  | _ => none }
def lengthsTwosRow : OpenClaim := { program := "ytdgpbgdpdmikaab", sum := "9aa57bd37d7ab66657e2011b5c98ff5cffd43b17fea91101f052c89cf080d26f", func := "folio/foliolaw6.LengthsTwos", spec := "lengthsTwos", unfollowed := true, recurses := true, apart := false }
def LengthsTwosSaid : Prop := lengthsTwosRow.holds Try.pinned (OpenSpec.ofChange lengthsTwosSpec)

/-- ITS FALSE NEIGHBOUR: 'it returns false'. Refute it at one input. -/
def lengthsTwosWrong : ChangeSpec := { name := "lengthsTwos", fn := fun _ => fun
  | [d] => { results := [.lit (.bool false)], args := [d] }
  | _ => none }
def LengthsTwosWrongFalsely : Prop := lengthsTwosRow.holds Try.pinned (OpenSpec.ofChange lengthsTwosWrong)

/-- 'foliolaw6.LengthsScale': WHATEVER THE INPUT: true; the input reads as it did. -/
def lengthsScaleSpec : ChangeSpec := { name := "lengthsScale", fn := fun _ => fun
  | [d1, d2] => { results := [.lit (.bool true)], args := [d1, d2] }
  | _ => none }
def lengthsScaleRow : OpenClaim := { program := "ytdgpbgdpdmikaab", sum := "9aa57bd37d7ab66657e2011b5c98ff5cffd43b17fea91101f052c89cf080d26f", func := "folio/foliolaw6.LengthsScale", spec := "lengthsScale", unfollowed := true, recurses := true, apart := false }
def LengthsScaleSaid : Prop := lengthsScaleRow.holds Try.pinned (OpenSpec.ofChange lengthsScaleSpec)

/-- ITS FALSE NEIGHBOUR: 'it returns false'. Refute it at one input. -/
def lengthsScaleWrong : ChangeSpec := { name := "lengthsScale", fn := fun _ => fun
  | [d1, d2] => { results := [.lit (.bool false)], args := [d1, d2] }
  | _ => none }
def LengthsScaleWrongFalsely : Prop := lengthsScaleRow.holds Try.pinned (OpenSpec.ofChange lengthsScaleWrong)

/-- 'foliolaw6.LengthsMore': WHATEVER THE INPUT: true; the input reads as it did. -/
def lengthsMoreSpec : ChangeSpec := { name := "lengthsMore", fn := fun _ => fun
  | [d1, d2] => { results := [.lit (.bool true)], args := [d1, d2] }
  | _ => none }
def lengthsMoreRow : OpenClaim := { program := "ytdgpbgdpdmikaab", sum := "9aa57bd37d7ab66657e2011b5c98ff5cffd43b17fea91101f052c89cf080d26f", func := "folio/foliolaw6.LengthsMore", spec := "lengthsMore", unfollowed := true, recurses := true, apart := false }
def LengthsMoreSaid : Prop := lengthsMoreRow.holds Try.pinned (OpenSpec.ofChange lengthsMoreSpec)

/-- ITS FALSE NEIGHBOUR: 'it returns false'. Refute it at one input. -/
def lengthsMoreWrong : ChangeSpec := { name := "lengthsMore", fn := fun _ => fun
  | [d1, d2] => { results := [.lit (.bool false)], args := [d1, d2] }
  | _ => none }
def LengthsMoreWrongFalsely : Prop := lengthsMoreRow.holds Try.pinned (OpenSpec.ofChange lengthsMoreWrong)

/-- 'foliolaw6.LengthsEqual': WHATEVER THE INPUT: true; the input reads as it did. -/
def lengthsEqualSpec : ChangeSpec := { name := "lengthsEqual", fn := fun _ => fun
  | [d1, d2] => { results := [.lit (.bool true)], args := [d1, d2] }
  | _ => none }
def lengthsEqualRow : OpenClaim := { program := "ytdgpbgdpdmikaab", sum := "9aa57bd37d7ab66657e2011b5c98ff5cffd43b17fea91101f052c89cf080d26f", func := "folio/foliolaw6.LengthsEqual", spec := "lengthsEqual", unfollowed := true, recurses := true, apart := false }
def LengthsEqualSaid : Prop := lengthsEqualRow.holds Try.pinned (OpenSpec.ofChange lengthsEqualSpec)

/-- ITS FALSE NEIGHBOUR: 'it returns false'. Refute it at one input. -/
def lengthsEqualWrong : ChangeSpec := { name := "lengthsEqual", fn := fun _ => fun
  | [d1, d2] => { results := [.lit (.bool false)], args := [d1, d2] }
  | _ => none }
def LengthsEqualWrongFalsely : Prop := lengthsEqualRow.holds Try.pinned (OpenSpec.ofChange lengthsEqualWrong)

/- THE SECOND FORM. 'bulk': how many values and letters a reading holds, each counted each time it is reached (what is shared counts as often as it is met; a slice's spare places count too). A statement '..UptoSaid' is the law's where the arguments, and the package variables that the reading takes, are together of bulk at most 1048576: NARROWER than '..Said'. Prove '..Said' where nothing that the law and all that it calls make is longer than what came in: it says more and counts as full. Else prove '..UptoSaid'. A law counts once. -/
mutual
def uptoBulk {H : Type} : DataW H → Nat
  | .lit (.string bytes) => bytes.length + 1
  | .lit _ => 1
  | .nil => 1
  | .ptr d => uptoBulk d + 1
  | .slice elems spare => uptoBulkAll elems + uptoBulkAll spare + 1
  | .agg parts => uptoBulkAll parts + 1
  | .iface _ d => uptoBulk d + 1
  | .map entries => uptoBulkEntries entries + 1
  | .held _ => 1
def uptoBulkAll {H : Type} : List (DataW H) → Nat
  | [] => 0
  | d :: r => uptoBulk d + uptoBulkAll r
def uptoBulkEntries {H : Type} : List (Lit × DataW H) → Nat
  | [] => 0
  | x :: r => uptoBulkEntry x + uptoBulkEntries r
def uptoBulkEntry {H : Type} : Lit × DataW H → Nat
  | (.string bytes, d) => bytes.length + uptoBulk d + 1
  | (_, d) => uptoBulk d + 1
 end
def uptoSmall : (H : Type) → List (DataW H) → Bool := fun _ ds => decide (uptoBulkAll ds ≤ 1048576)
def OpenSpec.upto (s : _root_.Go.ChangeSpec) : _root_.Go.OpenSpec := { _root_.Go.OpenSpec.ofChange s with cond := some uptoSmall }

/-- 'foliolaw9.BwtForward', WHERE WHAT IT READS IS OF BULK AT MOST 1048576: true; the input reads as it did. -/
def bwtForwardUptoRow : OpenClaim := { program := "ytdgpbgdpdmikaab", sum := "9aa57bd37d7ab66657e2011b5c98ff5cffd43b17fea91101f052c89cf080d26f", func := "folio/foliolaw9.BwtForward", spec := "bwtForward", recurses := true, apart := false, narrowed := true }
def BwtForwardUptoSaid : Prop := bwtForwardUptoRow.holds Try.pinned (OpenSpec.upto bwtForwardSpec)

/-- 'foliolaw9.BwtBack', WHERE WHAT IT READS IS OF BULK AT MOST 1048576: true; the input reads as it did. -/
def bwtBackUptoRow : OpenClaim := { program := "ytdgpbgdpdmikaab", sum := "9aa57bd37d7ab66657e2011b5c98ff5cffd43b17fea91101f052c89cf080d26f", func := "folio/foliolaw9.BwtBack", spec := "bwtBack", recurses := true, apart := false, narrowed := true }
def BwtBackUptoSaid : Prop := bwtBackUptoRow.holds Try.pinned (OpenSpec.upto bwtBackSpec)

/-- 'foliolaw9.BwtPlaces', WHERE WHAT IT READS IS OF BULK AT MOST 1048576: true; the input reads as it did. -/
def bwtPlacesUptoRow : OpenClaim := { program := "ytdgpbgdpdmikaab", sum := "9aa57bd37d7ab66657e2011b5c98ff5cffd43b17fea91101f052c89cf080d26f", func := "folio/foliolaw9.BwtPlaces", spec := "bwtPlaces", recurses := true, apart := false, narrowed := true }
def BwtPlacesUptoSaid : Prop := bwtPlacesUptoRow.holds Try.pinned (OpenSpec.upto bwtPlacesSpec)

/-- 'foliolaw9.BwtSame', WHERE WHAT IT READS IS OF BULK AT MOST 1048576: true; the input reads as it did. -/
def bwtSameUptoRow : OpenClaim := { program := "ytdgpbgdpdmikaab", sum := "9aa57bd37d7ab66657e2011b5c98ff5cffd43b17fea91101f052c89cf080d26f", func := "folio/foliolaw9.BwtSame", spec := "bwtSame", recurses := true, apart := false, narrowed := true }
def BwtSameUptoSaid : Prop := bwtSameUptoRow.holds Try.pinned (OpenSpec.upto bwtSameSpec)

/-- 'foliolaw9.BwtWords', WHERE WHAT IT READS IS OF BULK AT MOST 1048576: true; the input reads as it did. -/
def bwtWordsUptoRow : OpenClaim := { program := "ytdgpbgdpdmikaab", sum := "9aa57bd37d7ab66657e2011b5c98ff5cffd43b17fea91101f052c89cf080d26f", func := "folio/foliolaw9.BwtWords", spec := "bwtWords", recurses := true, apart := false, narrowed := true }
def BwtWordsUptoSaid : Prop := bwtWordsUptoRow.holds Try.pinned (OpenSpec.upto bwtWordsSpec)

/-- 'foliolaw6.LengthsAll', WHERE WHAT IT READS IS OF BULK AT MOST 1048576: true; the input reads as it did. -/
def lengthsAllUptoRow : OpenClaim := { program := "ytdgpbgdpdmikaab", sum := "9aa57bd37d7ab66657e2011b5c98ff5cffd43b17fea91101f052c89cf080d26f", func := "folio/foliolaw6.LengthsAll", spec := "lengthsAll", unfollowed := true, recurses := true, apart := false, narrowed := true }
def LengthsAllUptoSaid : Prop := lengthsAllUptoRow.holds Try.pinned (OpenSpec.upto lengthsAllSpec)

/-- 'foliolaw6.LengthsSteep', WHERE WHAT IT READS IS OF BULK AT MOST 1048576: true; the input reads as it did. -/
def lengthsSteepUptoRow : OpenClaim := { program := "ytdgpbgdpdmikaab", sum := "9aa57bd37d7ab66657e2011b5c98ff5cffd43b17fea91101f052c89cf080d26f", func := "folio/foliolaw6.LengthsSteep", spec := "lengthsSteep", unfollowed := true, recurses := true, apart := false, narrowed := true }
def LengthsSteepUptoSaid : Prop := lengthsSteepUptoRow.holds Try.pinned (OpenSpec.upto lengthsSteepSpec)

/-- 'foliolaw6.LengthsSums', WHERE WHAT IT READS IS OF BULK AT MOST 1048576: true; the input reads as it did. -/
def lengthsSumsUptoRow : OpenClaim := { program := "ytdgpbgdpdmikaab", sum := "9aa57bd37d7ab66657e2011b5c98ff5cffd43b17fea91101f052c89cf080d26f", func := "folio/foliolaw6.LengthsSums", spec := "lengthsSums", unfollowed := true, recurses := true, apart := false, narrowed := true }
def LengthsSumsUptoSaid : Prop := lengthsSumsUptoRow.holds Try.pinned (OpenSpec.upto lengthsSumsSpec)

/-- 'foliolaw6.LengthsTwos', WHERE WHAT IT READS IS OF BULK AT MOST 1048576: true; the input reads as it did. -/
def lengthsTwosUptoRow : OpenClaim := { program := "ytdgpbgdpdmikaab", sum := "9aa57bd37d7ab66657e2011b5c98ff5cffd43b17fea91101f052c89cf080d26f", func := "folio/foliolaw6.LengthsTwos", spec := "lengthsTwos", unfollowed := true, recurses := true, apart := false, narrowed := true }
def LengthsTwosUptoSaid : Prop := lengthsTwosUptoRow.holds Try.pinned (OpenSpec.upto lengthsTwosSpec)

/-- 'foliolaw6.LengthsScale', WHERE WHAT IT READS IS OF BULK AT MOST 1048576: true; the input reads as it did. -/
def lengthsScaleUptoRow : OpenClaim := { program := "ytdgpbgdpdmikaab", sum := "9aa57bd37d7ab66657e2011b5c98ff5cffd43b17fea91101f052c89cf080d26f", func := "folio/foliolaw6.LengthsScale", spec := "lengthsScale", unfollowed := true, recurses := true, apart := false, narrowed := true }
def LengthsScaleUptoSaid : Prop := lengthsScaleUptoRow.holds Try.pinned (OpenSpec.upto lengthsScaleSpec)

/-- 'foliolaw6.LengthsMore', WHERE WHAT IT READS IS OF BULK AT MOST 1048576: true; the input reads as it did. -/
def lengthsMoreUptoRow : OpenClaim := { program := "ytdgpbgdpdmikaab", sum := "9aa57bd37d7ab66657e2011b5c98ff5cffd43b17fea91101f052c89cf080d26f", func := "folio/foliolaw6.LengthsMore", spec := "lengthsMore", unfollowed := true, recurses := true, apart := false, narrowed := true }
def LengthsMoreUptoSaid : Prop := lengthsMoreUptoRow.holds Try.pinned (OpenSpec.upto lengthsMoreSpec)

/-- 'foliolaw6.LengthsEqual', WHERE WHAT IT READS IS OF BULK AT MOST 1048576: true; the input reads as it did. -/
def lengthsEqualUptoRow : OpenClaim := { program := "ytdgpbgdpdmikaab", sum := "9aa57bd37d7ab66657e2011b5c98ff5cffd43b17fea91101f052c89cf080d26f", func := "folio/foliolaw6.LengthsEqual", spec := "lengthsEqual", unfollowed := true, recurses := true, apart := false, narrowed := true }
def LengthsEqualUptoSaid : Prop := lengthsEqualUptoRow.holds Try.pinned (OpenSpec.upto lengthsEqualSpec)

end Rows
end Go.Proofs.Ytdgpbgdpdmikaab
