/-
  No cell of these rows narrows 'for every input' (looked for: loops, veiled, ifaces, maps, wideKeys, modest, calm, conditions, laid).
  DERIVED. THE GIVEN ROWS OF THIS SEAT. 12 by the template 'for every input the law returns true; each argument reads behind the call as it read before'; 0 by the template 'total and deterministic' (their statements: YtjlkndkedknocaaTotals.lean).
  GIVEN WITH THE SEED: the statements are not yours to turn. If you find one false, say at which input.
  Laid BY PROGRAM, IN A SANDBOX (cutbox-rows.mjs): the forced cells as the released guide's own fill.sh prints them over the translation b93511ffd09d5d7a… (all of the seat's roots in one cut). By AI agents, Wed Nov 11 2026. No macro, syntax, notation, axiom, sorry.
-/
import Derived.Test.YtjlkndkedknocaaChecked
import GoSem.Claim
import GoSem.ClaimJoined
import GoSem.ClaimMapViews
import Derived.JoinedTies
import Derived.KernelRfl
namespace Go.Proofs.Ytjlkndkedknocaa
/- THE CELL 'sum', in the pinned program and in every row, IS THE sha256 OF THE DUMP (.gsa) THAT YtjlkndkedknocaaProg.lean LOADS. Nothing in Lean hashes anything: it is a label: what it is worth is what the hold of that sum in a sandbox is worth. -/
noncomputable def Try.pinned : Pinned := { name := "ytjlkndkedknocaa", sum := "b93511ffd09d5d7a5de2559c947c7d5921f0182e2336937fc44a280a03747453", checked := Try.checked }
namespace Rows
def none {H : Type} : Left H := { results := [], args := [] }

/-- 'sphenoidlaw29.OutsideMakes': WHATEVER THE INPUT: true; the input reads as it did. -/
def outsideMakesSpec : ChangeSpec := { name := "outsideMakes", fn := fun _ => fun
  | [d1, d2] => { results := [.lit (.bool true)], args := [d1, d2] }
  | _ => none }
def outsideMakesRow : OpenClaim := { program := "ytjlkndkedknocaa", sum := "b93511ffd09d5d7a5de2559c947c7d5921f0182e2336937fc44a280a03747453", func := "sphenoid/sphenoidlaw29.OutsideMakes", spec := "outsideMakes", unfollowed := true, recurses := true, plainKeys := false, apart := false }
def OutsideMakesSaid : Prop := outsideMakesRow.holds Try.pinned (OpenSpec.ofChange outsideMakesSpec)

/-- ITS FALSE NEIGHBOUR: 'it returns false'. Refute it at one input. -/
def outsideMakesWrong : ChangeSpec := { name := "outsideMakes", fn := fun _ => fun
  | [d1, d2] => { results := [.lit (.bool false)], args := [d1, d2] }
  | _ => none }
def OutsideMakesWrongFalsely : Prop := outsideMakesRow.holds Try.pinned (OpenSpec.ofChange outsideMakesWrong)

/-- 'sphenoidlaw29.OutsideLinks': WHATEVER THE INPUT: true; the input reads as it did. -/
def outsideLinksSpec : ChangeSpec := { name := "outsideLinks", fn := fun _ => fun
  | [d] => { results := [.lit (.bool true)], args := [d] }
  | _ => none }
def outsideLinksRow : OpenClaim := { program := "ytjlkndkedknocaa", sum := "b93511ffd09d5d7a5de2559c947c7d5921f0182e2336937fc44a280a03747453", func := "sphenoid/sphenoidlaw29.OutsideLinks", spec := "outsideLinks", unfollowed := true, recurses := true, plainKeys := false, apart := false }
def OutsideLinksSaid : Prop := outsideLinksRow.holds Try.pinned (OpenSpec.ofChange outsideLinksSpec)

/-- ITS FALSE NEIGHBOUR: 'it returns false'. Refute it at one input. -/
def outsideLinksWrong : ChangeSpec := { name := "outsideLinks", fn := fun _ => fun
  | [d] => { results := [.lit (.bool false)], args := [d] }
  | _ => none }
def OutsideLinksWrongFalsely : Prop := outsideLinksRow.holds Try.pinned (OpenSpec.ofChange outsideLinksWrong)

/-- 'sphenoidlaw29.OutsideMirrors': WHATEVER THE INPUT: true; the input reads as it did. -/
def outsideMirrorsSpec : ChangeSpec := { name := "outsideMirrors", fn := fun _ => fun
  | [d] => { results := [.lit (.bool true)], args := [d] }
  | _ => none }
def outsideMirrorsRow : OpenClaim := { program := "ytjlkndkedknocaa", sum := "b93511ffd09d5d7a5de2559c947c7d5921f0182e2336937fc44a280a03747453", func := "sphenoid/sphenoidlaw29.OutsideMirrors", spec := "outsideMirrors", unfollowed := true, recurses := true, plainKeys := false, apart := false }
def OutsideMirrorsSaid : Prop := outsideMirrorsRow.holds Try.pinned (OpenSpec.ofChange outsideMirrorsSpec)

/-- ITS FALSE NEIGHBOUR: 'it returns false'. Refute it at one input. -/
def outsideMirrorsWrong : ChangeSpec := { name := "outsideMirrors", fn := fun _ => fun
  | [d] => { results := [.lit (.bool false)], args := [d] }
  | _ => none }
def OutsideMirrorsWrongFalsely : Prop := outsideMirrorsRow.holds Try.pinned (OpenSpec.ofChange outsideMirrorsWrong)

/-- 'sphenoidlaw29.OutsideStays': WHATEVER THE INPUT: true; the input reads as it did. -/
def outsideStaysSpec : ChangeSpec := { name := "outsideStays", fn := fun _ => fun
  | [d1, d2] => { results := [.lit (.bool true)], args := [d1, d2] }
  | _ => none }
def outsideStaysRow : OpenClaim := { program := "ytjlkndkedknocaa", sum := "b93511ffd09d5d7a5de2559c947c7d5921f0182e2336937fc44a280a03747453", func := "sphenoid/sphenoidlaw29.OutsideStays", spec := "outsideStays", unfollowed := true, recurses := true, plainKeys := false, apart := false }
def OutsideStaysSaid : Prop := outsideStaysRow.holds Try.pinned (OpenSpec.ofChange outsideStaysSpec)

/-- ITS FALSE NEIGHBOUR: 'it returns false'. Refute it at one input. -/
def outsideStaysWrong : ChangeSpec := { name := "outsideStays", fn := fun _ => fun
  | [d1, d2] => { results := [.lit (.bool false)], args := [d1, d2] }
  | _ => none }
def OutsideStaysWrongFalsely : Prop := outsideStaysRow.holds Try.pinned (OpenSpec.ofChange outsideStaysWrong)

/-- 'sphenoidlaw27.AlexMakes': WHATEVER THE INPUT: true; the input reads as it did. -/
def alexMakesSpec : ChangeSpec := { name := "alexMakes", fn := fun _ => fun
  | [d1, d2] => { results := [.lit (.bool true)], args := [d1, d2] }
  | _ => none }
def alexMakesRow : OpenClaim := { program := "ytjlkndkedknocaa", sum := "b93511ffd09d5d7a5de2559c947c7d5921f0182e2336937fc44a280a03747453", func := "sphenoid/sphenoidlaw27.AlexMakes", spec := "alexMakes", unfollowed := true, recurses := true, plainKeys := false, apart := false }
def AlexMakesSaid : Prop := alexMakesRow.holds Try.pinned (OpenSpec.ofChange alexMakesSpec)

/-- ITS FALSE NEIGHBOUR: 'it returns false'. Refute it at one input. -/
def alexMakesWrong : ChangeSpec := { name := "alexMakes", fn := fun _ => fun
  | [d1, d2] => { results := [.lit (.bool false)], args := [d1, d2] }
  | _ => none }
def AlexMakesWrongFalsely : Prop := alexMakesRow.holds Try.pinned (OpenSpec.ofChange alexMakesWrong)

/-- 'sphenoidlaw27.AlexStays': WHATEVER THE INPUT: true; the input reads as it did. -/
def alexStaysSpec : ChangeSpec := { name := "alexStays", fn := fun _ => fun
  | [d1, d2] => { results := [.lit (.bool true)], args := [d1, d2] }
  | _ => none }
def alexStaysRow : OpenClaim := { program := "ytjlkndkedknocaa", sum := "b93511ffd09d5d7a5de2559c947c7d5921f0182e2336937fc44a280a03747453", func := "sphenoid/sphenoidlaw27.AlexStays", spec := "alexStays", unfollowed := true, recurses := true, plainKeys := false, apart := false }
def AlexStaysSaid : Prop := alexStaysRow.holds Try.pinned (OpenSpec.ofChange alexStaysSpec)

/-- ITS FALSE NEIGHBOUR: 'it returns false'. Refute it at one input. -/
def alexStaysWrong : ChangeSpec := { name := "alexStays", fn := fun _ => fun
  | [d1, d2] => { results := [.lit (.bool false)], args := [d1, d2] }
  | _ => none }
def AlexStaysWrongFalsely : Prop := alexStaysRow.holds Try.pinned (OpenSpec.ofChange alexStaysWrong)

/-- 'sphenoidlaw25.WirtCounts': WHATEVER THE INPUT: true; the input reads as it did. -/
def wirtCountsSpec : ChangeSpec := { name := "wirtCounts", fn := fun _ => fun
  | [d1, d2, d3] => { results := [.lit (.bool true)], args := [d1, d2, d3] }
  | _ => none }
def wirtCountsRow : OpenClaim := { program := "ytjlkndkedknocaa", sum := "b93511ffd09d5d7a5de2559c947c7d5921f0182e2336937fc44a280a03747453", func := "sphenoid/sphenoidlaw25.WirtCounts", spec := "wirtCounts", unfollowed := true, recurses := true, plainKeys := false, apart := false }
def WirtCountsSaid : Prop := wirtCountsRow.holds Try.pinned (OpenSpec.ofChange wirtCountsSpec)

/-- ITS FALSE NEIGHBOUR: 'it returns false'. Refute it at one input. -/
def wirtCountsWrong : ChangeSpec := { name := "wirtCounts", fn := fun _ => fun
  | [d1, d2, d3] => { results := [.lit (.bool false)], args := [d1, d2, d3] }
  | _ => none }
def WirtCountsWrongFalsely : Prop := wirtCountsRow.holds Try.pinned (OpenSpec.ofChange wirtCountsWrong)

/-- 'sphenoidlaw25.WirtMoves': WHATEVER THE INPUT: true; the input reads as it did. -/
def wirtMovesSpec : ChangeSpec := { name := "wirtMoves", fn := fun _ => fun
  | [d1, d2, d3] => { results := [.lit (.bool true)], args := [d1, d2, d3] }
  | _ => none }
def wirtMovesRow : OpenClaim := { program := "ytjlkndkedknocaa", sum := "b93511ffd09d5d7a5de2559c947c7d5921f0182e2336937fc44a280a03747453", func := "sphenoid/sphenoidlaw25.WirtMoves", spec := "wirtMoves", unfollowed := true, recurses := true, plainKeys := false, apart := false }
def WirtMovesSaid : Prop := wirtMovesRow.holds Try.pinned (OpenSpec.ofChange wirtMovesSpec)

/-- ITS FALSE NEIGHBOUR: 'it returns false'. Refute it at one input. -/
def wirtMovesWrong : ChangeSpec := { name := "wirtMoves", fn := fun _ => fun
  | [d1, d2, d3] => { results := [.lit (.bool false)], args := [d1, d2, d3] }
  | _ => none }
def WirtMovesWrongFalsely : Prop := wirtMovesRow.holds Try.pinned (OpenSpec.ofChange wirtMovesWrong)

/-- 'sphenoidlaw25.WirtRedundant': WHATEVER THE INPUT: true; the input reads as it did. -/
def wirtRedundantSpec : ChangeSpec := { name := "wirtRedundant", fn := fun _ => fun
  | [d1, d2, d3, d4] => { results := [.lit (.bool true)], args := [d1, d2, d3, d4] }
  | _ => none }
def wirtRedundantRow : OpenClaim := { program := "ytjlkndkedknocaa", sum := "b93511ffd09d5d7a5de2559c947c7d5921f0182e2336937fc44a280a03747453", func := "sphenoid/sphenoidlaw25.WirtRedundant", spec := "wirtRedundant", unfollowed := true, recurses := true, plainKeys := false, apart := false }
def WirtRedundantSaid : Prop := wirtRedundantRow.holds Try.pinned (OpenSpec.ofChange wirtRedundantSpec)

/-- ITS FALSE NEIGHBOUR: 'it returns false'. Refute it at one input. -/
def wirtRedundantWrong : ChangeSpec := { name := "wirtRedundant", fn := fun _ => fun
  | [d1, d2, d3, d4] => { results := [.lit (.bool false)], args := [d1, d2, d3, d4] }
  | _ => none }
def WirtRedundantWrongFalsely : Prop := wirtRedundantRow.holds Try.pinned (OpenSpec.ofChange wirtRedundantWrong)

/-- 'sphenoidlaw25.WirtLongitudes': WHATEVER THE INPUT: true; the input reads as it did. -/
def wirtLongitudesSpec : ChangeSpec := { name := "wirtLongitudes", fn := fun _ => fun
  | [d1, d2, d3] => { results := [.lit (.bool true)], args := [d1, d2, d3] }
  | _ => none }
def wirtLongitudesRow : OpenClaim := { program := "ytjlkndkedknocaa", sum := "b93511ffd09d5d7a5de2559c947c7d5921f0182e2336937fc44a280a03747453", func := "sphenoid/sphenoidlaw25.WirtLongitudes", spec := "wirtLongitudes", unfollowed := true, recurses := true, plainKeys := false, apart := false }
def WirtLongitudesSaid : Prop := wirtLongitudesRow.holds Try.pinned (OpenSpec.ofChange wirtLongitudesSpec)

/-- ITS FALSE NEIGHBOUR: 'it returns false'. Refute it at one input. -/
def wirtLongitudesWrong : ChangeSpec := { name := "wirtLongitudes", fn := fun _ => fun
  | [d1, d2, d3] => { results := [.lit (.bool false)], args := [d1, d2, d3] }
  | _ => none }
def WirtLongitudesWrongFalsely : Prop := wirtLongitudesRow.holds Try.pinned (OpenSpec.ofChange wirtLongitudesWrong)

/-- 'sphenoidlaw25.WirtPresentations': WHATEVER THE INPUT: true; the input reads as it did. -/
def wirtPresentationsSpec : ChangeSpec := { name := "wirtPresentations", fn := fun _ => fun
  | [d1, d2, d3] => { results := [.lit (.bool true)], args := [d1, d2, d3] }
  | _ => none }
def wirtPresentationsRow : OpenClaim := { program := "ytjlkndkedknocaa", sum := "b93511ffd09d5d7a5de2559c947c7d5921f0182e2336937fc44a280a03747453", func := "sphenoid/sphenoidlaw25.WirtPresentations", spec := "wirtPresentations", unfollowed := true, recurses := true, plainKeys := false, apart := false }
def WirtPresentationsSaid : Prop := wirtPresentationsRow.holds Try.pinned (OpenSpec.ofChange wirtPresentationsSpec)

/-- ITS FALSE NEIGHBOUR: 'it returns false'. Refute it at one input. -/
def wirtPresentationsWrong : ChangeSpec := { name := "wirtPresentations", fn := fun _ => fun
  | [d1, d2, d3] => { results := [.lit (.bool false)], args := [d1, d2, d3] }
  | _ => none }
def WirtPresentationsWrongFalsely : Prop := wirtPresentationsRow.holds Try.pinned (OpenSpec.ofChange wirtPresentationsWrong)

/-- 'sphenoidlaw25.WirtStays': WHATEVER THE INPUT: true; the input reads as it did. -/
def wirtStaysSpec : ChangeSpec := { name := "wirtStays", fn := fun _ => fun
  | [d1, d2, d3] => { results := [.lit (.bool true)], args := [d1, d2, d3] }
  | _ => none }
def wirtStaysRow : OpenClaim := { program := "ytjlkndkedknocaa", sum := "b93511ffd09d5d7a5de2559c947c7d5921f0182e2336937fc44a280a03747453", func := "sphenoid/sphenoidlaw25.WirtStays", spec := "wirtStays", unfollowed := true, recurses := true, plainKeys := false, apart := false }
def WirtStaysSaid : Prop := wirtStaysRow.holds Try.pinned (OpenSpec.ofChange wirtStaysSpec)

/-- ITS FALSE NEIGHBOUR: 'it returns false'. Refute it at one input. -/
def wirtStaysWrong : ChangeSpec := { name := "wirtStays", fn := fun _ => fun
  | [d1, d2, d3] => { results := [.lit (.bool false)], args := [d1, d2, d3] }
  | _ => none }
def WirtStaysWrongFalsely : Prop := wirtStaysRow.holds Try.pinned (OpenSpec.ofChange wirtStaysWrong)

/- THE SECOND FORM. 'bulk': how many values and letters a reading holds, each counted each time it is reached (what is shared counts as often as it is met; a slice's spare places count too). A statement '..UptoSaid' is the law's where the arguments, and the package variables that the reading takes, are together of bulk at most 1048576: NARROWER than '..Said'. Prove '..Said' where nothing that the law and all that it calls make is longer than what came in: it says more and counts as full. Else prove '..UptoSaid'. A law counts once. -/
mutual
def uptoBulk {H : Type} : DataW H → Nat
  | .lit (.string bytes) => bytes.length + 1
  | .lit _ => 1
  | .nil => 1
  | .ptr d => uptoBulk d + 1
  | .slice elems spare => uptoBulkAll elems + uptoBulkAll spare + 1
  | .agg parts => uptoBulkAll parts + 1
  | .iface _ d => uptoBulk d + 1
  | .map entries => uptoBulkEntries entries + 1
  | .held _ => 1
def uptoBulkAll {H : Type} : List (DataW H) → Nat
  | [] => 0
  | d :: r => uptoBulk d + uptoBulkAll r
def uptoBulkEntries {H : Type} : List (Lit × DataW H) → Nat
  | [] => 0
  | x :: r => uptoBulkEntry x + uptoBulkEntries r
def uptoBulkEntry {H : Type} : Lit × DataW H → Nat
  | (.string bytes, d) => bytes.length + uptoBulk d + 1
  | (_, d) => uptoBulk d + 1
 end
def uptoSmall : (H : Type) → List (DataW H) → Bool := fun _ ds => decide (uptoBulkAll ds ≤ 1048576)
def OpenSpec.upto (s : _root_.Go.ChangeSpec) : _root_.Go.OpenSpec := { _root_.Go.OpenSpec.ofChange s with cond := some uptoSmall }

/-- 'sphenoidlaw29.OutsideMakes', WHERE WHAT IT READS IS OF BULK AT MOST 1048576: true; the input reads as it did. -/
def outsideMakesUptoRow : OpenClaim := { program := "ytjlkndkedknocaa", sum := "b93511ffd09d5d7a5de2559c947c7d5921f0182e2336937fc44a280a03747453", func := "sphenoid/sphenoidlaw29.OutsideMakes", spec := "outsideMakes", unfollowed := true, recurses := true, plainKeys := false, apart := false, narrowed := true }
def OutsideMakesUptoSaid : Prop := outsideMakesUptoRow.holds Try.pinned (OpenSpec.upto outsideMakesSpec)

/-- 'sphenoidlaw29.OutsideLinks', WHERE WHAT IT READS IS OF BULK AT MOST 1048576: true; the input reads as it did. -/
def outsideLinksUptoRow : OpenClaim := { program := "ytjlkndkedknocaa", sum := "b93511ffd09d5d7a5de2559c947c7d5921f0182e2336937fc44a280a03747453", func := "sphenoid/sphenoidlaw29.OutsideLinks", spec := "outsideLinks", unfollowed := true, recurses := true, plainKeys := false, apart := false, narrowed := true }
def OutsideLinksUptoSaid : Prop := outsideLinksUptoRow.holds Try.pinned (OpenSpec.upto outsideLinksSpec)

/-- 'sphenoidlaw29.OutsideMirrors', WHERE WHAT IT READS IS OF BULK AT MOST 1048576: true; the input reads as it did. -/
def outsideMirrorsUptoRow : OpenClaim := { program := "ytjlkndkedknocaa", sum := "b93511ffd09d5d7a5de2559c947c7d5921f0182e2336937fc44a280a03747453", func := "sphenoid/sphenoidlaw29.OutsideMirrors", spec := "outsideMirrors", unfollowed := true, recurses := true, plainKeys := false, apart := false, narrowed := true }
def OutsideMirrorsUptoSaid : Prop := outsideMirrorsUptoRow.holds Try.pinned (OpenSpec.upto outsideMirrorsSpec)

/-- 'sphenoidlaw29.OutsideStays', WHERE WHAT IT READS IS OF BULK AT MOST 1048576: true; the input reads as it did. -/
def outsideStaysUptoRow : OpenClaim := { program := "ytjlkndkedknocaa", sum := "b93511ffd09d5d7a5de2559c947c7d5921f0182e2336937fc44a280a03747453", func := "sphenoid/sphenoidlaw29.OutsideStays", spec := "outsideStays", unfollowed := true, recurses := true, plainKeys := false, apart := false, narrowed := true }
def OutsideStaysUptoSaid : Prop := outsideStaysUptoRow.holds Try.pinned (OpenSpec.upto outsideStaysSpec)

/-- 'sphenoidlaw27.AlexMakes', WHERE WHAT IT READS IS OF BULK AT MOST 1048576: true; the input reads as it did. -/
def alexMakesUptoRow : OpenClaim := { program := "ytjlkndkedknocaa", sum := "b93511ffd09d5d7a5de2559c947c7d5921f0182e2336937fc44a280a03747453", func := "sphenoid/sphenoidlaw27.AlexMakes", spec := "alexMakes", unfollowed := true, recurses := true, plainKeys := false, apart := false, narrowed := true }
def AlexMakesUptoSaid : Prop := alexMakesUptoRow.holds Try.pinned (OpenSpec.upto alexMakesSpec)

/-- 'sphenoidlaw27.AlexStays', WHERE WHAT IT READS IS OF BULK AT MOST 1048576: true; the input reads as it did. -/
def alexStaysUptoRow : OpenClaim := { program := "ytjlkndkedknocaa", sum := "b93511ffd09d5d7a5de2559c947c7d5921f0182e2336937fc44a280a03747453", func := "sphenoid/sphenoidlaw27.AlexStays", spec := "alexStays", unfollowed := true, recurses := true, plainKeys := false, apart := false, narrowed := true }
def AlexStaysUptoSaid : Prop := alexStaysUptoRow.holds Try.pinned (OpenSpec.upto alexStaysSpec)

/-- 'sphenoidlaw25.WirtCounts', WHERE WHAT IT READS IS OF BULK AT MOST 1048576: true; the input reads as it did. -/
def wirtCountsUptoRow : OpenClaim := { program := "ytjlkndkedknocaa", sum := "b93511ffd09d5d7a5de2559c947c7d5921f0182e2336937fc44a280a03747453", func := "sphenoid/sphenoidlaw25.WirtCounts", spec := "wirtCounts", unfollowed := true, recurses := true, plainKeys := false, apart := false, narrowed := true }
def WirtCountsUptoSaid : Prop := wirtCountsUptoRow.holds Try.pinned (OpenSpec.upto wirtCountsSpec)

/-- 'sphenoidlaw25.WirtMoves', WHERE WHAT IT READS IS OF BULK AT MOST 1048576: true; the input reads as it did. -/
def wirtMovesUptoRow : OpenClaim := { program := "ytjlkndkedknocaa", sum := "b93511ffd09d5d7a5de2559c947c7d5921f0182e2336937fc44a280a03747453", func := "sphenoid/sphenoidlaw25.WirtMoves", spec := "wirtMoves", unfollowed := true, recurses := true, plainKeys := false, apart := false, narrowed := true }
def WirtMovesUptoSaid : Prop := wirtMovesUptoRow.holds Try.pinned (OpenSpec.upto wirtMovesSpec)

/-- 'sphenoidlaw25.WirtRedundant', WHERE WHAT IT READS IS OF BULK AT MOST 1048576: true; the input reads as it did. -/
def wirtRedundantUptoRow : OpenClaim := { program := "ytjlkndkedknocaa", sum := "b93511ffd09d5d7a5de2559c947c7d5921f0182e2336937fc44a280a03747453", func := "sphenoid/sphenoidlaw25.WirtRedundant", spec := "wirtRedundant", unfollowed := true, recurses := true, plainKeys := false, apart := false, narrowed := true }
def WirtRedundantUptoSaid : Prop := wirtRedundantUptoRow.holds Try.pinned (OpenSpec.upto wirtRedundantSpec)

/-- 'sphenoidlaw25.WirtLongitudes', WHERE WHAT IT READS IS OF BULK AT MOST 1048576: true; the input reads as it did. -/
def wirtLongitudesUptoRow : OpenClaim := { program := "ytjlkndkedknocaa", sum := "b93511ffd09d5d7a5de2559c947c7d5921f0182e2336937fc44a280a03747453", func := "sphenoid/sphenoidlaw25.WirtLongitudes", spec := "wirtLongitudes", unfollowed := true, recurses := true, plainKeys := false, apart := false, narrowed := true }
def WirtLongitudesUptoSaid : Prop := wirtLongitudesUptoRow.holds Try.pinned (OpenSpec.upto wirtLongitudesSpec)

/-- 'sphenoidlaw25.WirtPresentations', WHERE WHAT IT READS IS OF BULK AT MOST 1048576: true; the input reads as it did. -/
def wirtPresentationsUptoRow : OpenClaim := { program := "ytjlkndkedknocaa", sum := "b93511ffd09d5d7a5de2559c947c7d5921f0182e2336937fc44a280a03747453", func := "sphenoid/sphenoidlaw25.WirtPresentations", spec := "wirtPresentations", unfollowed := true, recurses := true, plainKeys := false, apart := false, narrowed := true }
def WirtPresentationsUptoSaid : Prop := wirtPresentationsUptoRow.holds Try.pinned (OpenSpec.upto wirtPresentationsSpec)

/-- 'sphenoidlaw25.WirtStays', WHERE WHAT IT READS IS OF BULK AT MOST 1048576: true; the input reads as it did. -/
def wirtStaysUptoRow : OpenClaim := { program := "ytjlkndkedknocaa", sum := "b93511ffd09d5d7a5de2559c947c7d5921f0182e2336937fc44a280a03747453", func := "sphenoid/sphenoidlaw25.WirtStays", spec := "wirtStays", unfollowed := true, recurses := true, plainKeys := false, apart := false, narrowed := true }
def WirtStaysUptoSaid : Prop := wirtStaysUptoRow.holds Try.pinned (OpenSpec.upto wirtStaysSpec)

end Rows
end Go.Proofs.Ytjlkndkedknocaa
