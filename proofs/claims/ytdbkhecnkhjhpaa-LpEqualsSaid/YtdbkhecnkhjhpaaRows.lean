/-
  No cell of these rows narrows 'for every input' (looked for: loops, veiled, ifaces, maps, wideKeys, modest, calm, conditions, laid).
  DERIVED. THE GIVEN ROWS OF THIS SEAT. 7 by the template 'for every input the law returns true; each argument reads behind the call as it read before'; 0 by the template 'total and deterministic' (their statements: YtdbkhecnkhjhpaaTotals.lean).
  GIVEN WITH THE SEED: the statements are not yours to turn. If you find one false, say at which input.
  Laid BY PROGRAM, IN A SANDBOX (cutbox-rows.mjs): the forced cells as the released guide's own fill.sh prints them over the translation dcfb5d78972c18e5… (all of the seat's roots in one cut). By AI agents, Wed Nov 11 2026. No macro, syntax, notation, axiom, sorry.
-/
import Derived.Test.YtdbkhecnkhjhpaaChecked
import GoSem.Claim
import GoSem.ClaimJoined
import GoSem.ClaimMapViews
import Derived.JoinedTies
import Derived.KernelRfl
namespace Go.Proofs.Ytdbkhecnkhjhpaa
/- THE CELL 'sum', in the pinned program and in every row, IS THE sha256 OF THE DUMP (.gsa) THAT YtdbkhecnkhjhpaaProg.lean LOADS. Nothing in Lean hashes anything: it is a label: what it is worth is what the hold of that sum in a sandbox is worth. -/
noncomputable def Try.pinned : Pinned := { name := "ytdbkhecnkhjhpaa", sum := "dcfb5d78972c18e504564b1955ecc183482c8a2a7be91146fd30662ef30e4293", checked := Try.checked }
namespace Rows
def none {H : Type} : Left H := { results := [], args := [] }

/-- 'sphenoidlaw12.LpVerifies': WHATEVER THE INPUT: true; the input reads as it did. -/
def lpVerifiesSpec : ChangeSpec := { name := "lpVerifies", fn := fun _ => fun
  | [d1, d2] => { results := [.lit (.bool true)], args := [d1, d2] }
  | _ => none }
def lpVerifiesRow : OpenClaim := { program := "ytdbkhecnkhjhpaa", sum := "dcfb5d78972c18e504564b1955ecc183482c8a2a7be91146fd30662ef30e4293", func := "sphenoid/sphenoidlaw12.LpVerifies", spec := "lpVerifies", unfollowed := true, recurses := true, apart := false }
def LpVerifiesSaid : Prop := lpVerifiesRow.holds Try.pinned (OpenSpec.ofChange lpVerifiesSpec)

/-- ITS FALSE NEIGHBOUR: 'it returns false'. Refute it at one input. -/
def lpVerifiesWrong : ChangeSpec := { name := "lpVerifies", fn := fun _ => fun
  | [d1, d2] => { results := [.lit (.bool false)], args := [d1, d2] }
  | _ => none }
def LpVerifiesWrongFalsely : Prop := lpVerifiesRow.holds Try.pinned (OpenSpec.ofChange lpVerifiesWrong)

/-- 'sphenoidlaw12.LpNever': WHATEVER THE INPUT: true; the input reads as it did. -/
def lpNeverSpec : ChangeSpec := { name := "lpNever", fn := fun _ => fun
  | [d1, d2, d3] => { results := [.lit (.bool true)], args := [d1, d2, d3] }
  | _ => none }
def lpNeverRow : OpenClaim := { program := "ytdbkhecnkhjhpaa", sum := "dcfb5d78972c18e504564b1955ecc183482c8a2a7be91146fd30662ef30e4293", func := "sphenoid/sphenoidlaw12.LpNever", spec := "lpNever", unfollowed := true, recurses := true, apart := false }
def LpNeverSaid : Prop := lpNeverRow.holds Try.pinned (OpenSpec.ofChange lpNeverSpec)

/-- ITS FALSE NEIGHBOUR: 'it returns false'. Refute it at one input. -/
def lpNeverWrong : ChangeSpec := { name := "lpNever", fn := fun _ => fun
  | [d1, d2, d3] => { results := [.lit (.bool false)], args := [d1, d2, d3] }
  | _ => none }
def LpNeverWrongFalsely : Prop := lpNeverRow.holds Try.pinned (OpenSpec.ofChange lpNeverWrong)

/-- 'sphenoidlaw12.LpEquals': WHATEVER THE INPUT: true; the input reads as it did. -/
def lpEqualsSpec : ChangeSpec := { name := "lpEquals", fn := fun _ => fun
  | [d1, d2, d3, d4, d5, d6] => { results := [.lit (.bool true)], args := [d1, d2, d3, d4, d5, d6] }
  | _ => none }
def lpEqualsRow : OpenClaim := { program := "ytdbkhecnkhjhpaa", sum := "dcfb5d78972c18e504564b1955ecc183482c8a2a7be91146fd30662ef30e4293", func := "sphenoid/sphenoidlaw12.LpEquals", spec := "lpEquals", unfollowed := true, recurses := true, apart := false }
def LpEqualsSaid : Prop := lpEqualsRow.holds Try.pinned (OpenSpec.ofChange lpEqualsSpec)

/-- ITS FALSE NEIGHBOUR: 'it returns false'. Refute it at one input. -/
def lpEqualsWrong : ChangeSpec := { name := "lpEquals", fn := fun _ => fun
  | [d1, d2, d3, d4, d5, d6] => { results := [.lit (.bool false)], args := [d1, d2, d3, d4, d5, d6] }
  | _ => none }
def LpEqualsWrongFalsely : Prop := lpEqualsRow.holds Try.pinned (OpenSpec.ofChange lpEqualsWrong)

/-- 'sphenoidlaw12.LpSolutions': WHATEVER THE INPUT: true; the input reads as it did. -/
def lpSolutionsSpec : ChangeSpec := { name := "lpSolutions", fn := fun _ => fun
  | [d1, d2] => { results := [.lit (.bool true)], args := [d1, d2] }
  | _ => none }
def lpSolutionsRow : OpenClaim := { program := "ytdbkhecnkhjhpaa", sum := "dcfb5d78972c18e504564b1955ecc183482c8a2a7be91146fd30662ef30e4293", func := "sphenoid/sphenoidlaw12.LpSolutions", spec := "lpSolutions", unfollowed := true, recurses := true, apart := false }
def LpSolutionsSaid : Prop := lpSolutionsRow.holds Try.pinned (OpenSpec.ofChange lpSolutionsSpec)

/-- ITS FALSE NEIGHBOUR: 'it returns false'. Refute it at one input. -/
def lpSolutionsWrong : ChangeSpec := { name := "lpSolutions", fn := fun _ => fun
  | [d1, d2] => { results := [.lit (.bool false)], args := [d1, d2] }
  | _ => none }
def LpSolutionsWrongFalsely : Prop := lpSolutionsRow.holds Try.pinned (OpenSpec.ofChange lpSolutionsWrong)

/-- 'sphenoidlaw12.LpMore': WHATEVER THE INPUT: true; the input reads as it did. -/
def lpMoreSpec : ChangeSpec := { name := "lpMore", fn := fun _ => fun
  | [d1, d2, d3, d4, d5] => { results := [.lit (.bool true)], args := [d1, d2, d3, d4, d5] }
  | _ => none }
def lpMoreRow : OpenClaim := { program := "ytdbkhecnkhjhpaa", sum := "dcfb5d78972c18e504564b1955ecc183482c8a2a7be91146fd30662ef30e4293", func := "sphenoid/sphenoidlaw12.LpMore", spec := "lpMore", unfollowed := true, recurses := true, apart := false }
def LpMoreSaid : Prop := lpMoreRow.holds Try.pinned (OpenSpec.ofChange lpMoreSpec)

/-- ITS FALSE NEIGHBOUR: 'it returns false'. Refute it at one input. -/
def lpMoreWrong : ChangeSpec := { name := "lpMore", fn := fun _ => fun
  | [d1, d2, d3, d4, d5] => { results := [.lit (.bool false)], args := [d1, d2, d3, d4, d5] }
  | _ => none }
def LpMoreWrongFalsely : Prop := lpMoreRow.holds Try.pinned (OpenSpec.ofChange lpMoreWrong)

/-- 'sphenoidlaw12.LpSolves': WHATEVER THE INPUT: true; the input reads as it did. -/
def lpSolvesSpec : ChangeSpec := { name := "lpSolves", fn := fun _ => fun
  | [d] => { results := [.lit (.bool true)], args := [d] }
  | _ => none }
def lpSolvesRow : OpenClaim := { program := "ytdbkhecnkhjhpaa", sum := "dcfb5d78972c18e504564b1955ecc183482c8a2a7be91146fd30662ef30e4293", func := "sphenoid/sphenoidlaw12.LpSolves", spec := "lpSolves", unfollowed := true, recurses := true, apart := false }
def LpSolvesSaid : Prop := lpSolvesRow.holds Try.pinned (OpenSpec.ofChange lpSolvesSpec)

/-- ITS FALSE NEIGHBOUR: 'it returns false'. Refute it at one input. -/
def lpSolvesWrong : ChangeSpec := { name := "lpSolves", fn := fun _ => fun
  | [d] => { results := [.lit (.bool false)], args := [d] }
  | _ => none }
def LpSolvesWrongFalsely : Prop := lpSolvesRow.holds Try.pinned (OpenSpec.ofChange lpSolvesWrong)

/-- 'sphenoidlaw12.LpStays': WHATEVER THE INPUT: true; the input reads as it did. -/
def lpStaysSpec : ChangeSpec := { name := "lpStays", fn := fun _ => fun
  | [d1, d2] => { results := [.lit (.bool true)], args := [d1, d2] }
  | _ => none }
def lpStaysRow : OpenClaim := { program := "ytdbkhecnkhjhpaa", sum := "dcfb5d78972c18e504564b1955ecc183482c8a2a7be91146fd30662ef30e4293", func := "sphenoid/sphenoidlaw12.LpStays", spec := "lpStays", unfollowed := true, recurses := true, apart := false }
def LpStaysSaid : Prop := lpStaysRow.holds Try.pinned (OpenSpec.ofChange lpStaysSpec)

/-- ITS FALSE NEIGHBOUR: 'it returns false'. Refute it at one input. -/
def lpStaysWrong : ChangeSpec := { name := "lpStays", fn := fun _ => fun
  | [d1, d2] => { results := [.lit (.bool false)], args := [d1, d2] }
  | _ => none }
def LpStaysWrongFalsely : Prop := lpStaysRow.holds Try.pinned (OpenSpec.ofChange lpStaysWrong)

/- THE SECOND FORM. 'bulk': how many values and letters a reading holds, each counted each time it is reached (what is shared counts as often as it is met; a slice's spare places count too). A statement '..UptoSaid' is the law's where the arguments, and the package variables that the reading takes, are together of bulk at most 1048576: NARROWER than '..Said'. Prove '..Said' where nothing that the law and all that it calls make is longer than what came in: it says more and counts as full. Else prove '..UptoSaid'. A law counts once. -/
mutual
def uptoBulk {H : Type} : DataW H → Nat
  | .lit (.string bytes) => bytes.length + 1
  | .lit _ => 1
  | .nil => 1
  | .ptr d => uptoBulk d + 1
  | .slice elems spare => uptoBulkAll elems + uptoBulkAll spare + 1
  | .agg parts => uptoBulkAll parts + 1
  | .iface _ d => uptoBulk d + 1
  | .map entries => uptoBulkEntries entries + 1
  | .held _ => 1
def uptoBulkAll {H : Type} : List (DataW H) → Nat
  | [] => 0
  | d :: r => uptoBulk d + uptoBulkAll r
def uptoBulkEntries {H : Type} : List (Lit × DataW H) → Nat
  | [] => 0
  | x :: r => uptoBulkEntry x + uptoBulkEntries r
def uptoBulkEntry {H : Type} : Lit × DataW H → Nat
  | (.string bytes, d) => bytes.length + uptoBulk d + 1
  | (_, d) => uptoBulk d + 1
 end
def uptoSmall : (H : Type) → List (DataW H) → Bool := fun _ ds => decide (uptoBulkAll ds ≤ 1048576)
def OpenSpec.upto (s : _root_.Go.ChangeSpec) : _root_.Go.OpenSpec := { _root_.Go.OpenSpec.ofChange s with cond := some uptoSmall }

/-- 'sphenoidlaw12.LpVerifies', WHERE WHAT IT READS IS OF BULK AT MOST 1048576: true; the input reads as it did. -/
def lpVerifiesUptoRow : OpenClaim := { program := "ytdbkhecnkhjhpaa", sum := "dcfb5d78972c18e504564b1955ecc183482c8a2a7be91146fd30662ef30e4293", func := "sphenoid/sphenoidlaw12.LpVerifies", spec := "lpVerifies", unfollowed := true, recurses := true, apart := false, narrowed := true }
def LpVerifiesUptoSaid : Prop := lpVerifiesUptoRow.holds Try.pinned (OpenSpec.upto lpVerifiesSpec)

/-- 'sphenoidlaw12.LpNever', WHERE WHAT IT READS IS OF BULK AT MOST 1048576: true; the input reads as it did. -/
def lpNeverUptoRow : OpenClaim := { program := "ytdbkhecnkhjhpaa", sum := "dcfb5d78972c18e504564b1955ecc183482c8a2a7be91146fd30662ef30e4293", func := "sphenoid/sphenoidlaw12.LpNever", spec := "lpNever", unfollowed := true, recurses := true, apart := false, narrowed := true }
def LpNeverUptoSaid : Prop := lpNeverUptoRow.holds Try.pinned (OpenSpec.upto lpNeverSpec)

/-- 'sphenoidlaw12.LpEquals', WHERE WHAT IT READS IS OF BULK AT MOST 1048576: true; the input reads as it did. -/
def lpEqualsUptoRow : OpenClaim := { program := "ytdbkhecnkhjhpaa", sum := "dcfb5d78972c18e504564b1955ecc183482c8a2a7be91146fd30662ef30e4293", func := "sphenoid/sphenoidlaw12.LpEquals", spec := "lpEquals", unfollowed := true, recurses := true, apart := false, narrowed := true }
def LpEqualsUptoSaid : Prop := lpEqualsUptoRow.holds Try.pinned (OpenSpec.upto lpEqualsSpec)

/-- 'sphenoidlaw12.LpSolutions', WHERE WHAT IT READS IS OF BULK AT MOST 1048576: true; the input reads as it did. -/
def lpSolutionsUptoRow : OpenClaim := { program := "ytdbkhecnkhjhpaa", sum := "dcfb5d78972c18e504564b1955ecc183482c8a2a7be91146fd30662ef30e4293", func := "sphenoid/sphenoidlaw12.LpSolutions", spec := "lpSolutions", unfollowed := true, recurses := true, apart := false, narrowed := true }
def LpSolutionsUptoSaid : Prop := lpSolutionsUptoRow.holds Try.pinned (OpenSpec.upto lpSolutionsSpec)

/-- 'sphenoidlaw12.LpMore', WHERE WHAT IT READS IS OF BULK AT MOST 1048576: true; the input reads as it did. -/
def lpMoreUptoRow : OpenClaim := { program := "ytdbkhecnkhjhpaa", sum := "dcfb5d78972c18e504564b1955ecc183482c8a2a7be91146fd30662ef30e4293", func := "sphenoid/sphenoidlaw12.LpMore", spec := "lpMore", unfollowed := true, recurses := true, apart := false, narrowed := true }
def LpMoreUptoSaid : Prop := lpMoreUptoRow.holds Try.pinned (OpenSpec.upto lpMoreSpec)

/-- 'sphenoidlaw12.LpSolves', WHERE WHAT IT READS IS OF BULK AT MOST 1048576: true; the input reads as it did. -/
def lpSolvesUptoRow : OpenClaim := { program := "ytdbkhecnkhjhpaa", sum := "dcfb5d78972c18e504564b1955ecc183482c8a2a7be91146fd30662ef30e4293", func := "sphenoid/sphenoidlaw12.LpSolves", spec := "lpSolves", unfollowed := true, recurses := true, apart := false, narrowed := true }
def LpSolvesUptoSaid : Prop := lpSolvesUptoRow.holds Try.pinned (OpenSpec.upto lpSolvesSpec)

/-- 'sphenoidlaw12.LpStays', WHERE WHAT IT READS IS OF BULK AT MOST 1048576: true; the input reads as it did. -/
def lpStaysUptoRow : OpenClaim := { program := "ytdbkhecnkhjhpaa", sum := "dcfb5d78972c18e504564b1955ecc183482c8a2a7be91146fd30662ef30e4293", func := "sphenoid/sphenoidlaw12.LpStays", spec := "lpStays", unfollowed := true, recurses := true, apart := false, narrowed := true }
def LpStaysUptoSaid : Prop := lpStaysUptoRow.holds Try.pinned (OpenSpec.upto lpStaysSpec)

end Rows
end Go.Proofs.Ytdbkhecnkhjhpaa
