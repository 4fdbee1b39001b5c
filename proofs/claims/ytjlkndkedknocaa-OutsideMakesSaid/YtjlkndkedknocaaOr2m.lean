/- The chapter's examples: three runs by the kernel. -/
import Derived.Test.YtjlkndkedknocaaOr1m
namespace Go.Proofs.Ytjlkndkedknocaa
open Go Go.Ai
noncomputable def kinkH : List O := [.cells [.int .i64 0, .int .i64 0, .int .i64 1, .int .i64 1, .int .i64 1] 107 (some 0)]
noncomputable def kinkV : Value := .agg #[.slice (some ⟨0, 0, none⟩) 1 1, .int .i64 0]
noncomputable def circV : Value := .agg #[.slice none 0 0, .int .i64 1]
def seenI : Option (Out × St) → Option Int
  | some (.ret (.int _ n), _) => some n
  | _ => none
def lenV1 : Value → Option Nat
  | .slice _ n _ => some n
  | _ => none
def seenL : Option (Out × St) → Option Nat
  | some (.ret (.tuple vs), _) => (vs.toList[0]?).bind lenV1
  | _ => none
set_option maxRecDepth 100000
theorem ask_kink : seenI (call E0 300 84 [kinkV] ⟨kinkH, 1⟩) = some 0 := by kernel_rfl
theorem ask_circ : seenI (call E0 300 84 [circV] ⟨[], 0⟩) = some 290 := by kernel_rfl
end Go.Proofs.Ytjlkndkedknocaa
