/- The chapter's examples, by the kernel's run. -/
import Derived.Test.YtdbkhecnkhjhpaaLpS
namespace Go.Proofs.Ytdbkhecnkhjhpaa
open Go Go.Ai
theorem sane_run : (call (E1 300) 300 12 [] ⟨[], 0⟩).map (fun r => (match r.1 with | .ret (.bool b) => b | _ => false, r.2.h.length, r.2.fl)) = some (true, 0, 0) := by kernel_rfl
end Go.Proofs.Ytdbkhecnkhjhpaa
