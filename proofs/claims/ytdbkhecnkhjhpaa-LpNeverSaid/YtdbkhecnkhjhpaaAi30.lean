/- What the abstract run returns the machine returns. -/
import Derived.Test.YtdbkhecnkhjhpaaAi29
namespace Go.Ai
open Go.RowKit
set_option linter.unusedSimpArgs false
set_option linter.unusedVariables false
variable {P : Program}

theorem open_wide : Open Fence.wide := ⟨fun _ => trivial, rfl⟩

theorem runOk_wide {B : Nat} {E : Env} (hm : P.follows .mixedOrders = true) (hE : EnvOk Fence.wide P B E) (hS : SumsKept E) (m : Nat) : RunOk Fence.wide P B E m :=
  runOk open_wide rfl hE (K := CallKept) (fun m => callKept_of hS (exec_kept hS m)) (drawOk open_wide hm) m

theorem callsOk_wide {B : Nat} {E : Env} (hm : P.follows .mixedOrders = true) (hE : EnvOk Fence.wide P B E) (hS : SumsKept E) (m : Nat) : CallsOk Fence.wide P B (callP E m) :=
  callsOk_of open_wide rfl hE (runOk_wide hm hE hS m)

/-- What the deterministic run says of a call. -/
theorem calls_of_exec {B : Nat} {E : Env} (hm : P.follows .mixedOrders = true) (hE : EnvOk Fence.wide P B E) (hS : SumsKept E) {m : Nat} {f : FuncId} {args : List Value} {st st' : St} {o : Out} (h : call E m f args st = some (o, st')) (hfl : st.fl = st.h.length)
    {ρ : RM} {w : World} {args' : List Value} (ha : LRel ρ args args') (hr : SRel B ρ w st) : Calls P f args'.toArray w (CPost B ρ w st fun o2 st2 => o2 = o ∧ st2 = st') :=
  callsIn_wide.1 ((callsOkD_of (callsOk_wide hm hE hS m) f args st o st' h).2 hfl 0 ρ w args' ha hr)

/-- What the transformer says of a call. -/
theorem calls_of_runP {B : Nat} {E : Env} (hm : P.follows .mixedOrders = true) (hE : EnvOk Fence.wide P B E) (hS : SumsKept E) {m : Nat} {f : FuncId} {args : List Value} {st : St} {Q : Out → St → Prop} (h : callP E m f args st Q) (hfl : st.fl = st.h.length)
    {ρ : RM} {w : World} {args' : List Value} (ha : LRel ρ args args') (hr : SRel B ρ w st) : Calls P f args'.toArray w (CPost B ρ w st Q) :=
  callsIn_wide.1 ((callsOk_wide hm hE hS m f args st Q h).2 hfl 0 ρ w args' ha hr)

end Go.Ai
