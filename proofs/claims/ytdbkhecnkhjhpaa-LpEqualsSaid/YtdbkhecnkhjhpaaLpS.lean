/- Solve, with its deferred closure, as a run; the chapter's examples, by the kernel's run. -/
import Derived.Test.YtdbkhecnkhjhpaaBe
import Derived.Test.YtdbkhecnkhjhpaaAiF
import Derived.Test.YtdbkhecnkhjhpaaChecked
import Derived.KernelRfl
namespace Go.Proofs.Ytdbkhecnkhjhpaa
open Go Go.Ai
set_option linter.unusedSimpArgs false
set_option linter.unusedVariables false

def zeroRes : List Value := [(.int .i64 0), (.slice .none 0 0), (.int .i64 0), (.slice .none 0 0), (.int .i64 0), (.slice .none 0 0)]
def s0 : R := (.ops .false [⟨(.some 1), .none, (.box 25 (.tmp 0)), 0⟩, ⟨(.some 2), .none, (.new 27 [(.int .i64 0), (.slice .none 0 0), (.int .i64 0), (.slice .none 0 0), (.int .i64 0), (.slice .none 0 0)]), 0⟩, ⟨(.some 3), .none, (.new 28 [(.int .i64 0)]), 0⟩])
def s2 : R := (.seq (.ops .false [⟨(.some 5), .none, (.load (.some 3) (.tmp 1)), 0⟩, ⟨(.some 6), .none, (.call (.func 24) [(.tmp 5)]), 0⟩, ⟨(.some 4), .none, (.mv (.tmp 6)), 0⟩]) (.seq (.ops .false [⟨(.some 7), .none, (.mv (.tmp 4)), 0⟩, ⟨(.some 8), .none, (.bin .neq (.tmp 7) (.const (.int .i64 0))), 0⟩]) (.cond (.tmp 8) (.seq (.ops .false [⟨(.some 9), .none, (.build [(.int .i64 0), (.slice .none 0 0), (.int .i64 0), (.slice .none 0 0), (.int .i64 0), (.slice .none 0 0)] []), 0⟩, ⟨(.some 10), .none, (.mv (.tmp 4)), 0⟩, ⟨.none, .none, (.store 6 (.tmp 2) (.tmp 9)), 0⟩, ⟨.none, .none, (.store 1 (.tmp 3) (.tmp 10)), 0⟩]) .ret) .skip)))
def s3 : R := (.seq (.ops .false [⟨(.some 11), .none, (.load (.some 3) (.tmp 1)), 0⟩, ⟨(.some 12), .none, (.call (.func 37) [(.tmp 11)]), 0⟩, ⟨(.some 13), .none, (.bin .gtr (.tmp 12) (.const (.int .i64 268435456))), 0⟩]) (.cond (.tmp 13) (.seq (.ops .false [⟨(.some 14), .none, (.build [(.int .i64 0), (.slice .none 0 0), (.int .i64 0), (.slice .none 0 0), (.int .i64 0), (.slice .none 0 0)] []), 0⟩, ⟨.none, .none, (.store 6 (.tmp 2) (.tmp 14)), 0⟩, ⟨.none, .none, (.store 1 (.tmp 3) (.const (.int .i64 2))), 0⟩]) .ret) .skip))
def s7 : R := (.seq (.ops .false [⟨(.some 16), .none, (.load (.some 3) (.tmp 1)), 0⟩, ⟨(.some 17), .none, (.call (.func 39) [(.tmp 16)]), 0⟩, ⟨.none, .none, (.store 6 (.tmp 2) (.tmp 17)), 0⟩, ⟨.none, .none, (.store 1 (.tmp 3) (.const (.int .i64 0))), 0⟩]) .ret)
def sY : R := (.block 0 (.seq (.ops .false [⟨(.some 7), .none, (.eqNil 4 .false (.tmp 5)), 0⟩]) (.cond (.tmp 7) (.ops .false [⟨(.some 2), .none, (.mv (.tmp 5)), 0⟩]) (.seq (.ops .false [⟨(.some 8), .none, (.assert 60 (.agg #[]) (.tmp 5)), 0⟩, ⟨(.some 9), .none, (.extract (.tmp 8) 1), 0⟩, ⟨(.some 10), .none, (.extract (.tmp 8) 0), 0⟩]) (.cond (.tmp 9) (.seq (.ops .false [⟨(.some 3), .none, (.new 60 []), 0⟩, ⟨.none, .none, (.store 0 (.tmp 3) (.tmp 10)), 0⟩]) (.ops .false [⟨(.some 11), .none, (.build [(.int .i64 0), (.slice .none 0 0), (.int .i64 0), (.slice .none 0 0), (.int .i64 0), (.slice .none 0 0)] []), 0⟩, ⟨.none, .none, (.store 6 (.tmp 0) (.tmp 11)), 0⟩, ⟨.none, .none, (.store 1 (.tmp 1) (.const (.int .i64 2))), 0⟩])) (.seq (.ops .false [⟨(.some 4), .none, (.mv (.tmp 5)), 0⟩]) (.ops .false [⟨(.some 6), .none, (.mv (.tmp 4)), 0⟩, ⟨.none, .none, (.panic (.tmp 6)), 0⟩])))))))
def srs : List RRes := [.cell 2 (some 6), .cell 3 none]

def solveFin (E : Env) (n : Nat) (t5 : Value) (fr fr2 : Fr) (st4 : St) : Option (Out × St) :=
  match exec E n sY (put [get fr 2, get fr 3] 5 t5) st4 with
  | some (.normal, _, st5) => (resV fr2 st5.h srs).map fun v => (.ret v, st5)
  | _ => none
/-- The run of Solve. -/
def solveRun (E : Env) (n : Nat) (args : List Value) (st : St) : Option (Out × St) :=
  match exec E n s0 args st with
  | some (.normal, fr, st1) =>
    match exec E n s2 fr st1 with
    | some (.ret, fr, st2) => (resV fr st2.h srs).map fun v => (.ret v, st2)
    | some (.normal, fr, st2) =>
      match exec E n s3 fr st2 with
      | some (.ret, fr, st3) => (resV fr st3.h srs).map fun v => (.ret v, st3)
      | some (.normal, fr, st3) =>
        match exec E n s7 (put fr 15 (.func (.func 38) #[] #[get fr 2, get fr 3])) st3 with
        | some (.ret, fr2, st4) => solveFin E n .nilIface fr fr2 st4
        | some (.pan (.iface t v), fr2, st4) => solveFin E n (.iface t v) fr fr2 st4
        | _ => none
      | _ => none
    | _ => none
  | _ => none

theorem solveFin_tail {E : Env} {n : Nat} {t5 : Value} {fr fr2 : Fr} {st4 : St} {o : Out} {st' : St} (h : solveFin E n t5 fr fr2 st4 = some (o, st')) :
    DW E sY (put [get fr 2, get fr 3] 5 t5) st4 fun ex3 _ st3 => (ex3 = .normal ∧ st3 = st') ∧ ∃ v, resV fr2 st3.h srs = some v ∧ o = .ret v := by
  unfold solveFin at h
  split at h
  · rename_i x fr5 st5 h1
    simp only [Option.map_eq_some_iff, Prod.mk.injEq] at h
    obtain ⟨v, hv, rfl, rfl⟩ := h
    exact ⟨n, _, _, _, h1, ⟨rfl, rfl⟩, v, hv, rfl⟩
  · cases h
theorem solveRun_R {E : Env} {n : Nat} {args : List Value} {st : St} {o : Out} {st' : St} (h : solveRun E n args st = some (o, st')) : solveR E s0 s2 s3 s7 sY srs 15 2 3 5 38 args st o st' := by
  unfold solveRun at h
  split at h
  · rename_i fr st1 h1
    refine ⟨n, _, _, _, h1, rfl, ?_⟩
    split at h
    · rename_i fr2 st2 h2
      simp only [Option.map_eq_some_iff, Prod.mk.injEq] at h
      obtain ⟨v, hv, rfl, rfl⟩ := h
      exact ⟨n, _, _, _, h2, .inl ⟨rfl, rfl, v, hv, rfl⟩⟩
    · rename_i fr2 st2 h2
      refine ⟨n, _, _, _, h2, .inr ⟨rfl, ?_⟩⟩
      split at h
      · rename_i fr3 st3 h3
        simp only [Option.map_eq_some_iff, Prod.mk.injEq] at h
        obtain ⟨v, hv, rfl, rfl⟩ := h
        exact ⟨n, _, _, _, h3, .inl ⟨rfl, rfl, v, hv, rfl⟩⟩
      · rename_i fr3 st3 h3
        refine ⟨n, _, _, _, h3, .inr ⟨rfl, ?_⟩⟩
        split at h
        · rename_i fr4 st4 h4
          exact ⟨n, _, _, _, h4, .nilIface, .inl ⟨rfl, rfl⟩, solveFin_tail h⟩
        · rename_i t v fr4 st4 h4
          exact ⟨n, _, _, _, h4, .iface t v, .inr ⟨t, v, rfl, rfl⟩, solveFin_tail h⟩
        · cases h
      · cases h
    · cases h
  · cases h
theorem solveRun_kept {E : Env} (hS : SumsKept E) {n : Nat} {args : List Value} {st : St} {o : Out} {st' : St} (h : solveRun E n args st = some (o, st')) : Kept st st' := by
  have fin : ∀ {t5 : Value} {fr fr2 : Fr} {st4 : St}, solveFin E n t5 fr fr2 st4 = some (o, st') → Kept st4 st' := by
    intro t5 fr fr2 st4 h
    unfold solveFin at h
    split at h
    · rename_i x fr5 st5 h1
      simp only [Option.map_eq_some_iff, Prod.mk.injEq] at h
      obtain ⟨v, hv, rfl, rfl⟩ := h
      exact exec_kept hS n _ _ _ _ _ _ h1
    · cases h
  unfold solveRun at h
  split at h
  · rename_i fr st1 h1
    have k1 := exec_kept hS n _ _ _ _ _ _ h1
    split at h
    · rename_i fr2 st2 h2
      simp only [Option.map_eq_some_iff, Prod.mk.injEq] at h
      obtain ⟨v, hv, rfl, rfl⟩ := h
      exact k1.trans (exec_kept hS n _ _ _ _ _ _ h2)
    · rename_i fr2 st2 h2
      have k2 := k1.trans (exec_kept hS n _ _ _ _ _ _ h2)
      split at h
      · rename_i fr3 st3 h3
        simp only [Option.map_eq_some_iff, Prod.mk.injEq] at h
        obtain ⟨v, hv, rfl, rfl⟩ := h
        exact k2.trans (exec_kept hS n _ _ _ _ _ _ h3)
      · rename_i fr3 st3 h3
        have k3 := k2.trans (exec_kept hS n _ _ _ _ _ _ h3)
        split at h
        · rename_i fr4 st4 h4
          exact (k3.trans (exec_kept hS n _ _ _ _ _ _ h4)).trans (fin h)
        · rename_i t v fr4 st4 h4
          exact (k3.trans (exec_kept hS n _ _ _ _ _ _ h4)).trans (fin h)
        · cases h
      · cases h
    · cases h
  · cases h

def E0 : Env := ⟨rF, fun _ => none⟩
def E1 (N : Nat) : Env := ⟨rF, fun f => if f = 16 then some (solveRun E0 N) else none⟩
end Go.Proofs.Ytdbkhecnkhjhpaa
