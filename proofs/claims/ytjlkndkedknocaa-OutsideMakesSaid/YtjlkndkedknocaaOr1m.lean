/- The table of functions is the given code's. -/
import Derived.Test.YtjlkndkedknocaaAiFm
import Derived.Test.YtjlkndkedknocaaMe
import Derived.Test.YtjlkndkedknocaaChecked
import Derived.KernelRfl
namespace Go.Proofs.Ytjlkndkedknocaa
open Go Go.Ai
set_option linter.unusedSimpArgs false
set_option linter.unusedVariables false

theorem follows : Try.prog.follows .mixedOrders = true := by kernel_rfl
noncomputable def mine : List Nat := (List.range rfs.length).filter fun f => (rF f).isSome
theorem codes : mine.map (compileF Try.prog) = mine.map rF := by kernel_rfl
def callableB (P : Program) (f : FuncId) : Bool := match P.funcs[f]? with
  | some fn => !(fn.name == "runtime.NumGoroutine") && fn.body.isSome
  | none => false
theorem callableB_ok {P : Program} {f : FuncId} (h : callableB P f = true) : Callable P f := by
  unfold callableB at h
  split at h
  · rename_i fn hfn
    simp only [Bool.and_eq_true, Bool.not_eq_true', beq_eq_false_iff_ne] at h
    refine ⟨fn, hfn, h.1, fun hb => ?_⟩
    rw [hb] at h
    simp at h
  · cases h
theorem callables : mine.all (fun f => callableB Try.prog f) = true := by kernel_rfl
theorem rF_mem {f : FuncId} {rf : RFun} (h : rF f = some rf) : f ∈ mine := by
  refine List.mem_filter.2 ⟨List.mem_range.2 ?_, by rw [h]; rfl⟩
  unfold rF at h
  cases hx : rfs[f]? with
  | none => rw [hx] at h; cases h
  | some o => exact (List.getElem?_eq_some_iff.1 hx).1
theorem map_at {α : Type} {l : List Nat} {p q : Nat → α} (h : l.map p = l.map q) {x : Nat} (hx : x ∈ l) : p x = q x := by
  obtain ⟨i, hi, rfl⟩ := List.getElem_of_mem hx
  have := congrArg (fun l => l[i]?) h
  simpa [hi] using this
theorem rF_ok {f : FuncId} {rf : RFun} (h : rF f = some rf) : compileF Try.prog f = some rf ∧ Callable Try.prog f := by
  have hm := rF_mem h
  exact ⟨(map_at codes hm).trans h, callableB_ok (List.all_eq_true.1 callables f hm)⟩

noncomputable def cmpT (nt : Nat) (c : Code) : Option R := match compile Try.prog nt c with
  | some r => if noRange r then some r else none
  | none => none
theorem cmpT_ok {nt : Nat} {c : Code} {r : R} (h : cmpT nt c = some r) : compile Try.prog nt c = some r ∧ noRange r = true := by
  unfold cmpT at h
  split at h
  · rename_i r' hr
    split at h
    · rename_i hn
      obtain rfl := Option.some.inj h
      exact ⟨hr, hn⟩
    · cases h
  · cases h
noncomputable def E0 : Env := { F := rF, S := fun _ => none, cmp := cmpT }
theorem E0_ok (B : Nat) : EnvOk Fence.wide Try.prog B E0 := ⟨fun f rf h => rF_ok h, fun f s h => (by cases h), fun f s h => (by cases h), fun nt c r h => cmpT_ok h⟩
theorem E0_kept : SumsKept E0 := fun f s h => (by cases h)
theorem cmp86a : cmpT 77 (lcA 86 0) = some ra86_0 := by kernel_rfl
theorem cmp86b : cmpT 77 (lcB 86 0) = some rl86_0 := by kernel_rfl
theorem cmp111a : cmpT 46 (lcA 219 0) = some ra219_0 := by kernel_rfl
theorem cmp111b : cmpT 46 (lcB 219 0) = some rl219_0 := by kernel_rfl
end Go.Proofs.Ytjlkndkedknocaa
