/- The table of functions is the given code's; the chapter's examples hold. -/
import Derived.Test.YtdbkhecnkhjhpaaLpR
namespace Go.Proofs.Ytdbkhecnkhjhpaa
open Go Go.Ai
set_option linter.unusedSimpArgs false
set_option linter.unusedVariables false

theorem follows : Try.prog.follows .mixedOrders = true := by kernel_rfl
theorem codes : (List.range 77).map (compileF Try.prog) = rfs := by kernel_rfl
def callableB (P : Program) (f : FuncId) : Bool := match P.funcs[f]? with
  | some fn => !(fn.name == "runtime.NumGoroutine") && fn.body.isSome
  | none => false
theorem callableB_ok {P : Program} {f : FuncId} (h : callableB P f = true) : Callable P f := by
  unfold callableB at h
  split at h
  · rename_i fn hfn
    simp only [Bool.and_eq_true, Bool.not_eq_true', beq_eq_false_iff_ne] at h
    refine ⟨fn, hfn, h.1, fun hb => ?_⟩
    rw [hb] at h
    simp at h
  · cases h
theorem callables : (List.range 77).all (fun f => (rF f).isNone || callableB Try.prog f) = true := by kernel_rfl
theorem callable16 : Callable Try.prog 16 := callableB_ok (by kernel_rfl)
theorem callable38 : Callable Try.prog 38 := callableB_ok (by kernel_rfl)
theorem callable12 : Callable Try.prog 12 := callableB_ok (by kernel_rfl)
theorem rF_lt {f : FuncId} {rf : RFun} (h : rF f = some rf) : f < 77 := by
  unfold rF at h
  have h77 : rfs.length = 77 := rfl
  cases hx : rfs[f]? with
  | none => rw [hx] at h; cases h
  | some o =>
    have h2 := (List.getElem?_eq_some_iff.1 hx).1
    rw [h77] at h2
    exact h2
theorem rF_ok {f : FuncId} {rf : RFun} (h : rF f = some rf) : compileF Try.prog f = some rf ∧ Callable Try.prog f := by
  have hlt := rF_lt h
  have hc := List.all_eq_true.1 callables f (List.mem_range.2 hlt)
  rw [h] at hc
  refine ⟨?_, callableB_ok (by simpa using hc)⟩
  unfold rF at h
  rw [← codes] at h
  simp [hlt] at h
  exact h

theorem E0_ok (B : Nat) : EnvOk Fence.wide Try.prog B E0 := ⟨fun f rf h => rF_ok h, fun f s h => by cases h⟩
theorem E0_kept : SumsKept E0 := fun f s h => by cases h

noncomputable def k0 : Code := match Try.f16.body with | some (.seq a _) => a | _ => .skip
noncomputable def k2 : Code := match Try.f16.body with | some (.seq _ (.seq a _)) => a | _ => .skip
noncomputable def k3 : Code := match Try.f16.body with | some (.seq _ (.seq _ (.seq a _))) => a | _ => .skip
noncomputable def k7 : Code := match Try.f16.body with | some (.seq _ (.seq _ (.seq _ (.seq _ a)))) => a | _ => .skip
noncomputable def kY : Code := match Try.f38.body with | some (.seq _ a) => a | _ => .skip
theorem k0_ok : compile Try.prog Try.f16.ntmps k0 = some s0 := by kernel_rfl
theorem k2_ok : compile Try.prog Try.f16.ntmps k2 = some s2 := by kernel_rfl
theorem k3_ok : compile Try.prog Try.f16.ntmps k3 = some s3 := by kernel_rfl
theorem k7_ok : compile Try.prog Try.f16.ntmps k7 = some s7 := by kernel_rfl
theorem kY_ok : compile Try.prog Try.f38.ntmps kY = some sY := by kernel_rfl
theorem srs_ok : Try.f16.results.toList.mapM (cres Try.prog) = some srs := by kernel_rfl

/-- What the run of Solve says the machine does. -/
theorem solve_ok {B : Nat} {E : Env} (hE : EnvOk Fence.wide Try.prog B E) (hS : SumsKept E) {N : Nat} {args args' : List Value} {st st' : St} {o : Out} (h : solveRun E N args st = some (o, st')) {ρ : RM} {w : World} (ha : LRel ρ args args') (hR : SRel B ρ w st) {n : Nat} :
    CallsIn Fence.wide n Try.prog 16 args'.toArray w (CPost B ρ w st fun o2 st2 => o2 = o ∧ st2 = st') :=
  solve_calls (fn := Try.f16) (fg := Try.f38) (c0 := k0) (c2 := k2) (c3 := k3) (c7 := k7) (Y := kY) follows hE hS Try.func38 rfl kY_ok (by decide) rfl callable38 Try.func16 rfl k0_ok k2_ok k3_ok k7_ok srs_ok (by decide) (solveRun_R h) ha hR

theorem E1_kept (N : Nat) : SumsKept (E1 N) := fun f s h args st o st' hs => by
  simp only [E1] at h
  split at h
  · obtain rfl := Option.some.inj h
    exact solveRun_kept E0_kept hs
  · cases h
theorem E1_ok (N B : Nat) : EnvOk Fence.wide Try.prog B (E1 N) := ⟨fun f rf h => rF_ok h, fun f s h => by
  simp only [E1] at h
  split at h
  · rename_i hf
    obtain rfl := Option.some.inj h
    subst hf
    exact ⟨callable16, fun args st o st' hs _ n ρ w args' ha hR => solve_ok (E0_ok B) E0_kept hs ha hR⟩
  · cases h⟩

theorem sane_call : call (E1 300) 300 12 [] ⟨[], 0⟩ = some (.ret (.bool true), ⟨[], 0⟩) := by
  have h := sane_run
  simp only [Option.map_eq_some_iff] at h
  obtain ⟨⟨o, ⟨hh, fl⟩⟩, h1, h2⟩ := h
  simp only [Prod.mk.injEq] at h2
  obtain ⟨h2, h3, h4⟩ := h2
  have e1 : o = .ret (.bool true) := by
    cases o with
    | ret v => cases v <;> first | (cases h2; rfl) | (simp only at h2; subst h2; rfl) | simp at h2
    | pan v => simp at h2
  have e2 : hh = [] := List.length_eq_zero_iff.1 h3
  rw [h1, e1, e2, h4]

/-- The examples are a summary. -/
def saneS : List Value → St → Option (Out × St)
  | [], st => some (.ret (.bool true), st)
  | _, _ => none
theorem sane_ok {B : Nat} {st : St} {ρ : RM} {w : World} (hR : SRel B ρ w st) {n : Nat} :
    CallsIn Fence.wide n Try.prog 12 #[] w (CPost B ρ w st fun o2 st2 => o2 = .ret (.bool true) ∧ st2 = st) := by
  have he : SRel w.heap.size (fun _ => none) w ⟨[], 0⟩ := ⟨⟨Nat.le_refl _, fun id l h => by simp at h, fun id l h => by simp at h, fun id l h => by simp at h, fun i j li lj _ h => by simp at h⟩, fun id l h => by simp at h⟩
  have hc := (callsOkD_of (callsOk_wide follows (E1_ok 300 w.heap.size) (E1_kept 300) 300) 12 [] ⟨[], 0⟩ _ _ sane_call).2 rfl n (fun _ => none) w [] (LRel.nil _) he
  refine hc.mono fun e w' h => ?_
  cases e with
  | returned v' =>
    obtain ⟨v, st', ρ', ⟨h1, rfl⟩, h2, h3, h4⟩ := h
    obtain rfl := Out.ret.inj h1
    obtain rfl := h2.bool
    have hall : ∀ k, k < w.heap.size → w'.heap[k]? = w.heap[k]? := fun k hk => h4.below k hk
    refine ⟨.bool true, st, ρ, ⟨rfl, rfl⟩, .flat rfl rfl, ⟨⟨Nat.le_trans hR.mem.base h4.size, fun id l hl => ?_, hR.mem.ro, fun id l hl h => ⟨(hR.mem.own id l hl h).1, Nat.lt_of_lt_of_le (hR.mem.own id l hl h).2 h4.size⟩, hR.mem.sep⟩, hR.full⟩,
      ⟨⟨RM.le_refl ρ, h4.os, h4.tape, h4.output, h4.size, fun k hk => hall k (Nat.lt_of_lt_of_le hk hR.mem.base), fun k hk _ => hall k hk, Nat.le_refl _, Nat.le_refl _, fun id l h k => by rw [h] at k; cases k⟩, fun id l h k => by rw [h] at k; cases k⟩⟩
    refine (hR.mem.rel id l hl).same (hall l.b ?_)
    by_cases h : (hp st.h id).ro = true
    · exact Nat.lt_of_lt_of_le (hR.mem.ro id l hl h) hR.mem.base
    · exact (hR.mem.own id l hl (by simpa using h)).2
  | panicked chain => obtain ⟨v, v', st', ρ', ⟨h1, _⟩, _⟩ := h; cases h1
  | outgrown => exact h.elim

/-- What the laws are told over that do not solve. -/
def E2 : Env := ⟨rF, fun f => if f = 12 then some saneS else none⟩
theorem E2_kept : SumsKept E2 := fun f s h args st o st' hs => by
  simp only [E2] at h
  split at h
  · obtain rfl := Option.some.inj h
    cases args with
    | nil => simp only [saneS, Option.some.injEq, Prod.mk.injEq] at hs; obtain ⟨_, rfl⟩ := hs; exact Kept.refl _
    | cons a l => cases hs
  · cases h
theorem E2_ok (B : Nat) : EnvOk Fence.wide Try.prog B E2 := ⟨fun f rf h => rF_ok h, fun f s h => by
  simp only [E2] at h
  split at h
  · rename_i hf
    obtain rfl := Option.some.inj h
    subst hf
    refine ⟨callable12, fun args st o st' hs _ n ρ w args' ha hR => ?_⟩
    cases args with
    | nil =>
      simp only [saneS, Option.some.injEq, Prod.mk.injEq] at hs
      obtain ⟨rfl, rfl⟩ := hs
      have : args' = [] := by have := ha.1; simpa using this.symm
      subst this
      exact sane_ok hR
    | cons a l => cases hs
  · cases h⟩
end Go.Proofs.Ytdbkhecnkhjhpaa
