/- For every linear program Check, Size and Solve return the errors or the size, and a result that is right. Conditions: none beyond the row's own. -/
import Derived.Test.YtdbkhecnkhjhpaaLpH
namespace Go.Proofs.Ytdbkhecnkhjhpaa
open Go Go.Ai Go.ChangeShapes Go.WideShapes Go.ChangeAt Go.RowKit
set_option linter.unusedSimpArgs false
set_option linter.unusedVariables false

theorem lpSolves_contract (H : Type) (enc : TypeId × Value → H) (W : World) (base : Nat) (args : Array Value) (ds gs : List (DataW H)) (before : List MemPlace)
    (hval : ∀ (j : Nat) t v, Try.f8.params[j]? = some t → args[j]? = some v → Value.okWide Try.prog W .any base t v)
    (hW : DataW.Whole enc Try.prog Try.f8.params.toList Rows.lpSolvesSpec.vars false W args.toList ds gs before)
    (hsz : (DataW.weightsEach Try.prog (Try.f8.params.toList ++ Rows.lpSolvesSpec.plain.varTypes Try.prog) (ds ++ gs)).all (· ≤ reachBytes) = true) :
    Calls Try.prog 8 args W fun e W' => ∃ v, e = .returned v ∧ Rows.lpSolvesSpec.post enc Try.prog Try.f8 false true false false W args v W' := by
  have hW' := hW
  obtain ⟨p, q, hA, hV, rfl, hfz, hnd⟩ := hW
  have hp : Try.f8.params = #[25] := by kernel_rfl
  rw [hp] at hA hval hsz
  obtain ⟨v0, vs0, d0, ds0, p0, q0, hargs, rfl, rfl, h0, r0⟩ := trodAll_cons hA
  obtain ⟨rfl, rfl, rfl⟩ := trodAll_nil r0
  obtain rfl : args = #[v0] := by cases args; simp_all
  obtain ⟨rfl, rfl⟩ := trodVars_none hV
  have hwt : ∀ (j : Nat) t d, [25][j]? = some t → [d0][j]? = some d → ∀ n ∈ d.weights Try.prog t, n ≤ reachBytes := fun j t d ht hd n hn => by
    have := List.all_eq_true.1 hsz n (DataW.weights_mem_each (j := j) (t := t) (d := d) ?_ ?_ n hn)
    · simpa using this
    · match j, ht, hd with
      | 0, ht, hd => simpa using ht
      | j + 1, ht, hd => simp at ht
    · match j, ht, hd with
      | 0, ht, hd => simpa using hd
      | j + 1, ht, hd => simp at ht
  obtain ⟨fs25, ht25⟩ : ∃ fs, Try.prog.underlying 25 = some (.struct fs) := ⟨_, Try.underlying25⟩
  obtain ⟨c0, rfl, k0⟩ := arg_of ht25 shapes25 (hval 0 25 v0 rfl rfl) h0 (hwt 0 25 d0 rfl rfl)
  obtain ⟨ρ0, l0, x0, a0, b0, e0, f0⟩ := k0 _ _ (start W)
  obtain ⟨A0, B0, C0, vA0, vB0, vC0, ex0, hlp0, hpt0, hm0, hn0, hb0, hc0⟩ := lp_of f0
  subst ex0
  have hl := law8 hlp0 hpt0
  refine (law_calls follows E3_ok E3_kept (st := ⟨[] ++ l0, 0⟩) hl (LRel.cons (VRel.agg' e0) (LRel.nil _)) b0).mono fun e W' he => ?_
  obtain ⟨rfl, h2, h3, h4⟩ := he
  exact ⟨_, rfl, post_law (d := 8) (tb := 4) hW' rfl (by kernel_rfl) Try.underlying4 rfl (by
    rw [hp]
    intro t ht
    simp at ht
    subst ht
    exact ⟨_, shapes25⟩) h2 h3 h4⟩

set_option maxRecDepth 100000 in
theorem lpSolves_lifted (os : Os) (started : os.Started) (H : Type) (enc : TypeId × Value → H) :
    ReturnsInHanded {} Try.checked os 8 .any (Rows.lpSolvesSpec.pre6 enc Try.prog Try.f8 Rows.lpSolvesRow.domain false) (Rows.lpSolvesSpec.post enc Try.prog Try.f8 false true false false) := by
  refine returnsInHanded_of_change_sized (C := Try.checked) own started (by kernel_rfl) Try.func8
    (ChangeSpec.witness6 (enc := enc) (C := Try.checked) false ⟨#[], #[zeroLp], []⟩ 8 (by kernel_rfl) (by kernel_rfl) (by kernel_rfl) (by kernel_rfl)) ?_
  intro W base args ds gs before hval hW _ hsz _
  exact lpSolves_contract H enc W base args ds gs before hval hW hsz

theorem lpSolves_holds : Rows.LpSolvesSaid :=
  OpenClaim.holds_of_wide 8 Try.f8 rfl rfl rfl rfl rfl rfl rfl ⟨rfl, rfl, rfl, rfl, rfl⟩ rfl rfl rfl rfl rfl (by kernel_rfl) Try.func8 (by kernel_rfl)
    (of_decide_eq_true (by kernel_rfl)) (by unfold Func.isWrapper; first | (rw [if_pos (by decide +kernel)]; kernel_rfl) | (rw [if_neg (by decide +kernel)]; exact ⟨rfl, rfl⟩))
    (fun os started H enc _ => lpSolves_lifted os started H enc)
#print axioms lpSolves_holds
end Go.Proofs.Ytdbkhecnkhjhpaa
