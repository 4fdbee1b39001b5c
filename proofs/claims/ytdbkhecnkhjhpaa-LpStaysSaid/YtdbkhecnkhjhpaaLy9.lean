/- No function of the package changes its arguments. Conditions: none beyond the row's own. -/
import Derived.Test.YtdbkhecnkhjhpaaLpH
namespace Go.Proofs.Ytdbkhecnkhjhpaa
open Go Go.Ai Go.ChangeShapes Go.WideShapes Go.ChangeAt Go.RowKit
set_option linter.unusedSimpArgs false
set_option linter.unusedVariables false

theorem lpStays_contract (H : Type) (enc : TypeId × Value → H) (W : World) (base : Nat) (args : Array Value) (ds gs : List (DataW H)) (before : List MemPlace)
    (hval : ∀ (j : Nat) t v, Try.f9.params[j]? = some t → args[j]? = some v → Value.okWide Try.prog W .any base t v)
    (hW : DataW.Whole enc Try.prog Try.f9.params.toList Rows.lpStaysSpec.vars false W args.toList ds gs before)
    (hsz : (DataW.weightsEach Try.prog (Try.f9.params.toList ++ Rows.lpStaysSpec.plain.varTypes Try.prog) (ds ++ gs)).all (· ≤ reachBytes) = true) :
    Calls Try.prog 9 args W fun e W' => ∃ v, e = .returned v ∧ Rows.lpStaysSpec.post enc Try.prog Try.f9 false true false false W args v W' := by
  have hW' := hW
  obtain ⟨p, q, hA, hV, rfl, hfz, hnd⟩ := hW
  have hp : Try.f9.params = #[25, 27] := by kernel_rfl
  rw [hp] at hA hval hsz
  obtain ⟨v0, vs0, d0, ds0, p0, q0, hargs, rfl, rfl, h0, r0⟩ := trodAll_cons hA
  obtain ⟨v1, vs1, d1, ds1, p1, q1, rfl, rfl, rfl, h1, r1⟩ := trodAll_cons r0
  obtain ⟨rfl, rfl, rfl⟩ := trodAll_nil r1
  obtain rfl : args = #[v0, v1] := by cases args; simp_all
  obtain ⟨rfl, rfl⟩ := trodVars_none hV
  have hwt : ∀ (j : Nat) t d, [25, 27][j]? = some t → [d0, d1][j]? = some d → ∀ n ∈ d.weights Try.prog t, n ≤ reachBytes := fun j t d ht hd n hn => by
    have := List.all_eq_true.1 hsz n (DataW.weights_mem_each (j := j) (t := t) (d := d) ?_ ?_ n hn)
    · simpa using this
    · match j, ht, hd with
      | 0, ht, hd => simpa using ht
      | 1, ht, hd => simpa using ht
      | j + 2, ht, hd => simp at ht
    · match j, ht, hd with
      | 0, ht, hd => simpa using hd
      | 1, ht, hd => simpa using hd
      | j + 2, ht, hd => simp at ht
  obtain ⟨fs25, ht25⟩ : ∃ fs, Try.prog.underlying 25 = some (.struct fs) := ⟨_, Try.underlying25⟩
  obtain ⟨fs27, ht27⟩ : ∃ fs, Try.prog.underlying 27 = some (.struct fs) := ⟨_, Try.underlying27⟩
  obtain ⟨c0, rfl, k0⟩ := arg_of ht25 shapes25 (hval 0 25 v0 rfl rfl) h0 (hwt 0 25 d0 rfl rfl)
  obtain ⟨c1, rfl, k1⟩ := arg_of ht27 shapes27 (hval 1 27 v1 rfl rfl) h1 (hwt 1 27 d1 rfl rfl)
  obtain ⟨ρ0, l0, x0, a0, b0, e0, f0⟩ := k0 _ _ (start W)
  obtain ⟨ρ1, l1, x1, a1, b1, e1, f1⟩ := k1 _ _ b0
  obtain ⟨A0, B0, C0, vA0, vB0, vC0, ex0, hlp0, hpt0, hm0, hn0, hb0, hc0⟩ := lp_of (FitsL.ext ⟨l1, rfl⟩ f0)
  subst ex0
  obtain ⟨kd1, X1, xd1, Y1, yd1, R1, hrs1, hx1, hy1, hr1⟩ := res_of f1
  have hl := law9 hlp0 hrs1 ⟨hm0, hn0, hb0, hc0, hx1, hy1, hr1⟩
  refine (law_calls follows E3_ok E3_kept (st := ⟨[] ++ l0 ++ l1, 0⟩) hl (LRel.cons (VRel.agg' (e0.mono a1)) (LRel.cons (VRel.agg' e1) (LRel.nil _))) b1).mono fun e W' he => ?_
  obtain ⟨rfl, h2, h3, h4⟩ := he
  exact ⟨_, rfl, post_law (d := 8) (tb := 4) hW' rfl (by kernel_rfl) Try.underlying4 rfl (by
    rw [hp]
    intro t ht
    simp at ht
    have hts : t = 25 ∨ t = 27 := by omega
    rcases hts with rfl | rfl
    · exact ⟨_, shapes25⟩
    · exact ⟨_, shapes27⟩) h2 h3 h4⟩

set_option maxRecDepth 100000 in
theorem lpStays_lifted (os : Os) (started : os.Started) (H : Type) (enc : TypeId × Value → H) :
    ReturnsInHanded {} Try.checked os 9 .any (Rows.lpStaysSpec.pre6 enc Try.prog Try.f9 Rows.lpStaysRow.domain false) (Rows.lpStaysSpec.post enc Try.prog Try.f9 false true false false) := by
  refine returnsInHanded_of_change_sized (C := Try.checked) own started (by kernel_rfl) Try.func9
    (ChangeSpec.witness6 (enc := enc) (C := Try.checked) false ⟨#[], #[zeroLp, zeroR], []⟩ 8 (by kernel_rfl) (by kernel_rfl) (by kernel_rfl) (by kernel_rfl)) ?_
  intro W base args ds gs before hval hW _ hsz _
  exact lpStays_contract H enc W base args ds gs before hval hW hsz

theorem lpStays_holds : Rows.LpStaysSaid :=
  OpenClaim.holds_of_wide 9 Try.f9 rfl rfl rfl rfl rfl rfl rfl ⟨rfl, rfl, rfl, rfl, rfl⟩ rfl rfl rfl rfl rfl (by kernel_rfl) Try.func9 (by kernel_rfl)
    (of_decide_eq_true (by kernel_rfl)) (by unfold Func.isWrapper; first | (rw [if_pos (by decide +kernel)]; kernel_rfl) | (rw [if_neg (by decide +kernel)]; exact ⟨rfl, rfl⟩))
    (fun os started H enc _ => lpStays_lifted os started H enc)
#print axioms lpStays_holds
end Go.Proofs.Ytdbkhecnkhjhpaa
