/- Exchanging two rows or two columns, multiplying a row and its right side by a number other than zero, or adding a multiple of one row to another one does not change the kind and the value, where both programs are solved. Conditions: none beyond the row's own. -/
import Derived.Test.YtdbkhecnkhjhpaaLpH
import Derived.Test.YtdbkhecnkhjhpaaBn
namespace Go.Proofs.Ytdbkhecnkhjhpaa
open Go Go.Ai Go.ChangeShapes Go.WideShapes Go.ChangeAt Go.RowKit
set_option linter.unusedSimpArgs false
set_option linter.unusedVariables false

theorem lpEquals_contract (H : Type) (enc : TypeId × Value → H) (W : World) (base : Nat) (args : Array Value) (ds gs : List (DataW H)) (before : List MemPlace)
    (hval : ∀ (j : Nat) t v, Try.f5.params[j]? = some t → args[j]? = some v → Value.okWide Try.prog W .any base t v)
    (hW : DataW.Whole enc Try.prog Try.f5.params.toList Rows.lpEqualsSpec.vars false W args.toList ds gs before)
    (hsz : (DataW.weightsEach Try.prog (Try.f5.params.toList ++ Rows.lpEqualsSpec.plain.varTypes Try.prog) (ds ++ gs)).all (· ≤ reachBytes) = true) :
    Calls Try.prog 5 args W fun e W' => ∃ v, e = .returned v ∧ Rows.lpEqualsSpec.post enc Try.prog Try.f5 false true false false W args v W' := by
  have hW' := hW
  obtain ⟨p, q, hA, hV, rfl, hfz, hnd⟩ := hW
  have hp : Try.f5.params = #[25, 3, 3, 3, 3, 3] := by kernel_rfl
  rw [hp] at hA hval hsz
  obtain ⟨v0, vs0, d0, ds0, p0, q0, hargs, rfl, rfl, h0, r0⟩ := trodAll_cons hA
  obtain ⟨v1, vs1, d1, ds1, p1, q1, rfl, rfl, rfl, h1, r1⟩ := trodAll_cons r0
  obtain ⟨v2, vs2, d2, ds2, p2, q2, rfl, rfl, rfl, h2, r2⟩ := trodAll_cons r1
  obtain ⟨v3, vs3, d3, ds3, p3, q3, rfl, rfl, rfl, h3, r3⟩ := trodAll_cons r2
  obtain ⟨v4, vs4, d4, ds4, p4, q4, rfl, rfl, rfl, h4, r4⟩ := trodAll_cons r3
  obtain ⟨v5, vs5, d5, ds5, p5, q5, rfl, rfl, rfl, h5, r5⟩ := trodAll_cons r4
  obtain ⟨rfl, rfl, rfl⟩ := trodAll_nil r5
  obtain rfl : args = #[v0, v1, v2, v3, v4, v5] := by cases args; simp_all
  obtain ⟨rfl, rfl⟩ := trodVars_none hV
  have hwt : ∀ (j : Nat) t d, [25, 3, 3, 3, 3, 3][j]? = some t → [d0, d1, d2, d3, d4, d5][j]? = some d → ∀ n ∈ d.weights Try.prog t, n ≤ reachBytes := fun j t d ht hd n hn => by
    have := List.all_eq_true.1 hsz n (DataW.weights_mem_each (j := j) (t := t) (d := d) ?_ ?_ n hn)
    · simpa using this
    · match j, ht, hd with
      | 0, ht, hd => simpa using ht
      | 1, ht, hd => simpa using ht
      | 2, ht, hd => simpa using ht
      | 3, ht, hd => simpa using ht
      | 4, ht, hd => simpa using ht
      | 5, ht, hd => simpa using ht
      | j + 6, ht, hd => simp at ht
    · match j, ht, hd with
      | 0, ht, hd => simpa using hd
      | 1, ht, hd => simpa using hd
      | 2, ht, hd => simpa using hd
      | 3, ht, hd => simpa using hd
      | 4, ht, hd => simpa using hd
      | 5, ht, hd => simpa using hd
      | j + 6, ht, hd => simp at ht
  obtain ⟨fs25, ht25⟩ : ∃ fs, Try.prog.underlying 25 = some (.struct fs) := ⟨_, Try.underlying25⟩
  obtain ⟨c0, rfl, k0⟩ := arg_of ht25 shapes25 (hval 0 25 v0 rfl rfl) h0 (hwt 0 25 d0 rfl rfl)
  have k1 := arg1_of (.inr ⟨_, Try.underlying3⟩) shapes3 (hval 1 3 v1 rfl rfl) h1 (hwt 1 3 d1 rfl rfl)
  have k2 := arg1_of (.inr ⟨_, Try.underlying3⟩) shapes3 (hval 2 3 v2 rfl rfl) h2 (hwt 2 3 d2 rfl rfl)
  have k3 := arg1_of (.inr ⟨_, Try.underlying3⟩) shapes3 (hval 3 3 v3 rfl rfl) h3 (hwt 3 3 d3 rfl rfl)
  have k4 := arg1_of (.inr ⟨_, Try.underlying3⟩) shapes3 (hval 4 3 v4 rfl rfl) h4 (hwt 4 3 d4 rfl rfl)
  have k5 := arg1_of (.inr ⟨_, Try.underlying3⟩) shapes3 (hval 5 3 v5 rfl rfl) h5 (hwt 5 3 d5 rfl rfl)
  obtain ⟨ρ0, l0, x0, a0, b0, e0, f0⟩ := k0 _ _ (start W)
  obtain ⟨ρ1, l1, x1, a1, b1, e1, f1⟩ := k1 _ _ b0
  obtain ⟨ρ2, l2, x2, a2, b2, e2, f2⟩ := k2 _ _ b1
  obtain ⟨ρ3, l3, x3, a3, b3, e3, f3⟩ := k3 _ _ b2
  obtain ⟨ρ4, l4, x4, a4, b4, e4, f4⟩ := k4 _ _ b3
  obtain ⟨ρ5, l5, x5, a5, b5, e5, f5⟩ := k5 _ _ b4
  obtain ⟨A0, B0, C0, vA0, vB0, vC0, ex0, hlp0, hpt0, hm0, hn0, hb0, hc0⟩ := lp_of (FitsL.ext ⟨l5, rfl⟩ (FitsL.ext ⟨l4, rfl⟩ (FitsL.ext ⟨l3, rfl⟩ (FitsL.ext ⟨l2, rfl⟩ (FitsL.ext ⟨l1, rfl⟩ f0)))))
  subst ex0
  obtain ⟨w1, hw1, rel1, fit1⟩ := single_of ((((e1.mono a2).mono a3).mono a4).mono a5) (FitsL.ext ⟨l5, rfl⟩ (FitsL.ext ⟨l4, rfl⟩ (FitsL.ext ⟨l3, rfl⟩ (FitsL.ext ⟨l2, rfl⟩ f1))))
  obtain ⟨z1, ez1, iz1⟩ := int_of fit1
  subst ez1
  obtain ⟨w2, hw2, rel2, fit2⟩ := single_of (((e2.mono a3).mono a4).mono a5) (FitsL.ext ⟨l5, rfl⟩ (FitsL.ext ⟨l4, rfl⟩ (FitsL.ext ⟨l3, rfl⟩ f2)))
  obtain ⟨z2, ez2, iz2⟩ := int_of fit2
  subst ez2
  obtain ⟨w3, hw3, rel3, fit3⟩ := single_of ((e3.mono a4).mono a5) (FitsL.ext ⟨l5, rfl⟩ (FitsL.ext ⟨l4, rfl⟩ f3))
  obtain ⟨z3, ez3, iz3⟩ := int_of fit3
  subst ez3
  obtain ⟨w4, hw4, rel4, fit4⟩ := single_of (e4.mono a5) (FitsL.ext ⟨l5, rfl⟩ f4)
  obtain ⟨z4, ez4, iz4⟩ := int_of fit4
  subst ez4
  obtain ⟨w5, hw5, rel5, fit5⟩ := single_of e5 f5
  obtain ⟨z5, ez5, iz5⟩ := int_of fit5
  subst ez5
  have hl := law5 (zi := z1) (zj := z2) (zk := z3) (zl := z4) (zm := z5) hlp0
  refine (law_calls follows E3_ok E3_kept (st := ⟨[] ++ l0 ++ l1 ++ l2 ++ l3 ++ l4 ++ l5, 0⟩) hl (LRel.cons (VRel.agg' (((((e0.mono a1).mono a2).mono a3).mono a4).mono a5)) (LRel.cons rel1 (LRel.cons rel2 (LRel.cons rel3 (LRel.cons rel4 (LRel.cons rel5 (LRel.nil _))))))) b5).mono fun e W' he => ?_
  obtain ⟨rfl, h2, h3, h4⟩ := he
  exact ⟨_, rfl, post_law (d := 8) (tb := 4) hW' rfl (by kernel_rfl) Try.underlying4 rfl (by
    rw [hp]
    intro t ht
    simp at ht
    rcases ht with rfl | rfl
    · exact ⟨_, shapes25⟩
    · exact ⟨_, shapes3⟩) h2 h3 h4⟩

set_option maxRecDepth 100000 in
theorem lpEquals_lifted (os : Os) (started : os.Started) (H : Type) (enc : TypeId × Value → H) :
    ReturnsInHanded {} Try.checked os 5 .any (Rows.lpEqualsSpec.pre6 enc Try.prog Try.f5 Rows.lpEqualsRow.domain false) (Rows.lpEqualsSpec.post enc Try.prog Try.f5 false true false false) := by
  refine returnsInHanded_of_change_sized (C := Try.checked) own started (by kernel_rfl) Try.func5
    (ChangeSpec.witness6 (enc := enc) (C := Try.checked) false ⟨#[], #[zeroLp, .int .i64 0, .int .i64 0, .int .i64 0, .int .i64 0, .int .i64 0], []⟩ 8 (by kernel_rfl) (by kernel_rfl) (by kernel_rfl) (by kernel_rfl)) ?_
  intro W base args ds gs before hval hW _ hsz _
  exact lpEquals_contract H enc W base args ds gs before hval hW hsz

theorem lpEquals_holds : Rows.LpEqualsSaid :=
  OpenClaim.holds_of_wide 5 Try.f5 rfl rfl rfl rfl rfl rfl rfl ⟨rfl, rfl, rfl, rfl, rfl⟩ rfl rfl rfl rfl rfl (by kernel_rfl) Try.func5 (by kernel_rfl)
    (of_decide_eq_true (by kernel_rfl)) (by unfold Func.isWrapper; first | (rw [if_pos (by decide +kernel)]; kernel_rfl) | (rw [if_neg (by decide +kernel)]; exact ⟨rfl, rfl⟩))
    (fun os started H enc _ => lpEquals_lifted os started H enc)
#print axioms lpEquals_holds
end Go.Proofs.Ytdbkhecnkhjhpaa
