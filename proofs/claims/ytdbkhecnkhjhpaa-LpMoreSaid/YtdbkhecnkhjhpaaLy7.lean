/- A further column does not make a solved program with a solution empty, nor its value greater; a further row does not make its value less, nor an empty one not empty. Conditions: none beyond the row's own. -/
import Derived.Test.YtdbkhecnkhjhpaaLpH
import Derived.Test.YtdbkhecnkhjhpaaBm
namespace Go.Proofs.Ytdbkhecnkhjhpaa
open Go Go.Ai Go.ChangeShapes Go.WideShapes Go.ChangeAt Go.RowKit
set_option linter.unusedSimpArgs false
set_option linter.unusedVariables false

theorem lpMore_contract (H : Type) (enc : TypeId × Value → H) (W : World) (base : Nat) (args : Array Value) (ds gs : List (DataW H)) (before : List MemPlace)
    (hval : ∀ (j : Nat) t v, Try.f7.params[j]? = some t → args[j]? = some v → Value.okWide Try.prog W .any base t v)
    (hW : DataW.Whole enc Try.prog Try.f7.params.toList Rows.lpMoreSpec.vars false W args.toList ds gs before)
    (hsz : (DataW.weightsEach Try.prog (Try.f7.params.toList ++ Rows.lpMoreSpec.plain.varTypes Try.prog) (ds ++ gs)).all (· ≤ reachBytes) = true) :
    Calls Try.prog 7 args W fun e W' => ∃ v, e = .returned v ∧ Rows.lpMoreSpec.post enc Try.prog Try.f7 false true false false W args v W' := by
  have hW' := hW
  obtain ⟨p, q, hA, hV, rfl, hfz, hnd⟩ := hW
  have hp : Try.f7.params = #[25, 23, 3, 23, 3] := by kernel_rfl
  rw [hp] at hA hval hsz
  obtain ⟨v0, vs0, d0, ds0, p0, q0, hargs, rfl, rfl, h0, r0⟩ := trodAll_cons hA
  obtain ⟨v1, vs1, d1, ds1, p1, q1, rfl, rfl, rfl, h1, r1⟩ := trodAll_cons r0
  obtain ⟨v2, vs2, d2, ds2, p2, q2, rfl, rfl, rfl, h2, r2⟩ := trodAll_cons r1
  obtain ⟨v3, vs3, d3, ds3, p3, q3, rfl, rfl, rfl, h3, r3⟩ := trodAll_cons r2
  obtain ⟨v4, vs4, d4, ds4, p4, q4, rfl, rfl, rfl, h4, r4⟩ := trodAll_cons r3
  obtain ⟨rfl, rfl, rfl⟩ := trodAll_nil r4
  obtain rfl : args = #[v0, v1, v2, v3, v4] := by cases args; simp_all
  obtain ⟨rfl, rfl⟩ := trodVars_none hV
  have hwt : ∀ (j : Nat) t d, [25, 23, 3, 23, 3][j]? = some t → [d0, d1, d2, d3, d4][j]? = some d → ∀ n ∈ d.weights Try.prog t, n ≤ reachBytes := fun j t d ht hd n hn => by
    have := List.all_eq_true.1 hsz n (DataW.weights_mem_each (j := j) (t := t) (d := d) ?_ ?_ n hn)
    · simpa using this
    · match j, ht, hd with
      | 0, ht, hd => simpa using ht
      | 1, ht, hd => simpa using ht
      | 2, ht, hd => simpa using ht
      | 3, ht, hd => simpa using ht
      | 4, ht, hd => simpa using ht
      | j + 5, ht, hd => simp at ht
    · match j, ht, hd with
      | 0, ht, hd => simpa using hd
      | 1, ht, hd => simpa using hd
      | 2, ht, hd => simpa using hd
      | 3, ht, hd => simpa using hd
      | 4, ht, hd => simpa using hd
      | j + 5, ht, hd => simp at ht
  obtain ⟨fs25, ht25⟩ : ∃ fs, Try.prog.underlying 25 = some (.struct fs) := ⟨_, Try.underlying25⟩
  obtain ⟨c0, rfl, k0⟩ := arg_of ht25 shapes25 (hval 0 25 v0 rfl rfl) h0 (hwt 0 25 d0 rfl rfl)
  have k1 := arg1_of (.inl ⟨_, Try.underlying23⟩) shapes23 (hval 1 23 v1 rfl rfl) h1 (hwt 1 23 d1 rfl rfl)
  have k2 := arg1_of (.inr ⟨_, Try.underlying3⟩) shapes3 (hval 2 3 v2 rfl rfl) h2 (hwt 2 3 d2 rfl rfl)
  have k3 := arg1_of (.inl ⟨_, Try.underlying23⟩) shapes23 (hval 3 23 v3 rfl rfl) h3 (hwt 3 23 d3 rfl rfl)
  have k4 := arg1_of (.inr ⟨_, Try.underlying3⟩) shapes3 (hval 4 3 v4 rfl rfl) h4 (hwt 4 3 d4 rfl rfl)
  obtain ⟨ρ0, l0, x0, a0, b0, e0, f0⟩ := k0 _ _ (start W)
  obtain ⟨ρ1, l1, x1, a1, b1, e1, f1⟩ := k1 _ _ b0
  obtain ⟨ρ2, l2, x2, a2, b2, e2, f2⟩ := k2 _ _ b1
  obtain ⟨ρ3, l3, x3, a3, b3, e3, f3⟩ := k3 _ _ b2
  obtain ⟨ρ4, l4, x4, a4, b4, e4, f4⟩ := k4 _ _ b3
  obtain ⟨A0, B0, C0, vA0, vB0, vC0, ex0, hlp0, hpt0, hm0, hn0, hb0, hc0⟩ := lp_of (FitsL.ext ⟨l4, rfl⟩ (FitsL.ext ⟨l3, rfl⟩ (FitsL.ext ⟨l2, rfl⟩ (FitsL.ext ⟨l1, rfl⟩ f0))))
  subst ex0
  obtain ⟨w1, hw1, rel1, fit1⟩ := single_of (((e1.mono a2).mono a3).mono a4) (FitsL.ext ⟨l4, rfl⟩ (FitsL.ext ⟨l3, rfl⟩ (FitsL.ext ⟨l2, rfl⟩ f1)))
  obtain ⟨Z1, hZ1⟩ := ints_of fit1
  obtain ⟨w2, hw2, rel2, fit2⟩ := single_of ((e2.mono a3).mono a4) (FitsL.ext ⟨l4, rfl⟩ (FitsL.ext ⟨l3, rfl⟩ f2))
  obtain ⟨z2, ez2, iz2⟩ := int_of fit2
  subst ez2
  obtain ⟨w3, hw3, rel3, fit3⟩ := single_of (e3.mono a4) (FitsL.ext ⟨l4, rfl⟩ f3)
  obtain ⟨Z3, hZ3⟩ := ints_of fit3
  obtain ⟨w4, hw4, rel4, fit4⟩ := single_of e4 f4
  obtain ⟨z4, ez4, iz4⟩ := int_of fit4
  subst ez4
  have hl := law7 hlp0 hZ1 iz2 hZ3 iz4
  refine (law_calls follows E3_ok E3_kept (st := ⟨[] ++ l0 ++ l1 ++ l2 ++ l3 ++ l4, 0⟩) hl (LRel.cons (VRel.agg' ((((e0.mono a1).mono a2).mono a3).mono a4)) (LRel.cons rel1 (LRel.cons rel2 (LRel.cons rel3 (LRel.cons rel4 (LRel.nil _)))))) b4).mono fun e W' he => ?_
  obtain ⟨rfl, h2, h3, h4⟩ := he
  exact ⟨_, rfl, post_law (d := 8) (tb := 4) hW' rfl (by kernel_rfl) Try.underlying4 rfl (by
    rw [hp]
    intro t ht
    simp at ht
    rcases ht with rfl | rfl | rfl | rfl | rfl
    · exact ⟨_, shapes25⟩
    · exact ⟨_, shapes23⟩
    · exact ⟨_, shapes3⟩
    · exact ⟨_, shapes23⟩
    · exact ⟨_, shapes3⟩) h2 h3 h4⟩

set_option maxRecDepth 100000 in
theorem lpMore_lifted (os : Os) (started : os.Started) (H : Type) (enc : TypeId × Value → H) :
    ReturnsInHanded {} Try.checked os 7 .any (Rows.lpMoreSpec.pre6 enc Try.prog Try.f7 Rows.lpMoreRow.domain false) (Rows.lpMoreSpec.post enc Try.prog Try.f7 false true false false) := by
  refine returnsInHanded_of_change_sized (C := Try.checked) own started (by kernel_rfl) Try.func7
    (ChangeSpec.witness6 (enc := enc) (C := Try.checked) false ⟨#[], #[zeroLp, .slice none 0 0, .int .i64 0, .slice none 0 0, .int .i64 0], []⟩ 8 (by kernel_rfl) (by kernel_rfl) (by kernel_rfl) (by kernel_rfl)) ?_
  intro W base args ds gs before hval hW _ hsz _
  exact lpMore_contract H enc W base args ds gs before hval hW hsz

theorem lpMore_holds : Rows.LpMoreSaid :=
  OpenClaim.holds_of_wide 7 Try.f7 rfl rfl rfl rfl rfl rfl rfl ⟨rfl, rfl, rfl, rfl, rfl⟩ rfl rfl rfl rfl rfl (by kernel_rfl) Try.func7 (by kernel_rfl)
    (of_decide_eq_true (by kernel_rfl)) (by unfold Func.isWrapper; first | (rw [if_pos (by decide +kernel)]; kernel_rfl) | (rw [if_neg (by decide +kernel)]; exact ⟨rfl, rfl⟩))
    (fun os started H enc _ => lpMore_lifted os started H enc)
#print axioms lpMore_holds
end Go.Proofs.Ytdbkhecnkhjhpaa
