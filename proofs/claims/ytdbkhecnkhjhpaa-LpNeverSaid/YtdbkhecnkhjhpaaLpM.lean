/- Two results of one linear program that Verify accepts have the same kind and the same value, whatever comes in. Conditions: none beyond the row's own. -/
import Derived.Test.YtdbkhecnkhjhpaaLpL
namespace Go.Proofs.Ytdbkhecnkhjhpaa
open Go Go.Ai Go.ChangeShapes Go.WideShapes Go.ChangeAt Go.RowKit
set_option linter.unusedSimpArgs false
set_option linter.unusedVariables false

theorem never_contract (H : Type) (enc : TypeId × Value → H) (W : World) (base : Nat) (args : Array Value) (ds gs : List (DataW H)) (before : List MemPlace)
    (hval : ∀ (j : Nat) t v, Try.f4.params[j]? = some t → args[j]? = some v → Value.okWide Try.prog W .any base t v)
    (hW : DataW.Whole enc Try.prog Try.f4.params.toList Rows.lpNeverSpec.vars false W args.toList ds gs before)
    (hsz : (DataW.weightsEach Try.prog (Try.f4.params.toList ++ Rows.lpNeverSpec.plain.varTypes Try.prog) (ds ++ gs)).all (· ≤ reachBytes) = true) :
    Calls Try.prog 4 args W fun e W' => ∃ v, e = .returned v ∧ Rows.lpNeverSpec.post enc Try.prog Try.f4 false true false false W args v W' := by
  have hW' := hW
  obtain ⟨p, q, hA, hV, rfl, hfz, hnd⟩ := hW
  have hp : Try.f4.params = #[25, 27, 27] := by kernel_rfl
  rw [hp] at hA hval hsz
  obtain ⟨v0, vs0, d0, ds0, p0, q0, hargs, rfl, rfl, h0, r0⟩ := trodAll_cons hA
  obtain ⟨v1, vs1, d1, ds1, p1, q1, rfl, rfl, rfl, h1, r1⟩ := trodAll_cons r0
  obtain ⟨v2, vs2, d2, ds2, p2, q2, rfl, rfl, rfl, h2, r2⟩ := trodAll_cons r1
  obtain ⟨rfl, rfl, rfl⟩ := trodAll_nil r2
  obtain rfl : args = #[v0, v1, v2] := by cases args; simp_all
  obtain ⟨rfl, rfl⟩ := trodVars_none hV
  have hwt : ∀ (j : Nat) t d, [25, 27, 27][j]? = some t → [d0, d1, d2][j]? = some d → ∀ n ∈ d.weights Try.prog t, n ≤ reachBytes := fun j t d ht hd n hn => by
    have := List.all_eq_true.1 hsz n (DataW.weights_mem_each (j := j) (t := t) (d := d) ?_ ?_ n hn)
    · simpa using this
    · match j, ht, hd with
      | 0, ht, hd => simpa using ht
      | 1, ht, hd => simpa using ht
      | 2, ht, hd => simpa using ht
      | j + 3, ht, hd => simp at ht
    · match j, ht, hd with
      | 0, ht, hd => simpa using hd
      | 1, ht, hd => simpa using hd
      | 2, ht, hd => simpa using hd
      | j + 3, ht, hd => simp at ht
  obtain ⟨fs25, ht25⟩ : ∃ fs, Try.prog.underlying 25 = some (.struct fs) := ⟨_, Try.underlying25⟩
  obtain ⟨fs27, ht27⟩ : ∃ fs, Try.prog.underlying 27 = some (.struct fs) := ⟨_, Try.underlying27⟩
  obtain ⟨c0, rfl, k0⟩ := arg_of ht25 shapes25 (hval 0 25 v0 rfl rfl) h0 (hwt 0 25 d0 rfl rfl)
  obtain ⟨c1, rfl, k1⟩ := arg_of ht27 shapes27 (hval 1 27 v1 rfl rfl) h1 (hwt 1 27 d1 rfl rfl)
  obtain ⟨c2, rfl, k2⟩ := arg_of ht27 shapes27 (hval 2 27 v2 rfl rfl) h2 (hwt 2 27 d2 rfl rfl)
  obtain ⟨ρ1, l1, x0, a1, a2, a3, a4⟩ := k0 _ _ (start W)
  obtain ⟨ρ2, l2, x1, b1, b2, b3, b4⟩ := k1 _ _ a2
  obtain ⟨ρ3, l3, x2, e1, e2, e3, e4⟩ := k2 _ _ b2
  obtain ⟨A, B, C, hlp⟩ := lp_of ((a4.ext (Ext.snoc _ l2)).ext (Ext.snoc _ l3))
  obtain ⟨k, X, xd, Y, yd, R, hrs⟩ := res_of (b4.ext (Ext.snoc _ l3))
  obtain ⟨k', X', xd', Y', yd', R', hrs'⟩ := res_of e4
  have hl := law4 hlp hrs hrs'
  refine (law_calls follows E2_ok E2_kept (st := ⟨[] ++ l1 ++ l2 ++ l3, 0⟩) hl (LRel.cons (VRel.agg' ((a3.mono b1).mono e1)) (LRel.cons (VRel.agg' (b3.mono e1)) (LRel.cons (VRel.agg' e3) (LRel.nil _)))) e2).mono fun e W' he => ?_
  obtain ⟨rfl, h2, h3, h4⟩ := he
  exact ⟨_, rfl, post_law (d := 8) (tb := 4) hW' rfl (by kernel_rfl) Try.underlying4 rfl (by
    rw [hp]
    intro t ht
    simp at ht
    rcases ht with rfl | rfl
    · exact ⟨_, shapes25⟩
    · exact ⟨_, shapes27⟩) h2 h3 h4⟩

set_option maxRecDepth 100000 in
theorem never_lifted (os : Os) (started : os.Started) (H : Type) (enc : TypeId × Value → H) :
    ReturnsInHanded {} Try.checked os 4 .any (Rows.lpNeverSpec.pre6 enc Try.prog Try.f4 Rows.lpNeverRow.domain false) (Rows.lpNeverSpec.post enc Try.prog Try.f4 false true false false) := by
  refine returnsInHanded_of_change_sized (C := Try.checked) own started (by kernel_rfl) Try.func4
    (ChangeSpec.witness6 (enc := enc) (C := Try.checked) false ⟨#[], #[zeroLp, zeroR, zeroR], []⟩ 8 (by kernel_rfl) (by kernel_rfl) (by kernel_rfl) (by kernel_rfl)) ?_
  intro W base args ds gs before hval hW _ hsz _
  exact never_contract H enc W base args ds gs before hval hW hsz

theorem lpNever_holds : Rows.LpNeverSaid :=
  OpenClaim.holds_of_wide 4 Try.f4 rfl rfl rfl rfl rfl rfl rfl ⟨rfl, rfl, rfl, rfl, rfl⟩ rfl rfl rfl rfl rfl (by kernel_rfl) Try.func4 (by kernel_rfl)
    (of_decide_eq_true (by kernel_rfl)) (by unfold Func.isWrapper; first | (rw [if_pos (by decide +kernel)]; kernel_rfl) | (rw [if_neg (by decide +kernel)]; exact ⟨rfl, rfl⟩))
    (fun os started H enc _ => never_lifted os started H enc)
#print axioms lpNever_holds
end Go.Proofs.Ytdbkhecnkhjhpaa
