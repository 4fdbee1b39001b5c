/- The image of a longitude commutes with that of the meridian; the exponents of its letters add up to linking numbers. Conditions: none beyond the row's own. -/
import Derived.Test.YtjlkndkedknocaaMf
import Derived.Test.YtjlkndkedknocaaMi
set_option linter.unusedSimpArgs false
set_option linter.unusedVariables false
namespace Go.Proofs.Ytjlkndkedknocaa
open Go Go.Ai Go.ChangeShapes Go.WideShapes Go.ChangeAt Go.RowKit
set_option maxRecDepth 4000

theorem wirtLongitudes_contract (H : Type) (enc : TypeId × Value → H) (W : World) (base : Nat) (args : Array Value) (ds gs : List (DataW H)) (before : List MemPlace)
  (hval : ∀ (j : Nat) t v, Try.f12.params[j]? = some t → args[j]? = some v → Value.okWide Try.prog W .any base t v)
  (hW : DataW.Whole enc Try.prog Try.f12.params.toList Rows.wirtLongitudesSpec.vars false W args.toList ds gs before)
  (hsz : (DataW.weightsEach Try.prog (Try.f12.params.toList ++ Rows.wirtLongitudesSpec.plain.varTypes Try.prog) (ds ++ gs)).all (· ≤ reachBytes) = true) :
  Calls Try.prog 12 args W fun e W' => ∃ v, e = .returned v ∧ Rows.wirtLongitudesSpec.post enc Try.prog Try.f12 false true false false W args v W' := by
 have hW' := hW
 obtain ⟨p, q, hA, hV, rfl, hfz, hnd⟩ := hW
 have hp : Try.f12.params = #[24, 3, 48] := by kernel_rfl
 rw [hp] at hA hval hsz
 obtain ⟨v0, vs0, d0, ds0, p0, q0, hargs, rfl, rfl, h0, r0⟩ := trodAll_cons hA
 obtain ⟨v1, vs1, d1, ds1, p1, q1, rfl, rfl, rfl, h1, r1⟩ := trodAll_cons r0
 obtain ⟨v2, vs2, d2, ds2, p2, q2, rfl, rfl, rfl, h2, r2⟩ := trodAll_cons r1
 obtain ⟨rfl, rfl, rfl⟩ := trodAll_nil r2
 obtain rfl : args = #[v0, v1, v2] := by cases args; simp_all
 obtain ⟨rfl, rfl⟩ := trodVars_none hV
 have hwt : ∀ (j : Nat) t d, [24, 3, 48][j]? = some t → [d0, d1, d2][j]? = some d → ∀ n ∈ d.weights Try.prog t, n ≤ reachBytes := fun j t d ht hd n hn => by
  have := List.all_eq_true.1 hsz n (DataW.weights_mem_each (j := j) (t := t) (d := d) ?_ ?_ n hn)
  ·simpa using this
  ·match j, ht, hd with
   | 0, ht, hd => simpa using ht
   | 1, ht, hd => simpa using ht
   | 2, ht, hd => simpa using ht
   | j + 3, ht, hd => simp at ht
  ·match j, ht, hd with
   | 0, ht, hd => simpa using hd
   | 1, ht, hd => simpa using hd
   | 2, ht, hd => simpa using hd
   | j + 3, ht, hd => simp at ht
 obtain ⟨fsD, htD⟩ : ∃ fs, Try.prog.underlying 24 = some (.struct fs) := ⟨_, Try.underlying24⟩
 obtain ⟨c0, rfl, k0⟩ := arg_of htD shapesD (hval 0 24 v0 rfl rfl) h0 (hwt 0 24 d0 rfl rfl)
 have k1 := arg1_of (.inr ⟨_, Try.underlying3⟩) shapesI (hval 1 3 v1 rfl rfl) h1 (hwt 1 3 d1 rfl rfl)
 have k2 := arg1_of (.inl ⟨_, Try.underlying48⟩) shapesM (hval 2 48 v2 rfl rfl) h2 (hwt 2 48 d2 rfl rfl)
 obtain ⟨ρ0, l0, x0, a0, b0, e0, f0⟩ := k0 _ _ (start W)
 obtain ⟨ρ1, l1, x1, a1, b1, e1, f1⟩ := k1 _ _ b0
 obtain ⟨ρ2, l2, x2, a2, b2, e2, f2⟩ := k2 _ _ b1
 obtain ⟨ad0, nd0, cd0, xd0, sd0, Ld0, ex0, hx0, hr0⟩ := diag_of (FitsL.ext ⟨l2, rfl⟩ (FitsL.ext ⟨l1, rfl⟩ f0))
 subst ex0
 obtain ⟨w1, hw1, rel1, fit1⟩ := single_of (e1.mono a2) (FitsL.ext ⟨l2, rfl⟩ f1)
 obtain ⟨z1, ez1, iz1⟩ := int_of fit1
 subst ez1
 obtain ⟨w2, hw2, rel2, fit2⟩ := single_of e2 f2
 obtain ⟨Z2, hZ2⟩ := mat_of fit2
 have hl := law12 E1_WE (c := cd0) (L := Ld0) (k := z1) hx0 hZ2 (mat_room fit2 hZ2).2
 refine (law_calls follows E1_ok E1_WE.kept (by decide) (st := ⟨[] ++ l0 ++ l1 ++ l2, 0⟩) hl (LRel.cons (VRel.agg' ((e0.mono a1).mono a2)) (LRel.cons rel1 (LRel.cons rel2 (LRel.nil _)))) b2).mono fun e W' he => ?_
 obtain ⟨rfl, h2, h3, h4⟩ := he
 exact ⟨_, rfl, post_law (d := 8) (tb := 4) hW' rfl (by kernel_rfl) Try.underlying4 rfl (by
  rw [hp]
  intro t ht
  simp at ht
  have hts : t = 24 ∨ t = 3 ∨ t = 48 := by omega
  rcases hts with rfl | rfl | rfl
  ·exact ⟨_, shapesD⟩
  ·exact ⟨_, shapesI⟩
  ·exact ⟨_, shapesM⟩) h2 h3 h4⟩

set_option maxRecDepth 100000 in
theorem wirtLongitudes_lifted (os : Os) (started : os.Started) (H : Type) (enc : TypeId × Value → H) :
  ReturnsInHanded {} Try.checked os 12 .any (Rows.wirtLongitudesSpec.pre6 enc Try.prog Try.f12 Rows.wirtLongitudesRow.domain false) (Rows.wirtLongitudesSpec.post enc Try.prog Try.f12 false true false false) := by
 refine returnsInHanded_of_change_sized (C := Try.checked) own started (by kernel_rfl) Try.func12
  (ChangeSpec.witness6 (enc := enc) (C := Try.checked) false ⟨#[], #[zeroD, .int .i64 0, .slice none 0 0], []⟩ 8 (by kernel_rfl) (by kernel_rfl) (by kernel_rfl) (by kernel_rfl)) ?_
 intro W base args ds gs before hval hW _ hsz _
 exact wirtLongitudes_contract H enc W base args ds gs before hval hW hsz

theorem wirtLongitudes_holds : Rows.WirtLongitudesSaid :=
 OpenClaim.holds_of_wide 12 Try.f12 rfl rfl rfl rfl rfl rfl rfl ⟨rfl, rfl, rfl, rfl, rfl⟩ rfl rfl rfl rfl rfl (by kernel_rfl) Try.func12 (by kernel_rfl)
  (of_decide_eq_true (by kernel_rfl)) (by unfold Func.isWrapper; first | (rw [if_pos (by decide +kernel)]; kernel_rfl) | (rw [if_neg (by decide +kernel)]; exact ⟨rfl, rfl⟩))
  (fun os started H enc _ => wirtLongitudes_lifted os started H enc)
#print axioms wirtLongitudes_holds
end Go.Proofs.Ytjlkndkedknocaa
