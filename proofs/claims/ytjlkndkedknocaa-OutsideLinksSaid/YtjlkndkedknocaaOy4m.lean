/- OutsideLinks returns true for every diagram: of the outside of a mixed diagram with at most 8 crossings the gluing is valid, oriented and in one part, the links of its vertices are as they should be, and it has 4 n + 2 classes of edges. -/
import Derived.Test.YtjlkndkedknocaaMf
import Derived.Test.YtjlkndkedknocaaMi
set_option linter.unusedSimpArgs false
set_option linter.unusedVariables false
namespace Go.Proofs.Ytjlkndkedknocaa
open Go Go.Ai Go.ChangeShapes Go.WideShapes Go.ChangeAt Go.RowKit
set_option maxRecDepth 4000

theorem outsideLinks_contract (H : Type) (enc : TypeId × Value → H) (W : World) (base : Nat) (args : Array Value) (ds gs : List (DataW H)) (before : List MemPlace)
  (hval : ∀ (j : Nat) t v, Try.f4.params[j]? = some t → args[j]? = some v → Value.okWide Try.prog W .any base t v)
  (hW : DataW.Whole enc Try.prog Try.f4.params.toList Rows.outsideLinksSpec.vars false W args.toList ds gs before)
  (hsz : (DataW.weightsEach Try.prog (Try.f4.params.toList ++ Rows.outsideLinksSpec.plain.varTypes Try.prog) (ds ++ gs)).all (· ≤ reachBytes) = true) :
  Calls Try.prog 4 args W fun e W' => ∃ v, e = .returned v ∧ Rows.outsideLinksSpec.post enc Try.prog Try.f4 false true false false W args v W' := by
 have hW' := hW
 obtain ⟨p, q, hA, hV, rfl, hfz, hnd⟩ := hW
 have hp : Try.f4.params = #[24] := by kernel_rfl
 rw [hp] at hA hval hsz
 obtain ⟨v0, vs0, d0, ds0, p0, q0, hargs, rfl, rfl, h0, r0⟩ := trodAll_cons hA
 obtain ⟨rfl, rfl, rfl⟩ := trodAll_nil r0
 obtain rfl : args = #[v0] := by cases args; simp_all
 obtain ⟨rfl, rfl⟩ := trodVars_none hV
 have hwt : ∀ (j : Nat) t d, [24][j]? = some t → [d0][j]? = some d → ∀ n ∈ d.weights Try.prog t, n ≤ reachBytes := fun j t d ht hd n hn => by
  have := List.all_eq_true.1 hsz n (DataW.weights_mem_each (j := j) (t := t) (d := d) ?_ ?_ n hn)
  ·simpa using this
  ·match j, ht, hd with
   | 0, ht, hd => simpa using ht
   | j + 1, ht, hd => simp at ht
  ·match j, ht, hd with
   | 0, ht, hd => simpa using hd
   | j + 1, ht, hd => simp at ht
 obtain ⟨fsD, htD⟩ : ∃ fs, Try.prog.underlying 24 = some (.struct fs) := ⟨_, Try.underlying24⟩
 obtain ⟨c0, rfl, k0⟩ := arg_of htD shapesD (hval 0 24 v0 rfl rfl) h0 (hwt 0 24 d0 rfl rfl)
 obtain ⟨ρ0, l0, x0, a0, b0, e0, f0⟩ := k0 _ _ (start W)
 obtain ⟨ad0, nd0, cd0, xd0, sd0, Ld0, ex0, hx0, hr0⟩ := diag_of f0
 subst ex0
 have hl := law4 E0_OE (c := cd0) (L := Ld0) hx0 hr0 (fun h => sane_ E0_OE)
 refine (law_calls follows E0_ok E0_kept (by decide) (st := ⟨[] ++ l0, 0⟩) hl (LRel.cons (VRel.agg' e0) (LRel.nil _)) b0).mono fun e W' he => ?_
 obtain ⟨rfl, h2, h3, h4⟩ := he
 exact ⟨_, rfl, post_law (d := 8) (tb := 4) hW' rfl (by kernel_rfl) Try.underlying4 rfl (by
  rw [hp]
  intro t ht
  simp at ht
  subst ht
  exact ⟨_, shapesD⟩) h2 h3 h4⟩

set_option maxRecDepth 100000 in
theorem outsideLinks_lifted (os : Os) (started : os.Started) (H : Type) (enc : TypeId × Value → H) :
  ReturnsInHanded {} Try.checked os 4 .any (Rows.outsideLinksSpec.pre6 enc Try.prog Try.f4 Rows.outsideLinksRow.domain false) (Rows.outsideLinksSpec.post enc Try.prog Try.f4 false true false false) := by
 refine returnsInHanded_of_change_sized (C := Try.checked) own started (by kernel_rfl) Try.func4
  (ChangeSpec.witness6 (enc := enc) (C := Try.checked) false ⟨#[], #[zeroD], []⟩ 8 (by kernel_rfl) (by kernel_rfl) (by kernel_rfl) (by kernel_rfl)) ?_
 intro W base args ds gs before hval hW _ hsz _
 exact outsideLinks_contract H enc W base args ds gs before hval hW hsz

theorem outsideLinks_holds : Rows.OutsideLinksSaid :=
 OpenClaim.holds_of_wide 4 Try.f4 rfl rfl rfl rfl rfl rfl rfl ⟨rfl, rfl, rfl, rfl, rfl⟩ rfl rfl rfl rfl rfl (by kernel_rfl) Try.func4 (by kernel_rfl)
  (of_decide_eq_true (by kernel_rfl)) (by unfold Func.isWrapper; first | (rw [if_pos (by decide +kernel)]; kernel_rfl) | (rw [if_neg (by decide +kernel)]; exact ⟨rfl, rfl⟩))
  (fun os started H enc _ => outsideLinks_lifted os started H enc)
#print axioms outsideLinks_holds
end Go.Proofs.Ytjlkndkedknocaa
