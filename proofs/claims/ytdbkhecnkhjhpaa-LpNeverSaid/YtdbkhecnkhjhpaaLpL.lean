/- For every linear program and everything that is given as a result: what Verify and Value return is what the definitions say; two results that are right have one kind and one value. Conditions: none beyond the row's own. -/
import Derived.Test.YtdbkhecnkhjhpaaLp8
import Derived.Test.YtdbkhecnkhjhpaaAiM
import Derived.Test.YtdbkhecnkhjhpaaRows
import Derived.WalkKit
import Derived.ProofKit
import Derived.OpenShut
import Derived.SizedLaws
namespace Go.Proofs.Ytdbkhecnkhjhpaa
open Go Go.Ai Go.ChangeShapes Go.WideShapes Go.ChangeAt Go.RowKit
set_option linter.unusedSimpArgs false
set_option linter.unusedVariables false

def lpSh : List Sh := [.slice [.slice [.int .i64]], .slice [.int .i64], .slice [.int .i64]]
def resSh : List Sh := [.int .i64, .slice [.int .i64], .int .i64, .slice [.int .i64], .int .i64, .slice [.int .i64]]
theorem shapes25 : shapes Try.prog 8 25 = some lpSh := by kernel_rfl
theorem shapes27 : shapes Try.prog 8 27 = some resSh := by kernel_rfl
theorem own : ownKnob Try.prog.godebug = none := by kernel_rfl

theorem int_of {h : List O} {v : Value} (hf : Fits h (.int .i64) v) : ∃ x, v = .int .i64 x ∧ I64 x := by
  cases hf with
  | int hw =>
    rename_i y
    refine ⟨y, rfl, ?_⟩
    have : -9223372036854775808 ≤ y ∧ y ≤ 9223372036854775807 := by simpa [Lit.wf, IntKind.min, IntKind.max, IntKind.signed, IntKind.bits] using hw
    exact this
theorem lp_of {h : List O} {cs : List Value} (hf : FitsL h lpSh cs) : ∃ A B C, LpAt h (.agg cs.toArray) A B C := by
  obtain ⟨hl, hv⟩ := hf
  match cs, hl with
  | [a, b, c], _ =>
    obtain ⟨A, hA⟩ := mat_of (hv 0 _ a rfl rfl)
    obtain ⟨B, hB⟩ := ints_of (hv 1 _ b rfl rfl)
    obtain ⟨C, hC⟩ := ints_of (hv 2 _ c rfl rfl)
    exact ⟨A, B, C, ⟨a, b, c, rfl, hA, hB, hC⟩⟩
theorem res_of {h : List O} {cs : List Value} (hf : FitsL h resSh cs) : ∃ k X xd Y yd R, ResAt h (.agg cs.toArray) k X xd Y yd R := by
  obtain ⟨hl, hv⟩ := hf
  match cs, hl with
  | [k, x, xd, y, yd, r], _ =>
    obtain ⟨k, rfl, hk⟩ := int_of (hv 0 _ k rfl rfl)
    obtain ⟨X, hX⟩ := ints_of (hv 1 _ x rfl rfl)
    obtain ⟨xd, rfl, hxd⟩ := int_of (hv 2 _ xd rfl rfl)
    obtain ⟨Y, hY⟩ := ints_of (hv 3 _ y rfl rfl)
    obtain ⟨yd, rfl, hyd⟩ := int_of (hv 4 _ yd rfl rfl)
    obtain ⟨R, hR⟩ := ints_of (hv 5 _ r rfl rfl)
    exact ⟨k, X, xd, Y, yd, R, ⟨x, y, r, rfl, hX, hY, hR, hk, hxd, hyd⟩⟩

/-- A struct that came in. -/
theorem arg_of {H : Type} {enc : TypeId × Value → H} {W : World} {base : Nat} {t : TypeId} {fs : Array Field} {v : Value} {d : DataW H} {ps : List MemPlace} {shs : List Sh} (ht : Try.prog.underlying t = some (.struct fs)) (hsh : shapes Try.prog 8 t = some shs)
    (hok : Value.okWide Try.prog W .any base t v) (h : DataW.Trod enc Try.prog W 0 (fun _ => true) true t v d ps) (hw : ∀ n ∈ d.weights Try.prog t, n ≤ reachBytes) :
    ∃ cs, v = .agg cs ∧ Canon W shs cs.toList := by
  obtain ⟨fuel, hx⟩ := h
  have hok' : ∃ cs, v = .agg cs ∧ cs.size = Try.prog.cellsOf t ∧ Row.okWide Try.prog W .any base t cs := by
    unfold Value.okWide at hok
    rw [ht] at hok
    exact hok
  obtain ⟨cs, rfl, _⟩ := hok'
  exact ⟨cs, rfl, canon 8 fuel t _ (d, ps) shs hsh hx hw⟩

theorem start (W : World) : SRel W.heap.size (fun _ => none) W ⟨[], 0⟩ :=
  ⟨⟨Nat.le_refl _, fun id l h => by simp at h, fun id l h => by simp at h, fun id l h => by simp at h, fun i j li lj _ h => by simp at h⟩, fun id l h => by simp at h⟩

theorem verifies_contract (H : Type) (enc : TypeId × Value → H) (W : World) (base : Nat) (args : Array Value) (ds gs : List (DataW H)) (before : List MemPlace)
    (hval : ∀ (j : Nat) t v, Try.f3.params[j]? = some t → args[j]? = some v → Value.okWide Try.prog W .any base t v)
    (hW : DataW.Whole enc Try.prog Try.f3.params.toList Rows.lpVerifiesSpec.vars false W args.toList ds gs before)
    (hsz : (DataW.weightsEach Try.prog (Try.f3.params.toList ++ Rows.lpVerifiesSpec.plain.varTypes Try.prog) (ds ++ gs)).all (· ≤ reachBytes) = true) :
    Calls Try.prog 3 args W fun e W' => ∃ v, e = .returned v ∧ Rows.lpVerifiesSpec.post enc Try.prog Try.f3 false true false false W args v W' := by
  have hW' := hW
  obtain ⟨p, q, hA, hV, rfl, hfz, hnd⟩ := hW
  have hp : Try.f3.params = #[25, 27] := by kernel_rfl
  rw [hp] at hA hval hsz
  obtain ⟨v0, vs0, d0, ds0, p0, q0, hargs, rfl, rfl, h0, r0⟩ := trodAll_cons hA
  obtain ⟨v1, vs1, d1, ds1, p1, q1, rfl, rfl, rfl, h1, r1⟩ := trodAll_cons r0
  obtain ⟨rfl, rfl, rfl⟩ := trodAll_nil r1
  obtain rfl : args = #[v0, v1] := by cases args; simp_all
  obtain ⟨rfl, rfl⟩ := trodVars_none hV
  have hwt : ∀ (j : Nat) t d, [25, 27][j]? = some t → [d0, d1][j]? = some d → ∀ n ∈ d.weights Try.prog t, n ≤ reachBytes := fun j t d ht hd n hn => by
    have := List.all_eq_true.1 hsz n (DataW.weights_mem_each (j := j) (t := t) (d := d) ?_ ?_ n hn)
    · simpa using this
    · match j, ht, hd with
      | 0, ht, hd => simpa using ht
      | 1, ht, hd => simpa using ht
      | j + 2, ht, hd => simp at ht
    · match j, ht, hd with
      | 0, ht, hd => simpa using hd
      | 1, ht, hd => simpa using hd
      | j + 2, ht, hd => simp at ht
  obtain ⟨fs25, ht25⟩ : ∃ fs, Try.prog.underlying 25 = some (.struct fs) := ⟨_, Try.underlying25⟩
  obtain ⟨fs27, ht27⟩ : ∃ fs, Try.prog.underlying 27 = some (.struct fs) := ⟨_, Try.underlying27⟩
  obtain ⟨c0, rfl, k0⟩ := arg_of ht25 shapes25 (hval 0 25 v0 rfl rfl) h0 (hwt 0 25 d0 rfl rfl)
  obtain ⟨c1, rfl, k1⟩ := arg_of ht27 shapes27 (hval 1 27 v1 rfl rfl) h1 (hwt 1 27 d1 rfl rfl)
  obtain ⟨ρ1, l1, x0, a1, a2, a3, a4⟩ := k0 _ _ (start W)
  obtain ⟨ρ2, l2, x1, b1, b2, b3, b4⟩ := k1 _ _ a2
  obtain ⟨A, B, C, hlp⟩ := lp_of (a4.ext (Ext.snoc _ l2))
  obtain ⟨k, X, xd, Y, yd, R, hrs⟩ := res_of b4
  have hl := law3 hlp hrs
  refine (law_calls follows E2_ok E2_kept (st := ⟨[] ++ l1 ++ l2, 0⟩) hl (LRel.cons (VRel.agg' (a3.mono b1)) (LRel.cons (VRel.agg' b3) (LRel.nil _))) b2).mono fun e W' he => ?_
  obtain ⟨rfl, h2, h3, h4⟩ := he
  exact ⟨_, rfl, post_law (d := 8) (tb := 4) hW' rfl (by kernel_rfl) Try.underlying4 rfl (by
    rw [hp]
    intro t ht
    simp at ht
    rcases ht with rfl | rfl
    · exact ⟨_, shapes25⟩
    · exact ⟨_, shapes27⟩) h2 h3 h4⟩

def zeroLp : Value := .agg #[.slice none 0 0, .slice none 0 0, .slice none 0 0]
def zeroR : Value := .agg #[.int .i64 0, .slice none 0 0, .int .i64 0, .slice none 0 0, .int .i64 0, .slice none 0 0]
set_option maxRecDepth 100000 in
theorem verifies_lifted (os : Os) (started : os.Started) (H : Type) (enc : TypeId × Value → H) :
    ReturnsInHanded {} Try.checked os 3 .any (Rows.lpVerifiesSpec.pre6 enc Try.prog Try.f3 Rows.lpVerifiesRow.domain false) (Rows.lpVerifiesSpec.post enc Try.prog Try.f3 false true false false) := by
  refine returnsInHanded_of_change_sized (C := Try.checked) own started (by kernel_rfl) Try.func3
    (ChangeSpec.witness6 (enc := enc) (C := Try.checked) false ⟨#[], #[zeroLp, zeroR], []⟩ 8 (by kernel_rfl) (by kernel_rfl) (by kernel_rfl) (by kernel_rfl)) ?_
  intro W base args ds gs before hval hW _ hsz _
  exact verifies_contract H enc W base args ds gs before hval hW hsz

theorem lpVerifies_holds : Rows.LpVerifiesSaid :=
  OpenClaim.holds_of_wide 3 Try.f3 rfl rfl rfl rfl rfl rfl rfl ⟨rfl, rfl, rfl, rfl, rfl⟩ rfl rfl rfl rfl rfl (by kernel_rfl) Try.func3 (by kernel_rfl)
    (of_decide_eq_true (by kernel_rfl)) (by unfold Func.isWrapper; first | (rw [if_pos (by decide +kernel)]; kernel_rfl) | (rw [if_neg (by decide +kernel)]; exact ⟨rfl, rfl⟩))
    (fun os started H enc _ => verifies_lifted os started H enc)
#print axioms lpVerifies_holds
end Go.Proofs.Ytdbkhecnkhjhpaa
