/- What comes in: readings of the laws' arguments. -/
import Derived.Test.YtdbkhecnkhjhpaaBl
import Derived.Test.YtdbkhecnkhjhpaaBe
import Derived.Test.YtdbkhecnkhjhpaaRows
import Derived.WalkKit
import Derived.ProofKit
import Derived.OpenShut
import Derived.SizedLaws
namespace Go.Proofs.Ytdbkhecnkhjhpaa
open Go Go.Ai Go.ChangeShapes Go.WideShapes Go.ChangeAt Go.RowKit
set_option linter.unusedSimpArgs false
set_option linter.unusedVariables false

def lpSh : List Sh := [.slice [.slice [.int .i64]], .slice [.int .i64], .slice [.int .i64]]
def resSh : List Sh := [.int .i64, .slice [.int .i64], .int .i64, .slice [.int .i64], .int .i64, .slice [.int .i64]]
theorem shapes25 : shapes Try.prog 8 25 = some lpSh := by kernel_rfl
theorem shapes27 : shapes Try.prog 8 27 = some resSh := by kernel_rfl
theorem shapes23 : shapes Try.prog 8 23 = some [.slice [.int .i64]] := by kernel_rfl
theorem shapes3 : shapes Try.prog 8 3 = some [.int .i64] := by kernel_rfl
theorem own : ownKnob Try.prog.godebug = none := by kernel_rfl

theorem int_of {h : List O} {v : Value} (hf : Fits h (.int .i64) v) : ∃ x, v = .int .i64 x ∧ I64 x := by
  cases hf with
  | int hw =>
    rename_i y
    refine ⟨y, rfl, ?_⟩
    have : -9223372036854775808 ≤ y ∧ y ≤ 9223372036854775807 := by simpa [Lit.wf, IntKind.min, IntKind.max, IntKind.signed, IntKind.bits] using hw
    exact this
theorem lp_of {h : List O} {cs : List Value} (hf : FitsL h lpSh cs) : ∃ A B C vA vB vC, cs = [vA, vB, vC] ∧ LpAt h (.agg #[vA, vB, vC]) A B C ∧ PartOk h vB ∧ A.length * 24 ≤ roomMax ∧ (∀ i, i < A.length → (nthR A i).length * 8 ≤ roomMax) ∧ B.length * 8 ≤ roomMax ∧ C.length * 8 ≤ roomMax := by
  obtain ⟨hl, hv⟩ := hf
  match cs, hl with
  | [a, b, c], _ =>
    have fA := hv 0 _ a rfl rfl
    have fB := hv 1 _ b rfl rfl
    have fC := hv 2 _ c rfl rfl
    obtain ⟨A, hA⟩ := mat_of fA
    obtain ⟨B, hB⟩ := ints_of fB
    obtain ⟨C, hC⟩ := ints_of fC
    obtain ⟨m1, m2⟩ := mat_room fA hA
    obtain ⟨m3, m4⟩ := ints_room fB hB
    exact ⟨A, B, C, a, b, c, rfl, ⟨a, b, c, rfl, hA, hB, hC⟩, m4, m1, m2, m3, (ints_room fC hC).1⟩
theorem res_of {h : List O} {cs : List Value} (hf : FitsL h resSh cs) : ∃ k X xd Y yd R, ResAt h (.agg cs.toArray) k X xd Y yd R ∧ X.length * 8 ≤ roomMax ∧ Y.length * 8 ≤ roomMax ∧ R.length * 8 ≤ roomMax := by
  obtain ⟨hl, hv⟩ := hf
  match cs, hl with
  | [k, x, xd, y, yd, r], _ =>
    obtain ⟨k, rfl, hk⟩ := int_of (hv 0 _ k rfl rfl)
    obtain ⟨X, hX⟩ := ints_of (hv 1 _ x rfl rfl)
    obtain ⟨xd, rfl, hxd⟩ := int_of (hv 2 _ xd rfl rfl)
    obtain ⟨Y, hY⟩ := ints_of (hv 3 _ y rfl rfl)
    obtain ⟨yd, rfl, hyd⟩ := int_of (hv 4 _ yd rfl rfl)
    obtain ⟨R, hR⟩ := ints_of (hv 5 _ r rfl rfl)
    exact ⟨k, X, xd, Y, yd, R, ⟨x, y, r, rfl, hX, hY, hR, hk, hxd, hyd⟩, (ints_room (hv 1 _ x rfl rfl) hX).1, (ints_room (hv 3 _ y rfl rfl) hY).1, (ints_room (hv 5 _ r rfl rfl) hR).1⟩

/-- A struct that came in. -/
theorem arg_of {H : Type} {enc : TypeId × Value → H} {W : World} {base : Nat} {t : TypeId} {fs : Array Field} {v : Value} {d : DataW H} {ps : List MemPlace} {shs : List Sh} (ht : Try.prog.underlying t = some (.struct fs)) (hsh : shapes Try.prog 8 t = some shs)
    (hok : Value.okWide Try.prog W .any base t v) (h : DataW.Trod enc Try.prog W 0 (fun _ => true) true t v d ps) (hw : ∀ n ∈ d.weights Try.prog t, n ≤ reachBytes) :
    ∃ cs, v = .agg cs ∧ Canon W shs cs.toList := by
  obtain ⟨fuel, hx⟩ := h
  have hok' : ∃ cs, v = .agg cs ∧ cs.size = Try.prog.cellsOf t ∧ Row.okWide Try.prog W .any base t cs := by
    unfold Value.okWide at hok
    rw [ht] at hok
    exact hok
  obtain ⟨cs, rfl, _⟩ := hok'
  exact ⟨cs, rfl, canon 8 fuel t _ (d, ps) shs hsh hx hw⟩
/-- A list or a number that came in. -/
theorem arg1_of {H : Type} {enc : TypeId × Value → H} {W : World} {base : Nat} {t : TypeId} {v : Value} {d : DataW H} {ps : List MemPlace} {sh : Sh} (ht : (∃ e, Try.prog.underlying t = some (.slice e)) ∨ ∃ k, Try.prog.underlying t = some (.int k)) (hsh : shapes Try.prog 8 t = some [sh])
    (hok : Value.okWide Try.prog W .any base t v) (h : DataW.Trod enc Try.prog W 0 (fun _ => true) true t v d ps) (hw : ∀ n ∈ d.weights Try.prog t, n ≤ reachBytes) :
    Canon W [sh] [v] := by
  obtain ⟨fuel, hx⟩ := h
  have hv : v.cells.toList = [v] := by
    unfold Value.okWide at hok
    rcases ht with ⟨e, ht⟩ | ⟨k, ht⟩
    · rw [ht] at hok
      simp only [Cell.okWide, ht] at hok
      cases v <;> first | rfl | (exfalso; simp [Cell.ok, ht] at hok)
    · rw [ht] at hok
      simp only [Cell.okWide, ht] at hok
      cases v <;> first | rfl | (exfalso; simp [Cell.ok, ht] at hok)
  rw [hv] at hx
  exact canon 8 fuel t _ (d, ps) [sh] hsh hx hw

theorem single_of {ρ : RM} {h : List O} {sh : Sh} {cs : List Value} {v : Value} (hr : LRel ρ cs [v]) (hf : FitsL h [sh] cs) : ∃ w, cs = [w] ∧ VRel ρ w v ∧ Fits h sh w := by
  obtain ⟨hl, hv⟩ := hf
  match cs, hl with
  | [w], _ => exact ⟨w, rfl, hr.2 0 w v rfl rfl, hv 0 _ _ rfl rfl⟩
theorem start (W : World) : SRel W.heap.size (fun _ => none) W ⟨[], 0⟩ :=
  ⟨⟨Nat.le_refl _, fun id l h => by simp at h, fun id l h => by simp at h, fun id l h => by simp at h, fun i j li lj _ h => by simp at h⟩, fun id l h => by simp at h⟩
def zeroLp : Value := .agg #[.slice none 0 0, .slice none 0 0, .slice none 0 0]
def zeroR : Value := .agg #[.int .i64 0, .slice none 0 0, .int .i64 0, .slice none 0 0, .int .i64 0, .slice none 0 0]
end Go.Proofs.Ytdbkhecnkhjhpaa
