/- What comes in: readings of the laws' arguments. -/
import Derived.Test.YtjlkndkedknocaaMi
import Derived.Test.YtjlkndkedknocaaMe
import Derived.Test.YtjlkndkedknocaaOr1m
import Derived.Test.YtjlkndkedknocaaRows
import Derived.WalkKit
import Derived.ProofKit
import Derived.OpenShut
import Derived.SizedLaws
namespace Go.Proofs.Ytjlkndkedknocaa
open Go Go.Ai Go.ChangeShapes Go.WideShapes Go.ChangeAt Go.RowKit
set_option linter.unusedSimpArgs false
set_option linter.unusedVariables false
set_option maxRecDepth 4000
def crossSh : List Sh := [.int .i64, .int .i64, .int .i64, .int .i64, .int .i64]
def diagSh : List Sh := [.slice crossSh, .int .i64]
theorem shapesD : shapes Try.prog 8 24 = some diagSh := by kernel_rfl
theorem shapesI : shapes Try.prog 8 3 = some [.int .i64] := by kernel_rfl
theorem own : ownKnob Try.prog.godebug = none := by kernel_rfl
theorem int_of {h : List O} {v : Value} (hf : Fits h (.int .i64) v) : ∃ x, v = .int .i64 x ∧ I64 x := by
  cases hf with
  | int hw =>
    rename_i y
    refine ⟨y, rfl, ?_⟩
    have : -9223372036854775808 ≤ y ∧ y ≤ 9223372036854775807 := by simpa [Lit.wf, IntKind.min, IntKind.max, IntKind.signed, IntKind.bits] using hw
    exact this
def intOf : Option Value → Int
  | some (.int _ x) => x
  | _ => 0
theorem cross_of {h : List O} {v : Value} (hf : Fits h (.slice crossSh) v) : ∃ a n c x s, v = .slice a n c ∧ CrossP h a n x s ∧ n * 40 ≤ roomMax := by
  cases hf with
  | slice b o vs hn ha hr hv =>
    rename_i a n c
    have key : ∀ i, i < n → ∃ x0 x1 x2 x3 s, vs i = [.int .i64 x0, .int .i64 x1, .int .i64 x2, .int .i64 x3, .int .i64 s] := fun i hi => by
      have h1 := hr i hi
      have hl : (vs i).length = 5 := by
        obtain ⟨c, el, ow, _, h2, h3⟩ := rdN_block h1
        rw [h3]
        simp [crossSh] at h2 ⊢
        omega
      match hvi : vs i, hl with
      | [v0, v1, v2, v3, v4], _ =>
        obtain ⟨x0, rfl, _⟩ := int_of (hv i 0 _ v0 hi rfl (by rw [hvi]; rfl))
        obtain ⟨x1, rfl, _⟩ := int_of (hv i 1 _ v1 hi rfl (by rw [hvi]; rfl))
        obtain ⟨x2, rfl, _⟩ := int_of (hv i 2 _ v2 hi rfl (by rw [hvi]; rfl))
        obtain ⟨x3, rfl, _⟩ := int_of (hv i 3 _ v3 hi rfl (by rw [hvi]; rfl))
        obtain ⟨s, rfl, _⟩ := int_of (hv i 4 _ v4 hi rfl (by rw [hvi]; rfl))
        exact ⟨x0, x1, x2, x3, s, rfl⟩
    refine ⟨a, n, c, fun i j => intOf (vs i)[j]?, fun i => intOf (vs i)[4]?, rfl, ⟨b, o, ha, fun i hi => ?_⟩, ?_⟩
    · obtain ⟨x0, x1, x2, x3, s, e⟩ := key i hi
      have h1 := hr i hi
      rw [show crossSh.length = 5 from rfl] at h1
      rw [h1]
      simp only [crossC, e]
      rfl
    · have h0 := hn.1
      simp [reachBytes, szB, crossSh, roomMax] at h0 ⊢
      omega
theorem diag_of {h : List O} {cs : List Value} (hf : FitsL h diagSh cs) : ∃ a n c x s L, cs = [.slice a n c, .int .i64 L] ∧ CrossP h a n x s ∧ n * 40 ≤ roomMax := by
  obtain ⟨hl, hv⟩ := hf
  match cs, hl with
  | [v, l], _ =>
    obtain ⟨a, n, c, x, s, rfl, h1, h2⟩ := cross_of (hv 0 _ v rfl rfl)
    obtain ⟨L, rfl, _⟩ := int_of (hv 1 _ l rfl rfl)
    exact ⟨a, n, c, x, s, L, rfl, h1, h2⟩
/-- A struct that came in. -/
theorem arg_of {H : Type} {enc : TypeId × Value → H} {W : World} {base : Nat} {t : TypeId} {fs : Array Field} {v : Value} {d : DataW H} {ps : List MemPlace} {shs : List Sh} (ht : Try.prog.underlying t = some (.struct fs)) (hsh : shapes Try.prog 8 t = some shs)
    (hok : Value.okWide Try.prog W .any base t v) (h : DataW.Trod enc Try.prog W 0 (fun _ => true) true t v d ps) (hw : ∀ n ∈ d.weights Try.prog t, n ≤ reachBytes) :
    ∃ cs, v = .agg cs ∧ Canon W shs cs.toList := by
  obtain ⟨fuel, hx⟩ := h
  have hok' : ∃ cs, v = .agg cs ∧ cs.size = Try.prog.cellsOf t ∧ Row.okWide Try.prog W .any base t cs := by
    unfold Value.okWide at hok
    rw [ht] at hok
    exact hok
  obtain ⟨cs, rfl, _⟩ := hok'
  exact ⟨cs, rfl, canon 8 fuel t _ (d, ps) shs hsh hx hw⟩
/-- A list or a number that came in. -/
theorem arg1_of {H : Type} {enc : TypeId × Value → H} {W : World} {base : Nat} {t : TypeId} {v : Value} {d : DataW H} {ps : List MemPlace} {sh : Sh} (ht : (∃ e, Try.prog.underlying t = some (.slice e)) ∨ ∃ k, Try.prog.underlying t = some (.int k)) (hsh : shapes Try.prog 8 t = some [sh])
    (hok : Value.okWide Try.prog W .any base t v) (h : DataW.Trod enc Try.prog W 0 (fun _ => true) true t v d ps) (hw : ∀ n ∈ d.weights Try.prog t, n ≤ reachBytes) :
    Canon W [sh] [v] := by
  obtain ⟨fuel, hx⟩ := h
  have hv : v.cells.toList = [v] := by
    unfold Value.okWide at hok
    rcases ht with ⟨e, ht⟩ | ⟨k, ht⟩
    · rw [ht] at hok
      simp only [Cell.okWide, ht] at hok
      cases v <;> first | rfl | (exfalso; simp [Cell.ok, ht] at hok)
    · rw [ht] at hok
      simp only [Cell.okWide, ht] at hok
      cases v <;> first | rfl | (exfalso; simp [Cell.ok, ht] at hok)
  rw [hv] at hx
  exact canon 8 fuel t _ (d, ps) [sh] hsh hx hw
theorem single_of {ρ : RM} {h : List O} {sh : Sh} {cs : List Value} {v : Value} (hr : LRel ρ cs [v]) (hf : FitsL h [sh] cs) : ∃ w, cs = [w] ∧ VRel ρ w v ∧ Fits h sh w := by
  obtain ⟨hl, hv⟩ := hf
  match cs, hl with
  | [w], _ => exact ⟨w, rfl, hr.2 0 w v rfl rfl, hv 0 _ _ rfl rfl⟩
theorem start (W : World) : SRel W.heap.size (fun _ => none) W ⟨[], 0⟩ :=
  ⟨⟨Nat.le_refl _, fun id l h => by simp at h, fun id l h => by simp at h, fun id l h => by simp at h, fun i j li lj _ h => by simp at h⟩, fun id l h => by simp at h⟩
def zeroD : Value := .agg #[.slice none 0 0, .int .i64 0]
end Go.Proofs.Ytjlkndkedknocaa
