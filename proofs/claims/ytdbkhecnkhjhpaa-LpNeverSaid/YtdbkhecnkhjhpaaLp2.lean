/- Which programs are valid. -/
import Derived.Test.YtdbkhecnkhjhpaaLp1
namespace Go.Proofs.Ytdbkhecnkhjhpaa
open Go Go.Ai
set_option linter.unusedSimpArgs false
set_option linter.unusedVariables false
attribute [local instance] Classical.propDecidable
variable {E : Env} (hE : LpE E)

/-- A linear program in memory. -/
structure LpAt (h : List O) (v : Value) (A : List (List Int)) (B C : List Int) : Prop where
  out : ∃ vA vB vC, v = .agg #[vA, vB, vC] ∧ Mat h vA A ∧ Ints h vB B ∧ Ints h vC C
theorem LpAt.ext {h h' : List O} {v : Value} {A : List (List Int)} {B C : List Int} (hp : LpAt h v A B C) (k : Ext h h') : LpAt h' v A B C := by
  obtain ⟨vA, vB, vC, h1, h2, h3, h4⟩ := hp.out
  exact ⟨vA, vB, vC, h1, h2.ext k, h3.ext k, h4.ext k⟩

def Valid (A : List (List Int)) (B C : List Int) : Prop :=
  A.length ≤ 60 ∧ B.length = A.length ∧ 1 ≤ C.length ∧ C.length ≤ 60 ∧ Within B 1000000 ∧ Within C 1000000 ∧ ∀ i, i < A.length → (nthR A i).length = C.length ∧ Within (nthR A i) 1000000

include hE
theorem check24 {h : List O} {v : Value} {A : List (List Int)} {B C : List Int} (hp : LpAt h v A B C) :
    DR E 24 [v] ⟨h, h.length⟩ (.ret (.int .i64 (if Valid A B C then 0 else 120))) ⟨h, h.length⟩ := by
  refine hE.fn (body := rb24) rfl (by decide) ?_
  unfold rb24
  rw [DW_seq, DW_ops]
  refine DL_boxed fun h' p hx hlen hp0 hb => ?_
  obtain ⟨vA, vB, vC, rfl, hA, hB, hC⟩ := (hp.ext hx).out
  simp at hb
  have r0 := hb.rd 0
  have r1 := hb.rd 1
  have r2 := hb.rd 2
  simp at r0 r1 r2
  have lB := large42 hE hB
  have lC := large42 hE hC
  obtain ⟨aA, bA, oA, cA, vs, rfl, hA2, hA3, hA4⟩ := hA
  obtain ⟨aB, bB, oB, cB, rfl, hB2, hB3, hB4, hB5⟩ := hB
  obtain ⟨aC, bC, oC, cC, rfl, hC2, hC3, hC4, hC5⟩ := hC
  have inv : ∀ {P : Prop}, (Valid A B C → P) → ¬ P → ¬ Valid A B C := fun h k v => k (h v)
  by_cases c1 : (60:Int) < A.length
  · have hv := inv (fun v => v.1) (by omega)
    simp [r0, r1, r2, c1, hv]
  by_cases c2 : ¬ B.length = A.length
  · have hv := inv (fun v => v.2.1) c2
    simp [r0, r1, r2, c1, c2, hv]
  replace c2 := eq_true (Classical.not_not.1 c2)
  by_cases c3 : (C.length:Int) < 1
  · have hv := inv (fun v => v.2.2.1) (by omega)
    simp [r0, r1, r2, c1, c2, c3, hv]
  by_cases c4 : (60:Int) < C.length
  · have hv := inv (fun v => v.2.2.2.1) (by omega)
    simp [r0, r1, r2, c1, c2, c3, c4, hv]
  by_cases c5 : ¬ Within B 1000000
  · have hv := inv (fun v => v.2.2.2.2.1) c5
    simp [r0, r1, r2, c1, c2, c3, c4, DC_of lB, c5, hv]
  replace c5 := Classical.not_not.1 c5
  by_cases c6 : ¬ Within C 1000000
  · have hv := inv (fun v => v.2.2.2.2.2.1) c6
    simp [r0, r1, r2, c1, c2, c3, c4, DC_of lB, DC_of lC, c5, c6, hv]
  replace c6 := Classical.not_not.1 c6
  simp [r0, r1, r2, c1, c2, c3, c4, DC_of lB, DC_of lC, c5, c6]
  refine DW_loop (fun k fr st => ∃ i : Nat, i + k = A.length ∧ st = ⟨h', h.length⟩ ∧ get fr 1 = .pointer (some ⟨p, 0, none⟩) ∧ get fr 3 = .func (.func 42) #[] #[] ∧ get fr 44 = .slice aA A.length cA ∧ get fr 45 = .int .i64 A.length ∧ get fr 46 = .int .i64 i ∧ ∀ j, j < i → (nthR A j).length = C.length ∧ Within (nthR A j) 1000000) ?_ (k := A.length) ?_
  · rintro k fr st ⟨i, hi, rfl, g1, g3, g44, g45, g46, hall⟩
    by_cases hlt : i < A.length
    · obtain rfl := hA2 (by omega)
      obtain ⟨hr, hI⟩ := hA3 i hlt
      have lI := large42 hE hI
      obtain ⟨aI, bI, oI, cI, hvs, hI2, hI3, hI4, hI5⟩ := hI
      rw [hvs] at hr lI
      by_cases c7 : ¬ (nthR A i).length = C.length
      · have hv := inv (fun v => (v.2.2.2.2.2.2 i hlt).1) c7
        simp [g1, g3, g44, g45, g46, hlt, hr, r2, c7, hv]
      replace c7 := eq_true (Classical.not_not.1 c7)
      by_cases c8 : ¬ Within (nthR A i) 1000000
      · have hv := inv (fun v => (v.2.2.2.2.2.2 i hlt).2) c8
        simp [g1, g3, g44, g45, g46, hlt, hr, r2, c7, DC_of lI, c8, hv]
      replace c8 := Classical.not_not.1 c8
      simp [g1, g3, g44, g45, g46, hlt, hr, r2, c7, DC_of lI, c8]
      refine ⟨k - 1, by omega, i + 1, by omega, by rw [w64_id] <;> omega, fun j hj => ?_⟩
      rcases Nat.lt_succ_iff_lt_or_eq.1 hj with hj | rfl
      · exact hall j hj
      · exact ⟨of_eq_true c7, c8⟩
    · have : i = A.length := by omega
      have hv : Valid A B C := ⟨by omega, of_eq_true c2, by omega, by omega, c5, c6, fun j hj => hall j (by omega)⟩
      simp [g1, g3, g44, g45, g46, hlt, hv]
  · exact ⟨0, by simp⟩

theorem check15 {h : List O} {v : Value} {A : List (List Int)} {B C : List Int} (hp : LpAt h v A B C) :
    DR E 15 [v] ⟨h, h.length⟩ (.ret (.int .i64 (if Valid A B C then 0 else 120))) ⟨h, h.length⟩ := by
  refine hE.fn (body := rb15) rfl (by decide) ?_
  unfold rb15
  rw [DW_seq, DW_ops]
  refine DL_boxed fun h' p hx hlen hp0 hb => ?_
  obtain ⟨vA, vB, vC, rfl, hA, hB, hC⟩ := (hp.ext hx).out
  simp at hb
  have r0 := hb.rd 0
  have r1 := hb.rd 1
  have r2 := hb.rd 2
  simp at r0 r1 r2
  have lB := within33 hE hB (m := 1000000) (by decide)
  have lC := within33 hE hC (m := 1000000) (by decide)
  obtain ⟨aA, bA, oA, cA, vs, rfl, hA2, hA3, hA4⟩ := hA
  obtain ⟨aB, bB, oB, cB, rfl, hB2, hB3, hB4, hB5⟩ := hB
  obtain ⟨aC, bC, oC, cC, rfl, hC2, hC3, hC4, hC5⟩ := hC
  have inv : ∀ {P : Prop}, (Valid A B C → P) → ¬ P → ¬ Valid A B C := fun h k v => k (h v)
  by_cases c1 : (60:Int) < A.length
  · have hv := inv (fun v => v.1) (by omega)
    simp [r0, r1, r2, c1, hv]
  by_cases c2 : ¬ B.length = A.length
  · have hv := inv (fun v => v.2.1) c2
    simp [r0, r1, r2, c1, c2, hv]
  replace c2 := eq_true (Classical.not_not.1 c2)
  by_cases c3 : (C.length:Int) < 1
  · have hv := inv (fun v => v.2.2.1) (by omega)
    simp [r0, r1, r2, c1, c2, c3, hv]
  by_cases c4 : (60:Int) < C.length
  · have hv := inv (fun v => v.2.2.2.1) (by omega)
    simp [r0, r1, r2, c1, c2, c3, c4, hv]
  by_cases c5 : ¬ Within B 1000000
  · have hv := inv (fun v => v.2.2.2.2.1) c5
    simp [r0, r1, r2, c1, c2, c3, c4, DC_of lB, c5, hv]
  replace c5 := Classical.not_not.1 c5
  by_cases c6 : ¬ Within C 1000000
  · have hv := inv (fun v => v.2.2.2.2.2.1) c6
    simp [r0, r1, r2, c1, c2, c3, c4, DC_of lB, DC_of lC, c5, c6, hv]
  replace c6 := Classical.not_not.1 c6
  simp [r0, r1, r2, c1, c2, c3, c4, DC_of lB, DC_of lC, c5, c6]
  refine DW_loop (fun k fr st => ∃ i : Nat, i + k = A.length ∧ st = ⟨h', h.length⟩ ∧ get fr 1 = .pointer (some ⟨p, 0, none⟩) ∧ get fr 3 = .int .i64 C.length ∧ get fr 4 = .int .i64 i ∧ ∀ j, j < i → (nthR A j).length = C.length ∧ Within (nthR A j) 1000000) ?_ (k := A.length) ?_
  · rintro k fr st ⟨i, hi, rfl, g1, g3, g4, hall⟩
    by_cases hlt : i < A.length
    · obtain rfl := hA2 (by omega)
      obtain ⟨hr, hI⟩ := hA3 i hlt
      have lI := within33 hE hI (m := 1000000) (by decide)
      obtain ⟨aI, bI, oI, cI, hvs, hI2, hI3, hI4, hI5⟩ := hI
      rw [hvs] at hr lI
      by_cases c7 : ¬ (nthR A i).length = C.length
      · have hv := inv (fun v => (v.2.2.2.2.2.2 i hlt).1) c7
        simp [g1, g3, g4, hlt, hr, r0, r2, c7, hv]
      replace c7 := eq_true (Classical.not_not.1 c7)
      by_cases c8 : ¬ Within (nthR A i) 1000000
      · have hv := inv (fun v => (v.2.2.2.2.2.2 i hlt).2) c8
        simp [g1, g3, g4, hlt, hr, r0, r2, c7, DC_of lI, c8, hv]
      replace c8 := Classical.not_not.1 c8
      simp [g1, g3, g4, hlt, hr, r0, r2, c7, DC_of lI, c8]
      refine ⟨k - 1, by omega, i + 1, by omega, by rw [w64_id] <;> omega, fun j hj => ?_⟩
      rcases Nat.lt_succ_iff_lt_or_eq.1 hj with hj | rfl
      · exact hall j hj
      · exact ⟨of_eq_true c7, c8⟩
    · have : i = A.length := by omega
      have hv : Valid A B C := ⟨by omega, of_eq_true c2, by omega, by omega, c5, c6, fun j hj => hall j (by omega)⟩
      simp [g1, g3, g4, r0, hlt, hv]
  · exact ⟨0, by simp⟩
end Go.Proofs.Ytdbkhecnkhjhpaa
