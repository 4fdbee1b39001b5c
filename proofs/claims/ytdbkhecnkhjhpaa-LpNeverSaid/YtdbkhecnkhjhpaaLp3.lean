/- Columns, solutions, equal products: what the functions return. -/
import Derived.Test.YtdbkhecnkhjhpaaLp2
import Derived.Test.YtdbkhecnkhjhpaaAiY
namespace Go.Proofs.Ytdbkhecnkhjhpaa
open Go Go.Ai
set_option linter.unusedSimpArgs false
set_option linter.unusedVariables false
attribute [local instance] Classical.propDecidable
variable {E : Env} (hE : LpE E)

def colL (A : List (List Int)) (j : Nat) : List Int := (List.range A.length).map fun i => nth (nthR A i) j
theorem nth_colL {A : List (List Int)} {j i : Nat} (hi : i < A.length) : nth (colL A j) i = nth (nthR A i) j := by simp [nth, colL, hi]
@[simp] theorem length_colL {A : List (List Int)} {j : Nat} : (colL A j).length = A.length := by simp [colL]
def colN (A : List (List Int)) (j n : Nat) : List Int := (List.range n).map fun i => nth (nthR A i) j

/-- Every row is as long. -/
def Rect (A : List (List Int)) (n : Nat) : Prop := ∀ i, i < A.length → (nthR A i).length = n

include hE
theorem column49 {h : List O} {v : Value} {A : List (List Int)} {B C : List Int} {j : Nat} (hp : LpAt h v A B C) (hA : Rect A C.length) (hl : A.length ≤ 60) (hj : j < C.length) :
    DC E 49 [v, .int .i64 j] ⟨h, h.length⟩ fun o st => ∃ v', o = .ret v' ∧ Ext h st.h ∧ st.fl = h.length ∧ Ints st.h v' (colL A j) := by
  refine hE.fnC (body := rb49) rfl (by decide) ?_
  unfold rb49
  rw [DW_seq, DW_ops]
  refine DL_boxed fun h' p hx hlen hp0 hb => ?_
  obtain ⟨vA, vB, vC, rfl, hA1, hB, hC⟩ := (hp.ext hx).out
  simp at hb
  have r0 := hb.rd 0
  simp at r0
  obtain ⟨aA, bA, oA, cA, vs, rfl, hA2, hA3, hA4⟩ := hA1
  simp [r0]
  refine DW_loop (fun k fr st => ∃ i : Nat, i + k = A.length ∧ st.fl = h.length ∧ Ext h' st.h ∧ get fr 1 = .int .i64 j ∧ get fr 9 = .slice aA A.length cA ∧ get fr 10 = .int .i64 A.length ∧ get fr 11 = .int .i64 i ∧ OwnS st.h h'.length (get fr 5) i ((colN A j i).map (.int .i64)) 3 1) ?_ (k := A.length) ?_
  · rintro k fr ⟨H, f⟩ ⟨i, hi, hf, hH, g1, g9, g10, g11, g5⟩
    simp at hf hH g5
    subst hf
    by_cases hlt : i < A.length
    · obtain rfl := hA2 (by omega)
      obtain ⟨hr, hI⟩ := hA3 i hlt
      obtain ⟨aI, bI, oI, cI, hvs, hI2, hI3, hI4, hI5⟩ := hI
      rw [hvs] at hr
      have hjl : j < (nthR A i).length := by rw [hA i hlt]; exact hj
      obtain rfl := hI2 (by omega)
      have hr' := hH.rd hr
      have hx' := hH.rd (hI3 j hjl)
      obtain ⟨v', H', e1, e2, e3⟩ := append_own (H := H ++ [.cells [.int .i64 (nth (nthR A i) j)] 3 (some 0)]) (n := 1) (fl := h.length) (c := 1) (bytes := 8) (xb := some ⟨H.length, 0, none⟩) (new := [.int .i64 (nth (nthR A i) j)]) (g5.ext (Ext.snoc _ _)) (by simp [readSlice]) rfl rfl (hH.trans (Ext.snoc _ _)) rfl (by omega) (by simp [roomMax]; omega) (by omega)
      simp [g1, g9, g10, g11, hlt, hr', hjl, hx', fillL, setL, e1]
      refine ⟨k - 1, by omega, i + 1, by omega, e3, by rw [w64_id] <;> omega, ?_⟩
      have : (colN A j (i + 1)).map (Value.int .i64) = (colN A j i).map (Value.int .i64) ++ [.int .i64 (nth (nthR A i) j)] := by
        simp [colN, List.range_succ]
      rw [this]; exact e2
    · have : i = A.length := by omega
      subst this
      rw [show colN A j A.length = colL A j from rfl] at g5
      have hI : Ints H (get fr 5) (colL A j) := by
        refine g5.ints (fun i => ?_) hA4
        by_cases hi : i < A.length
        · rw [nth_colL hi]
          obtain ⟨_, _, _, _, _, _, _, h4, _⟩ := (hA3 i hi).2
          exact h4 j
        · rw [nth_ge (by simp; omega)]; exact ⟨by omega, by omega⟩
      simp [g1, g9, g10, g11]
      by_cases hs : (Out.ret (get fr 5)).scalar = true ∧ h.length ≤ h.length
      · -- the nil slice: the memory is forgotten
        have hnil : get fr 5 = .slice none 0 0 ∧ A.length = 0 := by
          rcases g5.2 with h1 | ⟨b, s, h1, _⟩
          · exact h1
          · rw [h1] at hs; simp [Out.scalar, scalar, flat1, flat] at hs
        rw [back_scalar hs.1 hs.2, hnil.1]
        refine ⟨_, rfl, Ext.refl _, rfl, ?_⟩
        have : colL A j = [] := by simp [colL, hnil.2]
        rw [this]; exact Ints.nil
      · have hb' : back ⟨h, h.length⟩ (.ret (get fr 5)) ⟨H, h.length⟩ = (.ret (get fr 5), ⟨H, h.length⟩) := by
          unfold back
          rw [if_neg (by simpa using hs)]
        rw [hb']
        exact ⟨_, rfl, hx.trans hH, rfl, hI⟩
  · exact ⟨0, by simp, by simp, by simp [Ext.refl], by simp, by simp, by simp, by simp, by simp [colN]; exact OwnS.nil _ _ _ _⟩

omit hE in
theorem Within.all {xs : List Int} {m : Int} (h : Within xs m) (hm : 0 ≤ m) (i : Nat) : -m ≤ nth xs i ∧ nth xs i ≤ m := by
  by_cases hi : i < xs.length
  · exact h i hi
  · rw [nth_ge (by omega)]; omega
omit hE in
theorem dotZ_bound {xs ys : List Int} {a b : Int} {n : Nat} (ha : Within xs a) (hb : Within ys b) (h1 : 0 ≤ a) (h2 : 0 ≤ b) : -(n * (a * b)) ≤ dotZ xs ys n ∧ dotZ xs ys n ≤ n * (a * b) :=
  sumN_bound fun i _ => mul_bound (ha.all h1 i) (hb.all h2 i)
omit hE in
theorem dot_small {xs ys : List Int} {n : Nat} (ha : Within xs 1000000) (hb : Within ys 1073741824) (hn : n ≤ 60) : -64424509440000000 ≤ dotZ xs ys n ∧ dotZ xs ys n ≤ 64424509440000000 := by
  have := dotZ_bound (n := n) ha hb (by omega) (by omega)
  have h3 : (n : Int) * (1000000 * 1073741824) ≤ 60 * (1000000 * 1073741824) := Int.mul_le_mul_of_nonneg_right (by omega) (by omega)
  omega
omit hE in
theorem dot_small' {xs ys : List Int} {n : Nat} (ha : Within xs 1073741824) (hb : Within ys 1000000) (hn : n ≤ 60) : -64424509440000000 ≤ dotZ xs ys n ∧ dotZ xs ys n ≤ 64424509440000000 := by
  have := dotZ_bound (n := n) ha hb (by omega) (by omega)
  have h3 : (n : Int) * (1073741824 * 1000000) ≤ 60 * (1073741824 * 1000000) := Int.mul_le_mul_of_nonneg_right (by omega) (by omega)
  omega

/-- x over the denominator is a solution. -/
def IsSol (A : List (List Int)) (B C X : List Int) (xd : Int) : Prop := 1 ≤ xd ∧ X.length = C.length ∧ Pos X ∧ ∀ i, i < A.length → dotZ (nthR A i) X C.length = xd * nth B i

theorem isSolution48 {h : List O} {v vX : Value} {A : List (List Int)} {B C X : List Int} {xd : Int} (hp : LpAt h v A B C) (hX : Ints h vX X) (hv : Valid A B C) (hW : Within X 1073741824) (hd : -1073741824 ≤ xd ∧ xd ≤ 1073741824) :
    DR E 48 [v, vX, .int .i64 xd] ⟨h, h.length⟩ (.ret (.bool (decide (IsSol A B C X xd)))) ⟨h, h.length⟩ := by
  refine hE.fn (body := rb48) rfl (by decide) ?_
  unfold rb48
  rw [DW_seq, DW_ops]
  refine DL_boxed fun h' p hx hlen hp0 hb => ?_
  obtain ⟨vA, vB, vC, rfl, hA1, hB, hC⟩ := (hp.ext hx).out
  replace hX := hX.ext hx
  simp at hb
  have r0 := hb.rd 0
  have r1 := hb.rd 1
  have r2 := hb.rd 2
  simp at r0 r1 r2
  obtain ⟨v1, v2, v3, v4, v5, v6, v7⟩ := hv
  have lX := contains43 hE (caps := []) hX fun x => c65 hE
  have hX0 := hX
  obtain ⟨aA, bA, oA, cA, vs, rfl, hA2, hA3, hA4⟩ := hA1
  obtain ⟨aB, bB, oB, cB, rfl, hB2, hB3, hB4, hB5⟩ := hB
  obtain ⟨aC, bC, oC, cC, rfl, hC2, hC3, hC4, hC5⟩ := hC
  obtain ⟨aX, bX, oX, cX, rfl, hX2, hX3, hX4, hX5⟩ := hX
  have inv : ∀ {P : Prop}, (IsSol A B C X xd → P) → ¬ P → ¬ IsSol A B C X xd := fun h k v => k (h v)
  have lneg : (∃ i, i < X.length ∧ decide (nth X i < 0) = true) ↔ ¬ Pos X := by
    simp only [decide_eq_true_eq, Pos]
    constructor
    · rintro ⟨i, h1, h2⟩ h3; have := h3 i h1; omega
    · intro h3; refine Classical.byContradiction fun hn => h3 fun i hi => Classical.byContradiction fun h => hn ⟨i, hi, by omega⟩
  rw [show decide (∃ i, i < X.length ∧ decide (nth X i < 0) = true) = decide (¬ Pos X) from decide_eq_decide.2 lneg] at lX
  by_cases c1 : xd < 1
  · have hv := inv (fun v => v.1) (by omega)
    simp [c1, hv]
  by_cases c2 : ¬ X.length = C.length
  · have hv := inv (fun v => v.2.1) c2
    simp [r0, r1, r2, c1, c2, hv]
  replace c2 := eq_true (Classical.not_not.1 c2)
  by_cases c3 : ¬ Pos X
  · have hv := inv (fun v => v.2.2.1) c3
    simp [r0, r1, r2, c1, c2, DC_of lX, c3, hv]
  replace c3 := Classical.not_not.1 c3
  simp [r0, r1, r2, c1, c2, DC_of lX, c3]
  refine DW_loop (fun k fr st => ∃ i : Nat, i + k = A.length ∧ st = ⟨h', h.length⟩ ∧ get fr 1 = .slice aX X.length cX ∧ get fr 2 = .int .i64 xd ∧ get fr 3 = .pointer (some ⟨p, 0, none⟩) ∧ get fr 24 = .slice aA A.length cA ∧ get fr 25 = .int .i64 A.length ∧ get fr 26 = .int .i64 i ∧ ∀ j, j < i → dotZ (nthR A j) X C.length = xd * nth B j) ?_ (k := A.length) ?_
  · rintro k fr st ⟨i, hi, rfl, g1, g2, g3, g24, g25, g26, hall⟩
    by_cases hlt : i < A.length
    · have eA := hA2 (by omega)
      have eB := hB2 (by omega)
      obtain ⟨hr, hI⟩ := hA3 i hlt
      obtain ⟨q1, q2⟩ := v7 i hlt
      have q3 := of_eq_true c2
      have ld := dot28 hE hI hX0 (by omega)
      have s1 := dot_small (n := (nthR A i).length) q2 hW (by omega)
      have s2 := v5 i (by omega)
      have s3 := mul_bound (a := 1073741824) (b := 1000000) hd s2
      have s5 : IntKind.i64.wrap (dotZ (nthR A i) X (nthR A i).length) = dotZ (nthR A i) X (nthR A i).length := w64_id (by omega) (by omega)
      rw [s5, q1] at ld
      have s4 : IntKind.i64.wrap (xd * nth B i) = xd * nth B i := w64_id (by omega) (by omega)
      by_cases c4 : dotZ (nthR A i) X C.length = xd * nth B i
      · simp [g1, g2, g3, g24, g25, g26, hlt, eA, hr, DC_of ld, r1, eB, hB3 i (by omega), show i < B.length by omega, s4, c4]
        refine ⟨k - 1, by omega, i + 1, by omega, by rw [w64_id] <;> omega, fun j hj => ?_⟩
        rcases Nat.lt_succ_iff_lt_or_eq.1 hj with hj | rfl
        · exact hall j hj
        · exact c4
      · have hv := inv (fun v => v.2.2.2 i hlt) c4
        simp [g1, g2, g3, g24, g25, g26, hlt, eA, hr, DC_of ld, r1, eB, hB3 i (by omega), show i < B.length by omega, s4, c4, hv]
    · have : i = A.length := by omega
      have hv : IsSol A B C X xd := ⟨by omega, of_eq_true c2, c3, fun j hj => hall j (by omega)⟩
      simp [g1, g2, g3, g24, g25, g26, hlt, hv]
  · exact ⟨0, by simp⟩
end Go.Proofs.Ytdbkhecnkhjhpaa
