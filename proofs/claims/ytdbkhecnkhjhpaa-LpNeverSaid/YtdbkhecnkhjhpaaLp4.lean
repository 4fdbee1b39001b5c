/- The reference's solutions; products of two words. -/
import Derived.Test.YtdbkhecnkhjhpaaLp3
namespace Go.Proofs.Ytdbkhecnkhjhpaa
open Go Go.Ai
set_option linter.unusedSimpArgs false
set_option linter.unusedVariables false
attribute [local instance] Classical.propDecidable
variable {E : Env} (hE : LpE E)
include hE

theorem leads63 {h : List O} {v vX : Value} {A : List (List Int)} {B C X : List Int} {xd : Int} (hp : LpAt h v A B C) (hX : Ints h vX X) (hv : Valid A B C) (hl : X.length = C.length) (hW : Within X 1073741824) (hd : -1073741824 ≤ xd ∧ xd ≤ 1073741824) :
    DR E 63 [v, vX, .int .i64 xd] ⟨h, h.length⟩ (.ret (.bool (decide (∀ i, i < A.length → dotZ (nthR A i) X C.length = xd * nth B i)))) ⟨h, h.length⟩ := by
  refine hE.fn (body := rb63) rfl (by decide) ?_
  unfold rb63
  rw [DW_seq, DW_ops]
  refine DL_boxed fun h' p hx hlen hp0 hb => ?_
  obtain ⟨vA, vB, vC, rfl, hA1, hB, hC⟩ := (hp.ext hx).out
  replace hX := hX.ext hx
  simp at hb
  have r0 := hb.rd 0
  have r1 := hb.rd 1
  simp at r0 r1
  obtain ⟨v1, v2, v3, v4, v5, v6, v7⟩ := hv
  obtain ⟨aA, bA, oA, cA, vs, rfl, hA2, hA3, hA4⟩ := hA1
  obtain ⟨aB, bB, oB, cB, rfl, hB2, hB3, hB4, hB5⟩ := hB
  simp [r0, r1]
  refine DW_loop (fun k fr st => ∃ i : Nat, i + k = A.length ∧ st = ⟨h', h.length⟩ ∧ get fr 1 = vX ∧ get fr 2 = .int .i64 xd ∧ get fr 3 = .pointer (some ⟨p, 0, none⟩) ∧ get fr 7 = .int .i64 i ∧ ∀ j, j < i → dotZ (nthR A j) X C.length = xd * nth B j) ?_ (k := A.length) ?_
  · rintro k fr st ⟨i, hi, rfl, g1, g2, g3, g7, hall⟩
    by_cases hlt : i < A.length
    · have eA := hA2 (by omega)
      have eB := hB2 (by omega)
      obtain ⟨hr, hI⟩ := hA3 i hlt
      obtain ⟨q1, q2⟩ := v7 i hlt
      have ld := dot30 hE hI hX (by omega)
      have s1 := dot_small (n := (nthR A i).length) q2 hW (by omega)
      have s2 := v5 i (by omega)
      have s3 := mul_bound (a := 1073741824) (b := 1000000) hd s2
      have s5 : IntKind.i64.wrap (dotZ (nthR A i) X (nthR A i).length) = dotZ (nthR A i) X (nthR A i).length := w64_id (by omega) (by omega)
      rw [s5, q1] at ld
      have s4 : IntKind.i64.wrap (xd * nth B i) = xd * nth B i := w64_id (by omega) (by omega)
      by_cases c4 : dotZ (nthR A i) X C.length = xd * nth B i
      · simp [g1, g2, g3, g7, hlt, eA, hr, DC_of ld, r0, r1, eB, hB3 i (by omega), show i < B.length by omega, s4, c4]
        refine ⟨k - 1, by omega, i + 1, by omega, by rw [w64_id] <;> omega, fun j hj => ?_⟩
        rcases Nat.lt_succ_iff_lt_or_eq.1 hj with hj | rfl
        · exact hall j hj
        · exact c4
      · simp [g1, g2, g3, g7, hlt, eA, hr, DC_of ld, r0, r1, eB, hB3 i (by omega), show i < B.length by omega, s4, c4]
        exact ⟨i, hlt, c4⟩
    · have : i = A.length := by omega
      simp [g1, g2, g3, g7, r0, hlt]
      intro j hj
      exact hall j (by omega)
  · exact ⟨0, by simp⟩

theorem isSolution40 {h : List O} {v vX : Value} {A : List (List Int)} {B C X : List Int} {xd : Int} (hp : LpAt h v A B C) (hX : Ints h vX X) (hv : Valid A B C) (hW : Within X 1073741824) (hd : -1073741824 ≤ xd ∧ xd ≤ 1073741824) :
    DR E 40 [v, vX, .int .i64 xd] ⟨h, h.length⟩ (.ret (.bool (decide (IsSol A B C X xd)))) ⟨h, h.length⟩ := by
  refine hE.fn (body := rb40) rfl (by decide) ?_
  unfold rb40
  rw [DW_seq, DW_ops]
  refine DL_boxed fun h' p hx hlen hp0 hb => ?_
  have hp' := hp.ext hx
  obtain ⟨vA, vB, vC, rfl, hA1, hB, hC⟩ := hp'.out
  replace hX := hX.ext hx
  simp at hb
  have r2 := hb.rd 2
  have rN := hb.rdN 0 3
  simp at r2 rN
  have lX := pos54 hE hX
  have inv : ∀ {P : Prop}, (IsSol A B C X xd → P) → ¬ P → ¬ IsSol A B C X xd := fun h k v => k (h v)
  obtain ⟨aC, bC, oC, cC, rfl, hC2, hC3, hC4, hC5⟩ := hC
  have hX0 := hX
  obtain ⟨aX, bX, oX, cX, rfl, hX2, hX3, hX4, hX5⟩ := hX
  by_cases c1 : ¬ 1 ≤ xd
  · have hv := inv (fun v => v.1) (by omega)
    simp [c1, hv]
  replace c1 := Classical.not_not.1 c1
  by_cases c2 : ¬ X.length = C.length
  · have hv := inv (fun v => v.2.1) c2
    simp [r2, c1, c2, hv]
  have c2' := Classical.not_not.1 c2
  replace c2 := eq_true (Classical.not_not.1 c2)
  by_cases c3 : ¬ Pos X
  · have hv := inv (fun v => v.2.2.1) c3
    simp [r2, c1, c2, DC_of lX, c3, hv]
  replace c3 := Classical.not_not.1 c3
  have ll := leads63 hE hp' hX0 hv c2' hW hd
  by_cases c4 : ∀ i, i < A.length → dotZ (nthR A i) X C.length = xd * nth B i
  · have hv : IsSol A B C X xd := ⟨c1, c2', c3, c4⟩
    rw [show decide (∀ i, i < A.length → dotZ (nthR A i) X C.length = xd * nth B i) = true from decide_eq_true c4] at ll
    simp [r2, rN, c1, c2, DC_of lX, c3, DC_of ll, hv]
  · have hv := inv (fun v => v.2.2.2) c4
    rw [show decide (∀ i, i < A.length → dotZ (nthR A i) X C.length = xd * nth B i) = false from decide_eq_false c4] at ll
    simp [r2, rN, c1, c2, DC_of lX, c3, DC_of ll, hv]

theorem column52 {h : List O} {v vY : Value} {A : List (List Int)} {B C Y : List Int} {j : Nat} (hp : LpAt h v A B C) (hY : Ints h vY Y) (hA : Rect A C.length) (hl : A.length ≤ Y.length) (hj : j < C.length) :
    DR E 52 [v, vY, .int .i64 j] ⟨h, h.length⟩ (.ret (.int .i64 (IntKind.i64.wrap (dotZ Y (colL A j) A.length)))) ⟨h, h.length⟩ := by
  refine hE.fn (body := rb52) rfl (by decide) ?_
  unfold rb52
  rw [DW_seq, DW_ops]
  refine DL_boxed fun h' p hx hlen hp0 hb => ?_
  obtain ⟨vA, vB, vC, rfl, hA1, hB, hC⟩ := (hp.ext hx).out
  replace hY := hY.ext hx
  simp at hb
  have r0 := hb.rd 0
  simp at r0
  obtain ⟨aA, bA, oA, cA, vs, rfl, hA2, hA3, hA4⟩ := hA1
  obtain ⟨aY, bY, oY, cY, rfl, hY2, hY3, hY4, hY5⟩ := hY
  simp [r0]
  refine DW_loop (fun k fr st => ∃ i : Nat, i + k = A.length ∧ st = ⟨h', h.length⟩ ∧ get fr 1 = .slice aY Y.length cY ∧ get fr 2 = .int .i64 j ∧ get fr 3 = .pointer (some ⟨p, 0, none⟩) ∧ get fr 8 = .int .i64 i ∧ get fr 7 = .int .i64 (IntKind.i64.wrap (dotZ Y (colL A j) i))) ?_ (k := A.length) ?_
  · rintro k fr st ⟨i, hi, rfl, g1, g2, g3, g8, g7⟩
    by_cases hlt : i < A.length
    · have eA := hA2 (by omega)
      have eY := hY2 (by omega)
      obtain ⟨hr, hI⟩ := hA3 i hlt
      obtain ⟨aI, bI, oI, cI, hvs, hI2, hI3, hI4, hI5⟩ := hI
      have hjl : j < (nthR A i).length := by rw [hA i hlt]; exact hj
      rw [hvs, hI2 (by omega)] at hr
      simp [g1, g2, g3, g7, g8, hlt, eA, hr, r0, eY, hY3 i (by omega), show i < Y.length by omega, hjl, hI3 j hjl]
      refine ⟨k - 1, by omega, i + 1, by omega, by rw [w64_id] <;> omega, ?_⟩
      simp [dotZ, sumN, nth_colL hlt]
    · have : i = A.length := by omega
      subst this
      simp [g1, g2, g3, g7, g8, r0]
  · exact ⟨0, by simp [dotZ, sumN, w64_id]⟩

/-! ### Words without a sign -/
omit hE in
theorem wu64 (x : Int) : IntKind.u64.wrap x = x % 18446744073709551616 := by
  simp [IntKind.wrap, IntKind.signed, IntKind.bits]
omit hE in
theorem binV_mask {x : Int} (h : 0 ≤ x ∧ x < 18446744073709551616) : binV .and (.int .u64 x) (.int .u64 4294967295) = some (.int .u64 (x % 4294967296)) := by
  simp [binV, intBin, wu64]
  rw [show (2:Int) ^ IntKind.u64.bits = 18446744073709551616 from rfl, show (4294967295 % 2 ^ IntKind.u64.bits : Nat) = 2 ^ 32 - 1 from rfl, Nat.and_two_pow_sub_one_eq_mod]
  omega
omit hE in
theorem binV_maskM {x : Int} : binV .and (.int .u64 (x % 18446744073709551616)) (.int .u64 4294967295) = some (.int .u64 (x % 18446744073709551616 % 4294967296)) := binV_mask (by omega)
omit hE in
theorem binV_shr32 {x : Int} : binV .shr (.int .u64 x) (.int .u64 32) = some (.int .u64 (x / 4294967296)) := by
  simp [binV, IntKind.bits]
  rw [Int.fdiv_eq_ediv_of_nonneg _ (by decide)]
theorem neg67 {h : List O} {x y : Int} : DR E 67 [.int .i64 x, .int .i64 y] ⟨h, h.length⟩ (.ret (.bool (decide (x * y < 0)))) ⟨h, h.length⟩ := by
  refine hE.fn (body := rb67) rfl (by decide) ?_
  unfold rb67
  by_cases c1 : x = 0
  · simp [c1]
  by_cases c2 : y = 0
  · simp [c1, c2]
  simp [c1, c2]
  rcases Int.lt_or_lt_of_ne c1 with h1 | h1 <;> rcases Int.lt_or_lt_of_ne c2 with h2 | h2
  · have := Int.mul_pos_of_neg_of_neg h1 h2
    simp [h1, h2, show ¬ x * y < 0 by omega]
  · have := Int.mul_neg_of_neg_of_pos h1 h2
    simp [h1, show ¬ y < 0 by omega, this]
  · have := Int.mul_neg_of_pos_of_neg h1 h2
    simp [h2, show ¬ x < 0 by omega, this]
  · have := Int.mul_pos h1 h2
    simp [show ¬ y < 0 by omega, show ¬ x < 0 by omega, show ¬ x * y < 0 by omega]

theorem mul66 {h : List O} {x y : Int} (hx : 0 ≤ x ∧ x < 18446744073709551616) (hy : 0 ≤ y ∧ y < 18446744073709551616) :
    DR E 66 [.int .u64 x, .int .u64 y] ⟨h, h.length⟩ (.ret (.tuple #[.int .u64 (x * y / 18446744073709551616), .int .u64 (x * y % 18446744073709551616)])) ⟨h, h.length⟩ := by
  refine hE.fn (body := rb66) rfl (by decide) ?_
  unfold rb66
  have ex : x = 4294967296 * (x / 4294967296) + x % 4294967296 := by omega
  have ey : y = 4294967296 * (y / 4294967296) + y % 4294967296 := by omega
  generalize hx0 : x % 4294967296 = x0 at ex
  generalize hx1 : x / 4294967296 = x1 at ex
  generalize hy0 : y % 4294967296 = y0 at ey
  generalize hy1 : y / 4294967296 = y1 at ey
  have bx0 : 0 ≤ x0 ∧ x0 ≤ 4294967295 := by omega
  have bx1 : 0 ≤ x1 ∧ x1 ≤ 4294967295 := by omega
  have by0 : 0 ≤ y0 ∧ y0 ≤ 4294967295 := by omega
  have by1 : 0 ≤ y1 ∧ y1 ≤ 4294967295 := by omega
  have p00 := mul_bound (x := x0) (y := y0) (a := 4294967295) (b := 4294967295) (by omega) (by omega)
  have p01 := mul_bound (x := x0) (y := y1) (a := 4294967295) (b := 4294967295) (by omega) (by omega)
  have p10 := mul_bound (x := x1) (y := y0) (a := 4294967295) (b := 4294967295) (by omega) (by omega)
  have p11 := mul_bound (x := x1) (y := y1) (a := 4294967295) (b := 4294967295) (by omega) (by omega)
  have n00 := Int.mul_nonneg bx0.1 by0.1
  have n01 := Int.mul_nonneg bx0.1 by1.1
  have n10 := Int.mul_nonneg bx1.1 by0.1
  have n11 := Int.mul_nonneg bx1.1 by1.1
  have key : x * y = 18446744073709551616 * (x1 * y1) + 4294967296 * (x1 * y0) + 4294967296 * (x0 * y1) + x0 * y0 := by
    rw [ex, ey, Int.add_mul, Int.mul_add, Int.mul_add, Int.mul_assoc 4294967296 x1, Int.mul_left_comm x1 4294967296 y1, Int.mul_assoc 4294967296 x1, Int.mul_left_comm x0 4294967296 y1]
    omega
  simp [binV_mask hx, binV_mask hy, binV_maskM, binV_shr32, hx0, hx1, hy0, hy1, wu64, back, Out.scalar, scalar, flat1, flat]
  rw [key]
  generalize x1 * y1 = q11 at *
  generalize x1 * y0 = q10 at *
  generalize x0 * y1 = q01 at *
  generalize x0 * y0 = q00 at *
  omega

theorem same50 {h : List O} {a b c d : Int} (ha : -1000000000000000000 ≤ a ∧ a ≤ 1000000000000000000) (hb : -1000000000000000000 ≤ b ∧ b ≤ 1000000000000000000) (hc : -1000000000000000000 ≤ c ∧ c ≤ 1000000000000000000) (hd : -1000000000000000000 ≤ d ∧ d ≤ 1000000000000000000) :
    DR E 50 [.int .i64 a, .int .i64 b, .int .i64 c, .int .i64 d] ⟨h, h.length⟩ (.ret (.bool (decide (a * b = c * d)))) ⟨h, h.length⟩ := by
  refine hE.fn (body := rb50) rfl (by decide) ?_
  unfold rb50
  have la := abs46 hE (h := h) (x := a) (by omega)
  have lb := abs46 hE (h := h) (x := b) (by omega)
  have lc := abs46 hE (h := h) (x := c) (by omega)
  have ld := abs46 hE (h := h) (x := d) (by omega)
  have ma := mul66 hE (h := h) (x := a.natAbs) (y := b.natAbs) (by omega) (by omega)
  have mc := mul66 hE (h := h) (x := c.natAbs) (y := d.natAbs) (by omega) (by omega)
  have na := neg67 hE (h := h) (x := a) (y := b)
  have nc := neg67 hE (h := h) (x := c) (y := d)
  have wa : (a.natAbs : Int) % 18446744073709551616 = a.natAbs := by omega
  have wb : (b.natAbs : Int) % 18446744073709551616 = b.natAbs := by omega
  have wc : (c.natAbs : Int) % 18446744073709551616 = c.natAbs := by omega
  have wd : (d.natAbs : Int) % 18446744073709551616 = d.natAbs := by omega
  have eab : (a.natAbs : Int) * b.natAbs = (a * b).natAbs := by rw [Int.natAbs_mul]; simp
  have ecd : (c.natAbs : Int) * d.natAbs = (c * d).natAbs := by rw [Int.natAbs_mul]; simp
  rw [eab] at ma
  rw [ecd] at mc
  generalize hp : a * b = p at *
  generalize hq : c * d = q at *
  by_cases c1 : (p.natAbs : Int) / 18446744073709551616 = q.natAbs / 18446744073709551616
  · by_cases c2 : (p.natAbs : Int) % 18446744073709551616 = q.natAbs % 18446744073709551616
    · have e : p.natAbs = q.natAbs := by omega
      simp [DC_of la, DC_of lb, DC_of lc, DC_of ld, wu64, wa, wb, wc, wd, DC_of ma, DC_of mc, DC_of na, DC_of nc, e]
      by_cases h1 : p < 0 <;> by_cases h2 : q < 0 <;> simp [h1, h2] <;> omega
    · have hne : ¬ p = q := fun h => c2 (by rw [h])
      simp [DC_of la, DC_of lb, DC_of lc, DC_of ld, wu64, wa, wb, wc, wd, DC_of ma, DC_of mc, DC_of na, DC_of nc, c1, c2, hne]
  · have hne : ¬ p = q := fun h => c1 (by rw [h])
    simp [DC_of la, DC_of lb, DC_of lc, DC_of ld, wu64, wa, wb, wc, wd, DC_of ma, DC_of mc, DC_of na, DC_of nc, c1, hne]
end Go.Proofs.Ytdbkhecnkhjhpaa
