/- What the reference's Verify returns. -/
import Derived.Test.YtdbkhecnkhjhpaaLp4
namespace Go.Proofs.Ytdbkhecnkhjhpaa
open Go Go.Ai
set_option linter.unusedSimpArgs false
set_option linter.unusedVariables false
attribute [local instance] Classical.propDecidable
variable {E : Env} (hE : LpE E)

/-- A result in memory. -/
structure ResAt (h : List O) (v : Value) (kind : Int) (X : List Int) (xd : Int) (Y : List Int) (yd : Int) (R : List Int) : Prop where
  out : ∃ vX vY vR, v = .agg #[.int .i64 kind, vX, .int .i64 xd, vY, .int .i64 yd, vR] ∧ Ints h vX X ∧ Ints h vY Y ∧ Ints h vR R ∧ I64 kind ∧ I64 xd ∧ I64 yd
theorem ResAt.ext {h h' : List O} {v : Value} {kind xd yd : Int} {X Y R : List Int} (hp : ResAt h v kind X xd Y yd R) (k : Ext h h') : ResAt h' v kind X xd Y yd R := by
  obtain ⟨vX, vY, vR, h1, h2, h3, h4, h5⟩ := hp.out
  exact ⟨vX, vY, vR, h1, h2.ext k, h3.ext k, h4.ext k, h5⟩

abbrev Sm (x : Int) : Prop := -1073741824 ≤ x ∧ x ≤ 1073741824
def Opt (A : List (List Int)) (B C X : List Int) (xd : Int) (Y : List Int) (yd : Int) (R : List Int) : Prop :=
  IsSol A B C X xd ∧ 1 ≤ yd ∧ Y.length = B.length ∧ R.length = 0 ∧ (∀ j, j < C.length → dotZ Y (colL A j) A.length ≤ yd * nth C j) ∧ dotZ C X C.length * yd = dotZ B Y B.length * xd
def Emp (A : List (List Int)) (B C X : List Int) (xd : Int) (Y : List Int) (yd : Int) (R : List Int) : Prop :=
  X.length = 0 ∧ xd = 0 ∧ yd = 0 ∧ R.length = 0 ∧ Y.length = B.length ∧ (∀ j, j < C.length → 0 ≤ dotZ Y (colL A j) A.length) ∧ dotZ B Y B.length < 0
def Unb (A : List (List Int)) (B C X : List Int) (xd : Int) (Y : List Int) (yd : Int) (R : List Int) : Prop :=
  IsSol A B C X xd ∧ Y.length = 0 ∧ yd = 0 ∧ R.length = C.length ∧ Pos R ∧ (∀ i, i < A.length → dotZ (nthR A i) R C.length = 0) ∧ dotZ C R C.length < 0
def Bnd (X : List Int) (xd : Int) (Y : List Int) (yd : Int) (R : List Int) : Prop :=
  Within X 1073741824 ∧ Within Y 1073741824 ∧ Within R 1073741824 ∧ Sm xd ∧ Sm yd
def Right (A : List (List Int)) (B C : List Int) (kind : Int) (X : List Int) (xd : Int) (Y : List Int) (yd : Int) (R : List Int) : Prop :=
  Bnd X xd Y yd R ∧ (kind = 1 ∧ Opt A B C X xd Y yd R ∨ kind = 2 ∧ Emp A B C X xd Y yd R ∨ kind = 3 ∧ Unb A B C X xd Y yd R)

theorem boxLp {h h' : List O} {v : Value} {p : Nat} {cs : List Value} {A : List (List Int)} {B C : List Int} (hb : Boxed h' p cs) (hcs : cs = v.cells.toList) (hp : LpAt h' v A B C) :
    ∃ vA vB vC, v = .agg #[vA, vB, vC] ∧ rd h' p 0 = some vA ∧ rd h' p 1 = some vB ∧ rd h' p 2 = some vC ∧ rdN h' p 0 3 = some [vA, vB, vC] ∧ Mat h' vA A ∧ Ints h' vB B ∧ Ints h' vC C := by
  obtain ⟨vA, vB, vC, rfl, h2, h3, h4⟩ := hp.out
  subst hcs
  exact ⟨vA, vB, vC, rfl, by rw [hb.rd]; rfl, by rw [hb.rd]; rfl, by rw [hb.rd]; rfl, by rw [hb.rdN]; rfl, h2, h3, h4⟩
theorem boxRes {h' : List O} {v : Value} {p : Nat} {cs : List Value} {kind xd yd : Int} {X Y R : List Int} (hb : Boxed h' p cs) (hcs : cs = v.cells.toList) (hp : ResAt h' v kind X xd Y yd R) :
    ∃ vX vY vR, v = .agg #[.int .i64 kind, vX, .int .i64 xd, vY, .int .i64 yd, vR] ∧ rd h' p 0 = some (.int .i64 kind) ∧ rd h' p 1 = some vX ∧ rd h' p 2 = some (.int .i64 xd) ∧ rd h' p 3 = some vY ∧ rd h' p 4 = some (.int .i64 yd) ∧ rd h' p 5 = some vR ∧
      rdN h' p 0 6 = some [.int .i64 kind, vX, .int .i64 xd, vY, .int .i64 yd, vR] ∧ Ints h' vX X ∧ Ints h' vY Y ∧ Ints h' vR R ∧ I64 kind ∧ I64 xd ∧ I64 yd := by
  obtain ⟨vX, vY, vR, rfl, h2, h3, h4, h5⟩ := hp.out
  subst hcs
  exact ⟨vX, vY, vR, rfl, by rw [hb.rd]; rfl, by rw [hb.rd]; rfl, by rw [hb.rd]; rfl, by rw [hb.rd]; rfl, by rw [hb.rd]; rfl, by rw [hb.rd]; rfl, by rw [hb.rdN]; rfl, h2, h3, h4, h5⟩
theorem Valid.rect {A : List (List Int)} {B C : List Int} (hv : Valid A B C) : Rect A C.length := fun i hi => (hv.2.2.2.2.2.2 i hi).1
theorem Valid.col {A : List (List Int)} {B C : List Int} (hv : Valid A B C) (j : Nat) : Within (colL A j) 1000000 := fun i hi => by
  simp at hi
  rw [nth_colL hi]
  exact (hv.2.2.2.2.2.2 i hi).2.all (by omega) j

include hE
theorem times53 {h : List O} {a b : Int} (ha : -100000000000000000 ≤ a ∧ a ≤ 100000000000000000) (hb : Sm b) :
    DR E 53 [.int .i64 a, .int .i64 b] ⟨h, h.length⟩ (.ret (.agg #[.int .i64 (a * b / 1073741824), .int .i64 (a * b % 1073741824)])) ⟨h, h.length⟩ := by
  refine hE.fn (body := rb53) rfl (by decide) ?_
  unfold rb53
  have e0 : a = 1073741824 * a.tdiv 1073741824 + a.tmod 1073741824 := by have := Int.mul_tdiv_add_tmod a 1073741824; omega
  have tc := tdiv_cases a 1073741824
  have b1 : -1073741823 ≤ a.tmod 1073741824 ∧ a.tmod 1073741824 ≤ 1073741823 := by omega
  have b2 : -93132258 ≤ a.tdiv 1073741824 ∧ a.tdiv 1073741824 ≤ 93132258 := by omega
  have m1 := mul_bound (a := 1073741823) (b := 1073741824) b1 hb
  have m2 := mul_bound (a := 93132258) (b := 1073741824) b2 hb
  have key : a * b = 1073741824 * (a.tdiv 1073741824 * b) + a.tmod 1073741824 * b := by
    conv => lhs; rw [e0]
    rw [Int.add_mul, Int.mul_assoc]
  rw [key]
  have hmod : a.tmod 1073741824 * b = a.tmod 1073741824 * b := rfl
  generalize hlo : a.tmod 1073741824 * b = lo at *
  generalize hhi : a.tdiv 1073741824 * b = hi at *
  have w1 : IntKind.i64.wrap lo = lo := w64_id (by omega) (by omega)
  have w2 : IntKind.i64.wrap hi = hi := w64_id (by omega) (by omega)
  have tl := tdiv_cases lo 1073741824
  have w3 : IntKind.i64.wrap (a.tdiv 1073741824) = a.tdiv 1073741824 := w64_id (by omega) (by omega)
  have w4 : IntKind.i64.wrap (lo.tdiv 1073741824) = lo.tdiv 1073741824 := w64_id (by omega) (by omega)
  have w5 : IntKind.i64.wrap (hi + lo.tdiv 1073741824) = hi + lo.tdiv 1073741824 := w64_id (by omega) (by omega)
  have w6 : IntKind.i64.wrap (hi + lo.tdiv 1073741824 - 1) = hi + lo.tdiv 1073741824 - 1 := w64_id (by omega) (by omega)
  have w7 : IntKind.i64.wrap (lo.tmod 1073741824 + 1073741824) = lo.tmod 1073741824 + 1073741824 := w64_id (by omega) (by omega)
  by_cases c1 : lo.tmod 1073741824 < 0
  · simp [binV_rem, binV_quo, hlo, hhi, w1, w2, w3, w4, w5, w6, w7, c1, back, Out.scalar, scalar, flat1, flat]
    omega
  · simp [binV_rem, binV_quo, hlo, hhi, w1, w2, w3, w4, w5, w6, w7, c1, back, Out.scalar, scalar, flat1, flat]
    omega

theorem optimal34 {h : List O} {v w : Value} {A : List (List Int)} {B C X Y R : List Int} {kind xd yd : Int} (hp : LpAt h v A B C) (hr : ResAt h w kind X xd Y yd R) (hv : Valid A B C) (hbd : Bnd X xd Y yd R) :
    DR E 34 [v, w] ⟨h, h.length⟩ (.ret (.bool (decide (Opt A B C X xd Y yd R)))) ⟨h, h.length⟩ := by
  refine hE.fn (body := rb34) rfl (by decide) ?_
  unfold rb34
  rw [DW_seq, DW_ops]
  refine DL_boxed fun h1 p hx1 hlen1 hp1 hb1 => DL_boxed fun h' q hx2 hlen2 hq hb2 => ?_
  simp at hb1 hb2
  replace hp := (hp.ext hx1).ext hx2
  replace hr := (hr.ext hx1).ext hx2
  have hp0 := hp
  obtain ⟨vA, vB, vC, rfl, r0, r1, r2, rN, hA, hB, hC⟩ := boxLp (h := h) (hb1.ext hx2) rfl hp
  obtain ⟨vX, vY, vR, rfl, s0, s1, s2, s3, s4, s5, sN, hX, hY, hR, k1, k2, k3⟩ := boxRes hb2 rfl hr
  obtain ⟨b1, b2, b3, b4, b5⟩ := hbd
  have ls := isSolution40 hE hp0 hX hv b1 b4
  have inv : ∀ {P : Prop}, (Opt A B C X xd Y yd R → P) → ¬ P → ¬ Opt A B C X xd Y yd R := fun h k v => k (h v)
  have hY0 := hY
  have hX0 := hX
  have hB0 := hB
  have hC0 := hC
  obtain ⟨aY, bY, oY, cY, rfl, hY2, hY3, hY4, hY5⟩ := hY
  obtain ⟨aR, bR, oR, cR, rfl, hR2, hR3, hR4, hR5⟩ := hR
  obtain ⟨aB, bB, oB, cB, rfl, hB2, hB3, hB4, hB5⟩ := hB
  obtain ⟨aC, bC, oC, cC, rfl, hC2, hC3, hC4, hC5⟩ := hC
  have v1 := hv.1
  have v2 := hv.2.1
  have v4 := hv.2.2.2.1
  by_cases c1 : ¬ IsSol A B C X xd
  · have hv := inv (fun v => v.1) c1
    simp [r0, r1, r2, rN, s1, s2, s3, s4, s5, DC_of ls, c1, hv]
  replace c1 := Classical.not_not.1 c1
  by_cases c2 : yd < 1
  · have hv := inv (fun v => v.2.1) (by omega)
    simp [r0, r1, r2, rN, s1, s2, s3, s4, s5, DC_of ls, c1, c2, hv]
  by_cases c3 : ¬ Y.length = B.length
  · have hv := inv (fun v => v.2.2.1) c3
    simp [r0, r1, r2, rN, s1, s2, s3, s4, s5, DC_of ls, c1, c2, c3, hv]
  have c3' := Classical.not_not.1 c3
  replace c3 := eq_true (Classical.not_not.1 c3)
  by_cases c4 : ¬ R.length = 0
  · have hv := inv (fun v => v.2.2.2.1) c4
    simp [r0, r1, r2, rN, s1, s2, s3, s4, s5, DC_of ls, c1, c2, c3, show 0 < R.length by omega, hv]
  replace c4 := Classical.not_not.1 c4
  simp [r0, r1, r2, rN, s1, s2, s3, s4, s5, DC_of ls, c1, c2, c3, show ¬ 0 < R.length by omega]
  refine DW_loop (fun k fr st => ∃ i : Nat, i + k = C.length ∧ st = ⟨h', h.length⟩ ∧ get fr 2 = .pointer (some ⟨p, 0, none⟩) ∧ get fr 3 = .pointer (some ⟨q, 0, none⟩) ∧ get fr 5 = .int .i64 i ∧ ∀ j, j < i → dotZ Y (colL A j) A.length ≤ yd * nth C j) ?_ (k := C.length) ?_
  · rintro k fr st ⟨i, hi, rfl, g2, g3, g5, hall⟩
    by_cases hlt : i < C.length
    · obtain rfl := hC2 (by omega)
      have lc := column52 hE hp0 hY0 hv.rect (by omega) hlt
      have t1 := dot_small' (n := A.length) b2 (hv.col i) v1
      have t2 := hv.2.2.2.2.2.1 i hlt
      have t3 := mul_bound (a := 1073741824) (b := 1000000) b5 t2
      have t4 : IntKind.i64.wrap (dotZ Y (colL A i) A.length) = dotZ Y (colL A i) A.length := w64_id (by omega) (by omega)
      have t5 : IntKind.i64.wrap (yd * nth C i) = yd * nth C i := w64_id (by omega) (by omega)
      rw [t4] at lc
      by_cases c5 : yd * nth C i < dotZ Y (colL A i) A.length
      · have hv := inv (fun v => v.2.2.2.2.1 i hlt) (by omega)
        simp [g2, g3, g5, hlt, r2, rN, s3, s4, DC_of lc, hC3 i hlt, t5, c5, hv]
      · simp [g2, g3, g5, hlt, r2, rN, s3, s4, DC_of lc, hC3 i hlt, t5, c5]
        refine ⟨k - 1, by omega, i + 1, by omega, by rw [w64_id] <;> omega, fun j hj => ?_⟩
        rcases Nat.lt_succ_iff_lt_or_eq.1 hj with hj | rfl
        · exact hall j hj
        · omega
    · have : i = C.length := by omega
      subst this
      have hXl := c1.2.1
      have l1 := dot30 hE hC0 hX0 (by omega)
      have l2 := dot30 hE hB0 hY0 (by omega)
      have t1 := dot_small (n := C.length) hv.2.2.2.2.2.1 b1 v4
      have t2 := dot_small (n := B.length) hv.2.2.2.2.1 b2 (by omega)
      rw [show IntKind.i64.wrap (dotZ C X C.length) = dotZ C X C.length from w64_id (by omega) (by omega)] at l1
      rw [show IntKind.i64.wrap (dotZ B Y B.length) = dotZ B Y B.length from w64_id (by omega) (by omega)] at l2
      have l3 := times53 hE (h := h') (a := dotZ C X C.length) (b := yd) (by omega) b5
      have l4 := times53 hE (h := h') (a := dotZ B Y B.length) (b := xd) (by omega) b4
      simp [g2, g3, g5, r2, r1, s1, s2, s3, s4, DC_of l1, DC_of l2, DC_of l3, DC_of l4, keyCells, fitsAll, fits, eqCells, eqCell]
      have e : Opt A B C X xd Y yd R ↔ dotZ C X C.length * yd = dotZ B Y B.length * xd :=
        ⟨fun h => h.2.2.2.2.2, fun h => ⟨c1, by omega, c3', c4, hall, h⟩⟩
      rw [show decide (Opt A B C X xd Y yd R) = decide (dotZ C X C.length * yd = dotZ B Y B.length * xd) from decide_eq_decide.2 e]
      generalize dotZ C X C.length * yd = P
      generalize dotZ B Y B.length * xd = Q
      by_cases hpq : P = Q
      · simp [hpq]
      · simp [hpq]
        omega
  · exact ⟨0, by simp⟩

theorem empty35 {h : List O} {v w : Value} {A : List (List Int)} {B C X Y R : List Int} {kind xd yd : Int} (hp : LpAt h v A B C) (hr : ResAt h w kind X xd Y yd R) (hv : Valid A B C) (hbd : Bnd X xd Y yd R) :
    DR E 35 [v, w] ⟨h, h.length⟩ (.ret (.bool (decide (Emp A B C X xd Y yd R)))) ⟨h, h.length⟩ := by
  refine hE.fn (body := rb35) rfl (by decide) ?_
  unfold rb35
  rw [DW_seq, DW_ops]
  refine DL_boxed fun h1 p hx1 hlen1 hp1 hb1 => DL_boxed fun h' q hx2 hlen2 hq hb2 => ?_
  simp at hb1 hb2
  replace hp := (hp.ext hx1).ext hx2
  replace hr := (hr.ext hx1).ext hx2
  have hp0 := hp
  obtain ⟨vA, vB, vC, rfl, r0, r1, r2, rN, hA, hB, hC⟩ := boxLp (h := h) (hb1.ext hx2) rfl hp
  obtain ⟨vX, vY, vR, rfl, s0, s1, s2, s3, s4, s5, sN, hX, hY, hR, k1, k2, k3⟩ := boxRes hb2 rfl hr
  obtain ⟨b1, b2, b3, b4, b5⟩ := hbd
  have inv : ∀ {P : Prop}, (Emp A B C X xd Y yd R → P) → ¬ P → ¬ Emp A B C X xd Y yd R := fun h k v => k (h v)
  have hY0 := hY
  have hB0 := hB
  obtain ⟨aX, bX, oX, cX, rfl, hX2, hX3, hX4, hX5⟩ := hX
  obtain ⟨aY, bY, oY, cY, rfl, hY2, hY3, hY4, hY5⟩ := hY
  obtain ⟨aR, bR, oR, cR, rfl, hR2, hR3, hR4, hR5⟩ := hR
  obtain ⟨aB, bB, oB, cB, rfl, hB2, hB3, hB4, hB5⟩ := hB
  obtain ⟨aC, bC, oC, cC, rfl, hC2, hC3, hC4, hC5⟩ := hC
  have v1 := hv.1
  have v2 := hv.2.1
  have v4 := hv.2.2.2.1
  by_cases c1 : ¬ X.length = 0
  · have hv := inv (fun v => v.1) c1
    simp [r0, r1, r2, rN, s1, s2, s3, s4, s5, show 0 < X.length by omega, hv]
  replace c1 := Classical.not_not.1 c1
  by_cases c2 : ¬ xd = 0
  · have hv := inv (fun v => v.2.1) c2
    simp [r0, r1, r2, rN, s1, s2, s3, s4, s5, show ¬ 0 < X.length by omega, c2, hv]
  replace c2 := eq_true (Classical.not_not.1 c2)
  by_cases c3 : ¬ yd = 0
  · have hv := inv (fun v => v.2.2.1) c3
    simp [r0, r1, r2, rN, s1, s2, s3, s4, s5, show ¬ 0 < X.length by omega, c2, c3, hv]
  replace c3 := eq_true (Classical.not_not.1 c3)
  by_cases c4 : ¬ R.length = 0
  · have hv := inv (fun v => v.2.2.2.1) c4
    simp [r0, r1, r2, rN, s1, s2, s3, s4, s5, show ¬ 0 < X.length by omega, c2, c3, show 0 < R.length by omega, hv]
  replace c4 := Classical.not_not.1 c4
  by_cases c5 : ¬ Y.length = B.length
  · have hv := inv (fun v => v.2.2.2.2.1) c5
    simp [r0, r1, r2, rN, s1, s2, s3, s4, s5, show ¬ 0 < X.length by omega, c2, c3, show ¬ 0 < R.length by omega, c5, hv]
  have c5' := Classical.not_not.1 c5
  replace c5 := eq_true (Classical.not_not.1 c5)
  simp [r0, r1, r2, rN, s1, s2, s3, s4, s5, show ¬ 0 < X.length by omega, c2, c3, show ¬ 0 < R.length by omega, c5]
  refine DW_loop (fun k fr st => ∃ i : Nat, i + k = C.length ∧ st = ⟨h', h.length⟩ ∧ get fr 2 = .pointer (some ⟨p, 0, none⟩) ∧ get fr 3 = .pointer (some ⟨q, 0, none⟩) ∧ get fr 5 = .int .i64 i ∧ ∀ j, j < i → 0 ≤ dotZ Y (colL A j) A.length) ?_ (k := C.length) ?_
  · rintro k fr st ⟨i, hi, rfl, g2, g3, g5, hall⟩
    by_cases hlt : i < C.length
    · obtain rfl := hC2 (by omega)
      have lc := column52 hE hp0 hY0 hv.rect (by omega) hlt
      have t1 := dot_small' (n := A.length) b2 (hv.col i) v1
      have t4 : IntKind.i64.wrap (dotZ Y (colL A i) A.length) = dotZ Y (colL A i) A.length := w64_id (by omega) (by omega)
      rw [t4] at lc
      by_cases c6 : dotZ Y (colL A i) A.length < 0
      · have hv := inv (fun v => v.2.2.2.2.2.1 i hlt) (by omega)
        simp [g2, g3, g5, hlt, r2, rN, s3, s4, DC_of lc, hC3 i hlt, c6, hv]
      · simp [g2, g3, g5, hlt, r2, rN, s3, s4, DC_of lc, hC3 i hlt, c6]
        refine ⟨k - 1, by omega, i + 1, by omega, by rw [w64_id] <;> omega, fun j hj => ?_⟩
        rcases Nat.lt_succ_iff_lt_or_eq.1 hj with hj | rfl
        · exact hall j hj
        · omega
    · have : i = C.length := by omega
      subst this
      have l2 := dot30 hE hB0 hY0 (by omega)
      have t2 := dot_small (n := B.length) hv.2.2.2.2.1 b2 (by omega)
      rw [show IntKind.i64.wrap (dotZ B Y B.length) = dotZ B Y B.length from w64_id (by omega) (by omega)] at l2
      have e : Emp A B C X xd Y yd R ↔ dotZ B Y B.length < 0 :=
        ⟨fun h => h.2.2.2.2.2.2, fun h => ⟨c1, of_eq_true c2, of_eq_true c3, c4, c5', hall, h⟩⟩
      simp [g2, g3, g5, r2, r1, s1, s2, s3, s4, DC_of l2, e]
  · exact ⟨0, by simp⟩

theorem unbounded36 {h : List O} {v w : Value} {A : List (List Int)} {B C X Y R : List Int} {kind xd yd : Int} (hp : LpAt h v A B C) (hr : ResAt h w kind X xd Y yd R) (hv : Valid A B C) (hbd : Bnd X xd Y yd R) :
    DR E 36 [v, w] ⟨h, h.length⟩ (.ret (.bool (decide (Unb A B C X xd Y yd R)))) ⟨h, h.length⟩ := by
  refine hE.fn (body := rb36) rfl (by decide) ?_
  unfold rb36
  rw [DW_seq, DW_ops]
  refine DL_boxed fun h1 p hx1 hlen1 hp1 hb1 => DL_boxed fun h' q hx2 hlen2 hq hb2 => ?_
  simp at hb1 hb2
  replace hp := (hp.ext hx1).ext hx2
  replace hr := (hr.ext hx1).ext hx2
  have hp0 := hp
  obtain ⟨vA, vB, vC, rfl, r0, r1, r2, rN, hA, hB, hC⟩ := boxLp (h := h) (hb1.ext hx2) rfl hp
  obtain ⟨vX, vY, vR, rfl, s0, s1, s2, s3, s4, s5, sN, hX, hY, hR, k1, k2, k3⟩ := boxRes hb2 rfl hr
  obtain ⟨b1, b2, b3, b4, b5⟩ := hbd
  have ls := isSolution40 hE hp0 hX hv b1 b4
  have lp := pos54 hE hR
  have inv : ∀ {P : Prop}, (Unb A B C X xd Y yd R → P) → ¬ P → ¬ Unb A B C X xd Y yd R := fun h k v => k (h v)
  have hR0 := hR
  have hC0 := hC
  obtain ⟨aY, bY, oY, cY, rfl, hY2, hY3, hY4, hY5⟩ := hY
  obtain ⟨aR, bR, oR, cR, rfl, hR2, hR3, hR4, hR5⟩ := hR
  obtain ⟨aA, bA, oA, cA, vs, rfl, hA2, hA3, hA4⟩ := hA
  obtain ⟨aC, bC, oC, cC, rfl, hC2, hC3, hC4, hC5⟩ := hC
  have v1 := hv.1
  have v2 := hv.2.1
  have v4 := hv.2.2.2.1
  by_cases c1 : ¬ IsSol A B C X xd
  · have hv := inv (fun v => v.1) c1
    simp [r0, r1, r2, rN, s1, s2, s3, s4, s5, DC_of ls, c1, hv]
  replace c1 := Classical.not_not.1 c1
  by_cases c2 : ¬ Y.length = 0
  · have hv := inv (fun v => v.2.1) c2
    simp [r0, r1, r2, rN, s1, s2, s3, s4, s5, DC_of ls, c1, show 0 < Y.length by omega, hv]
  replace c2 := Classical.not_not.1 c2
  by_cases c3 : ¬ yd = 0
  · have hv := inv (fun v => v.2.2.1) c3
    simp [r0, r1, r2, rN, s1, s2, s3, s4, s5, DC_of ls, c1, show ¬ 0 < Y.length by omega, c3, hv]
  replace c3 := eq_true (Classical.not_not.1 c3)
  by_cases c4 : ¬ R.length = C.length
  · have hv := inv (fun v => v.2.2.2.1) c4
    simp [r0, r1, r2, rN, s1, s2, s3, s4, s5, DC_of ls, c1, show ¬ 0 < Y.length by omega, c3, c4, hv]
  have c4' := Classical.not_not.1 c4
  replace c4 := eq_true (Classical.not_not.1 c4)
  by_cases c5 : ¬ Pos R
  · have hv := inv (fun v => v.2.2.2.2.1) c5
    simp [r0, r1, r2, rN, s1, s2, s3, s4, s5, DC_of ls, DC_of lp, c1, show ¬ 0 < Y.length by omega, c3, c4, c5, hv]
  replace c5 := Classical.not_not.1 c5
  simp [r0, r1, r2, rN, s1, s2, s3, s4, s5, DC_of ls, DC_of lp, c1, show ¬ 0 < Y.length by omega, c3, c4, c5]
  refine DW_loop (fun k fr st => ∃ i : Nat, i + k = A.length ∧ st = ⟨h', h.length⟩ ∧ get fr 2 = .pointer (some ⟨p, 0, none⟩) ∧ get fr 3 = .pointer (some ⟨q, 0, none⟩) ∧ get fr 5 = .int .i64 i ∧ ∀ j, j < i → dotZ (nthR A j) R C.length = 0) ?_ (k := A.length) ?_
  · rintro k fr st ⟨i, hi, rfl, g2, g3, g5, hall⟩
    by_cases hlt : i < A.length
    · have eA := hA2 (by omega)
      obtain ⟨hr, hI⟩ := hA3 i hlt
      obtain ⟨q1, q2⟩ := hv.2.2.2.2.2.2 i hlt
      have ld := dot30 hE hI hR0 (by omega)
      have t1 := dot_small (n := (nthR A i).length) q2 b3 (by omega)
      rw [show IntKind.i64.wrap (dotZ (nthR A i) R (nthR A i).length) = dotZ (nthR A i) R (nthR A i).length from w64_id (by omega) (by omega), q1] at ld
      by_cases c6 : dotZ (nthR A i) R C.length = 0
      · simp [g2, g3, g5, hlt, r0, eA, hr, s5, DC_of ld, c6]
        refine ⟨k - 1, by omega, i + 1, by omega, by rw [w64_id] <;> omega, fun j hj => ?_⟩
        rcases Nat.lt_succ_iff_lt_or_eq.1 hj with hj | rfl
        · exact hall j hj
        · exact c6
      · have hv := inv (fun v => v.2.2.2.2.2.1 i hlt) c6
        simp [g2, g3, g5, hlt, r0, eA, hr, s5, DC_of ld, c6, hv]
    · have : i = A.length := by omega
      subst this
      have l2 := dot30 hE hC0 hR0 (by omega)
      have t2 := dot_small (n := C.length) hv.2.2.2.2.2.1 b3 v4
      rw [show IntKind.i64.wrap (dotZ C R C.length) = dotZ C R C.length from w64_id (by omega) (by omega)] at l2
      have e : Unb A B C X xd Y yd R ↔ dotZ C R C.length < 0 :=
        ⟨fun h => h.2.2.2.2.2.2, fun h => ⟨c1, c2, of_eq_true c3, c4', c5, hall, h⟩⟩
      simp [g2, g3, g5, r0, r1, r2, s5, DC_of l2, e]
  · exact ⟨0, by simp⟩

omit hE in
theorem ints2 {h : List O} {x y : Int} {el : TypeId} {own : Option Nat} (hx : I64 x) (hy : I64 y) : Ints (h ++ [.cells [.int .i64 x, .int .i64 y] el own]) (.slice (some ⟨h.length, 0, none⟩) 2 2) [x, y] := by
  refine ⟨some ⟨h.length, 0, none⟩, h.length, 0, 2, rfl, fun _ => rfl, fun i hi => ?_, fun i => ?_, by simp⟩
  · match i, hi with
    | 0, _ => simp [nth]
    | 1, _ => simp [nth]
  · match i with
    | 0 => exact hx
    | 1 => exact hy
    | n + 2 => simp [nth, I64]
theorem verify14 {h : List O} {v w : Value} {A : List (List Int)} {B C X Y R : List Int} {kind xd yd : Int} (hp : LpAt h v A B C) (hr : ResAt h w kind X xd Y yd R) :
    DR E 14 [v, w] ⟨h, h.length⟩ (.ret (.int .i64 (if Valid A B C then if Right A B C kind X xd Y yd R then 0 else 5 else 120))) ⟨h, h.length⟩ := by
  refine hE.fn (body := rb14) rfl (by decide) ?_
  unfold rb14
  rw [DW_seq, DW_ops]
  refine DL_boxed fun h1 p hx1 hlen1 hp1 hb1 => DL_boxed fun h' q hx2 hlen2 hq hb2 => ?_
  simp at hb1 hb2
  replace hp := (hp.ext hx1).ext hx2
  replace hr := (hr.ext hx1).ext hx2
  have hp0 := hp
  have hr0 := hr
  obtain ⟨vA, vB, vC, rfl, r0, r1, r2, rN, hA, hB, hC⟩ := boxLp (h := h) (hb1.ext hx2) rfl hp
  obtain ⟨vX, vY, vR, rfl, s0, s1, s2, s3, s4, s5, sN, hX, hY, hR, k1, k2, k3⟩ := boxRes hb2 rfl hr
  have l15 := check15 hE hp0
  by_cases c0 : ¬ Valid A B C
  · simp [rN, DC_of l15, c0]
  replace c0 := Classical.not_not.1 c0
  have inv : ∀ {P : Prop}, (Right A B C kind X xd Y yd R → P) → ¬ P → ¬ Right A B C kind X xd Y yd R := fun h k v => k (h v)
  have lX := within33 hE hX (m := 1073741824) (by decide)
  have lY := within33 hE hY (m := 1073741824) (by decide)
  have lR := within33 hE hR (m := 1073741824) (by decide)
  have l2 := within33 hE (h := h' ++ [.cells [.int .i64 xd, .int .i64 yd] 3 (some 0)]) (ints2 k2 k3) (m := 1073741824) (by decide)
  have e2 : Within [xd, yd] 1073741824 ↔ Sm xd ∧ Sm yd := by
    constructor
    · intro h; exact ⟨h 0 (by simp), h 1 (by simp)⟩
    · rintro ⟨h1, h2⟩ i hi
      match i, hi with
      | 0, _ => exact h1
      | 1, _ => exact h2
  by_cases c1 : ¬ Within X 1073741824
  · have hv := inv (fun v => v.1.1) c1
    simp [rN, DC_of l15, c0, s1, DC_of lX, c1, hv]
  replace c1 := Classical.not_not.1 c1
  by_cases c2 : ¬ Within Y 1073741824
  · have hv := inv (fun v => v.1.2.1) c2
    simp [rN, DC_of l15, c0, s1, s3, DC_of lX, DC_of lY, c1, c2, hv]
  replace c2 := Classical.not_not.1 c2
  by_cases c3 : ¬ Within R 1073741824
  · have hv := inv (fun v => v.1.2.2.1) c3
    simp [rN, DC_of l15, c0, s1, s3, s5, DC_of lX, DC_of lY, DC_of lR, c1, c2, c3, hv]
  replace c3 := Classical.not_not.1 c3
  have hx3 : Ext h' (h' ++ [.cells [.int .i64 xd, .int .i64 yd] 3 (some 0)]) := Ext.snoc _ _
  by_cases c4 : ¬ (Sm xd ∧ Sm yd)
  · have hv := inv (fun v => v.1.2.2.2) c4
    have c4' : ¬ Within [xd, yd] 1073741824 := fun h => c4 (e2.1 h)
    simp [rN, DC_of l15, c0, s1, s2, s3, s4, s5, DC_of lX, DC_of lY, DC_of lR, c1, c2, c3, -List.length_append, DC_of l2, c4', hv]
  replace c4 := Classical.not_not.1 c4
  have c4' : Within [xd, yd] 1073741824 := e2.2 c4
  have hbd : Bnd X xd Y yd R := ⟨c1, c2, c3, c4⟩
  have hp3 := hp0.ext hx3
  have hr3 := hr0.ext hx3
  have x0 := hx3.rd s0
  have xN := hx3.rdN sN
  have yN := hx3.rdN rN
  have lo := optimal34 hE hp3 hr3 c0 hbd
  have le := empty35 hE hp3 hr3 c0 hbd
  have lu := unbounded36 hE hp3 hr3 c0 hbd
  have key : Right A B C kind X xd Y yd R ↔ (kind = 1 ∧ Opt A B C X xd Y yd R ∨ kind = 2 ∧ Emp A B C X xd Y yd R ∨ kind = 3 ∧ Unb A B C X xd Y yd R) := ⟨fun h => h.2, fun h => ⟨hbd, h⟩⟩
  by_cases d1 : kind = 1
  · by_cases d2 : Opt A B C X xd Y yd R
    · have hv : Right A B C kind X xd Y yd R := key.2 (.inl ⟨d1, d2⟩)
      replace d1 := eq_true d1
      simp [rN, DC_of l15, c0, s1, s2, s3, s4, s5, DC_of lX, DC_of lY, DC_of lR, c1, c2, c3, -List.length_append, DC_of l2, c4', x0, xN, yN, DC_of lo, d1, d2, hv]
    · have hv : ¬ Right A B C kind X xd Y yd R := fun h => by
        rcases key.1 h with ⟨_, h⟩ | ⟨h, _⟩ | ⟨h, _⟩
        · exact d2 h
        · omega
        · omega
      have d3 : (kind = 2) = False := eq_false (by omega)
      have d4 : (kind = 3) = False := eq_false (by omega)
      replace d1 := eq_true d1
      simp [rN, DC_of l15, c0, s1, s2, s3, s4, s5, DC_of lX, DC_of lY, DC_of lR, c1, c2, c3, -List.length_append, DC_of l2, c4', x0, xN, yN, DC_of lo, d1, d2, d3, d4, hv]
  by_cases d2 : kind = 2
  · by_cases d3 : Emp A B C X xd Y yd R
    · have hv : Right A B C kind X xd Y yd R := key.2 (.inr (.inl ⟨d2, d3⟩))
      replace d2 := eq_true d2
      simp [rN, DC_of l15, c0, s1, s2, s3, s4, s5, DC_of lX, DC_of lY, DC_of lR, c1, c2, c3, -List.length_append, DC_of l2, c4', x0, xN, yN, DC_of le, d1, d2, d3, hv]
    · have hv : ¬ Right A B C kind X xd Y yd R := fun h => by
        rcases key.1 h with ⟨h, _⟩ | ⟨_, h⟩ | ⟨h, _⟩
        · omega
        · exact d3 h
        · omega
      have d4 : (kind = 3) = False := eq_false (by omega)
      replace d2 := eq_true d2
      simp [rN, DC_of l15, c0, s1, s2, s3, s4, s5, DC_of lX, DC_of lY, DC_of lR, c1, c2, c3, -List.length_append, DC_of l2, c4', x0, xN, yN, DC_of le, d1, d2, d3, d4, hv]
  by_cases d3 : kind = 3
  · by_cases d4 : Unb A B C X xd Y yd R
    · have hv : Right A B C kind X xd Y yd R := key.2 (.inr (.inr ⟨d3, d4⟩))
      replace d3 := eq_true d3
      simp [rN, DC_of l15, c0, s1, s2, s3, s4, s5, DC_of lX, DC_of lY, DC_of lR, c1, c2, c3, -List.length_append, DC_of l2, c4', x0, xN, yN, DC_of lu, d1, d2, d3, d4, hv]
    · have hv : ¬ Right A B C kind X xd Y yd R := fun h => by
        rcases key.1 h with ⟨h, _⟩ | ⟨h, _⟩ | ⟨_, h⟩
        · omega
        · omega
        · exact d4 h
      replace d3 := eq_true d3
      simp [rN, DC_of l15, c0, s1, s2, s3, s4, s5, DC_of lX, DC_of lY, DC_of lR, c1, c2, c3, -List.length_append, DC_of l2, c4', x0, xN, yN, DC_of lu, d1, d2, d3, d4, hv]
  have hv : ¬ Right A B C kind X xd Y yd R := fun h => by
    rcases key.1 h with ⟨h, _⟩ | ⟨h, _⟩ | ⟨h, _⟩ <;> omega
  simp [rN, DC_of l15, c0, s1, s2, s3, s4, s5, DC_of lX, DC_of lY, DC_of lR, c1, c2, c3, -List.length_append, DC_of l2, c4', x0, xN, yN, d1, d2, d3, hv]
end Go.Proofs.Ytdbkhecnkhjhpaa
