/- What the package's Verify returns. -/
import Derived.Test.YtdbkhecnkhjhpaaLp5
namespace Go.Proofs.Ytdbkhecnkhjhpaa
open Go Go.Ai
set_option linter.unusedSimpArgs false
set_option linter.unusedVariables false
attribute [local instance] Classical.propDecidable
variable {E : Env} (hE : LpE E)
include hE

theorem big47 {h : List O} {v : Value} {xs : List Int} (hv : Ints h v xs) :
    DR E 43 [v, .func (.func 47) #[] #[]] ⟨h, h.length⟩ (.ret (.bool (decide (¬ Within xs 1073741824)))) ⟨h, h.length⟩ := by
  have l := contains43 hE (caps := []) hv fun x => c47 hE
  have e : (∃ i, i < xs.length ∧ decide (¬ (-1073741824 ≤ nth xs i ∧ nth xs i ≤ 1073741824)) = true) ↔ ¬ Within xs 1073741824 := by
    constructor
    · rintro ⟨i, h1, h2⟩ hw
      have := hw i h1
      simp at h2
      omega
    · intro hw
      refine Classical.byContradiction fun hn => hw fun i hi => Classical.byContradiction fun h => hn ⟨i, hi, ?_⟩
      simp only [decide_eq_true_eq]
      exact h
  rw [show decide (∃ i, i < xs.length ∧ decide (¬ (-1073741824 ≤ nth xs i ∧ nth xs i ≤ 1073741824)) = true) = decide (¬ Within xs 1073741824) from decide_eq_decide.2 e] at l
  exact l
theorem neg51 {h : List O} {v : Value} {xs : List Int} (hv : Ints h v xs) :
    DR E 43 [v, .func (.func 51) #[] #[]] ⟨h, h.length⟩ (.ret (.bool (decide (¬ Pos xs)))) ⟨h, h.length⟩ := by
  have l := contains43 hE (caps := []) hv fun x => c51 hE
  have e : (∃ i, i < xs.length ∧ decide (nth xs i < 0) = true) ↔ ¬ Pos xs := by
    simp only [decide_eq_true_eq, Pos]
    constructor
    · rintro ⟨i, h1, h2⟩ h3; have := h3 i h1; omega
    · intro h3; refine Classical.byContradiction fun hn => h3 fun i hi => Classical.byContradiction fun h => hn ⟨i, hi, by omega⟩
  rw [show decide (∃ i, i < xs.length ∧ decide (nth xs i < 0) = true) = decide (¬ Pos xs) from decide_eq_decide.2 e] at l
  exact l

theorem isRight32 {h : List O} {v w : Value} {A : List (List Int)} {B C X Y R : List Int} {kind xd yd : Int} (hp : LpAt h v A B C) (hr : ResAt h w kind X xd Y yd R) (hv : Valid A B C) :
    DR E 32 [v, w] ⟨h, h.length⟩ (.ret (.bool (decide (Right A B C kind X xd Y yd R)))) ⟨h, h.length⟩ := by
  refine hE.fn (body := rb32) rfl (by decide) ?_
  unfold rb32
  rw [DW_seq, DW_ops]
  refine DL_boxed fun h1 p hx1 hlen1 hp1 hb1 => DL_boxed fun h' q hx2 hlen2 hq hb2 => ?_
  simp at hb1 hb2
  replace hp := (hp.ext hx1).ext hx2
  replace hr := (hr.ext hx1).ext hx2
  have hp0 := hp
  have hr0 := hr
  obtain ⟨vA, vB, vC, rfl, r0, r1, r2, rN, hA, hB, hC⟩ := boxLp (h := h) (hb1.ext hx2) rfl hp
  obtain ⟨vX, vY, vR, rfl, s0, s1, s2, s3, s4, s5, sN, hX, hY, hR, k1, k2, k3⟩ := boxRes hb2 rfl hr
  have hX0 := hX
  have hY0 := hY
  have hR0 := hR
  have hB0 := hB
  have hC0 := hC
  obtain ⟨aX, bX, oX, cX, rfl, hX2, hX3, hX4, hX5⟩ := hX
  obtain ⟨aY, bY, oY, cY, rfl, hY2, hY3, hY4, hY5⟩ := hY
  obtain ⟨aR, bR, oR, cR, rfl, hR2, hR3, hR4, hR5⟩ := hR
  obtain ⟨aA, bA, oA, cA, vs, rfl, hA2, hA3, hA4⟩ := hA
  obtain ⟨aB, bB, oB, cB, rfl, hB2, hB3, hB4, hB5⟩ := hB
  obtain ⟨aC, bC, oC, cC, rfl, hC2, hC3, hC4, hC5⟩ := hC
  have v1 := hv.1
  have v2 := hv.2.1
  have v4 := hv.2.2.2.1
  have inv : ∀ {P : Prop}, (Right A B C kind X xd Y yd R → P) → ¬ P → ¬ Right A B C kind X xd Y yd R := fun h k v => k (h v)
  simp [s0, s1, s2, s3, s4, s5, -List.length_append, -List.append_assoc]
  have hx3 : Ext h' (h' ++ [.cells [.int .i64 xd, .int .i64 yd] 3 (some 0)]) := Ext.snoc _ _
  have i2 := ints2 (h := h') (el := 3) (own := some 0) k2 k3
  generalize e3 : h' ++ [.cells [.int .i64 xd, .int .i64 yd] 3 (some 0)] = h3 at *
  have hx4 : Ext h3 (h3 ++ [.cells [.slice aX X.length cX, .slice aY Y.length cY, .slice aR R.length cR, .slice (some ⟨h'.length, 0, none⟩) 2 2] 23 (some 0)]) := Ext.snoc _ _
  have b4 := Boxed.snoc h3 [.slice aX X.length cX, .slice aY Y.length cY, .slice aR R.length cR, .slice (some ⟨h'.length, 0, none⟩) 2 2] 23 (some 0)
  generalize e4 : h3 ++ [.cells [.slice aX X.length cX, .slice aY Y.length cY, .slice aR R.length cR, .slice (some ⟨h'.length, 0, none⟩) 2 2] 23 (some 0)] = h4 at *
  have hx : Ext h' h4 := hx3.trans hx4
  have t0 := b4.rd 0
  have t1 := b4.rd 1
  have t2 := b4.rd 2
  have t3 := b4.rd 3
  simp at t0 t1 t2 t3
  have lX := big47 hE (hX0.ext hx)
  have lY := big47 hE (hY0.ext hx)
  have lR := big47 hE (hR0.ext hx)
  have l2 := big47 hE (i2.ext hx4)
  have e2 : Within [xd, yd] 1073741824 ↔ Sm xd ∧ Sm yd := by
    constructor
    · intro h; exact ⟨h 0 (by simp), h 1 (by simp)⟩
    · rintro ⟨h1, h2⟩ i hi
      match i, hi with
      | 0, _ => exact h1
      | 1, _ => exact h2
  replace s0 := hx.rd s0
  replace s1 := hx.rd s1
  replace s2 := hx.rd s2
  replace s3 := hx.rd s3
  replace s4 := hx.rd s4
  replace s5 := hx.rd s5
  replace r0 := hx.rd r0
  replace r1 := hx.rd r1
  replace r2 := hx.rd r2
  replace rN := hx.rdN rN
  replace hp0 := hp0.ext hx
  replace hX0 := hX0.ext hx
  replace hY0 := hY0.ext hx
  replace hR0 := hR0.ext hx
  replace hB0 := hB0.ext hx
  replace hC0 := hC0.ext hx
  rw [DW_loop_unfold]
  by_cases c1 : ¬ Within X 1073741824
  · have hv := inv (fun v => v.1.1) c1
    simp [t0, DC_of lX, c1, hv]
  replace c1 := Classical.not_not.1 c1
  simp [t0, DC_of lX, c1]
  rw [DW_loop_unfold]
  by_cases c2 : ¬ Within Y 1073741824
  · have hv := inv (fun v => v.1.2.1) c2
    simp [t1, DC_of lY, c2, hv, w64_id]
  replace c2 := Classical.not_not.1 c2
  simp [t1, DC_of lY, c2, w64_id]
  rw [DW_loop_unfold]
  by_cases c3 : ¬ Within R 1073741824
  · have hv := inv (fun v => v.1.2.2.1) c3
    simp [t2, DC_of lR, c3, hv, w64_id]
  replace c3 := Classical.not_not.1 c3
  simp [t2, DC_of lR, c3, w64_id]
  rw [DW_loop_unfold]
  by_cases c4 : ¬ (Sm xd ∧ Sm yd)
  · have hv := inv (fun v => v.1.2.2.2) c4
    have c4' : ¬ Within [xd, yd] 1073741824 := fun h => c4 (e2.1 h)
    simp [t3, DC_of l2, c4', hv, w64_id]
  replace c4 := Classical.not_not.1 c4
  have c4' : Within [xd, yd] 1073741824 := e2.2 c4
  simp [t3, DC_of l2, c4', w64_id]
  rw [DW_loop_unfold]
  simp [w64_id]
  refine resQ_forget (fun fr => get fr 2 = .pointer (some ⟨p, 0, none⟩) ∧ get fr 3 = .pointer (some ⟨q, 0, none⟩)) ?_ (by simp)
  rintro fr ⟨g2, g3⟩
  have hbd : Bnd X xd Y yd R := ⟨c1, c2, c3, c4⟩
  have key : Right A B C kind X xd Y yd R ↔ (kind = 1 ∧ Opt A B C X xd Y yd R ∨ kind = 2 ∧ Emp A B C X xd Y yd R ∨ kind = 3 ∧ Unb A B C X xd Y yd R) := ⟨fun h => h.2, fun h => ⟨hbd, h⟩⟩
  have ls := isSolution48 hE hp0 hX0 hv c1 c4.1
  by_cases d1 : kind = 1
  · have key1 : Right A B C kind X xd Y yd R ↔ Opt A B C X xd Y yd R := by
      rw [key]
      constructor
      · rintro (⟨_, h⟩ | ⟨h, _⟩ | ⟨h, _⟩)
        · exact h
        · omega
        · omega
      · exact fun h => .inl ⟨d1, h⟩
    replace inv : ∀ {P : Prop}, (Opt A B C X xd Y yd R → P) → ¬ P → ¬ Right A B C kind X xd Y yd R := fun h k v => k (h (key1.1 v))
    replace d1 := eq_true d1
    by_cases f1 : ¬ R.length = 0
    · have hv := inv (fun v => v.2.2.2.1) f1
      simp [s0, s1, s2, s3, s4, s5, r0, r1, r2, g2, g3, d1, show 0 < R.length by omega, hv]
    by_cases f2 : yd < 1
    · have hv := inv (fun v => v.2.1) (by omega)
      simp [s0, s1, s2, s3, s4, s5, r0, r1, r2, g2, g3, d1, show ¬ 0 < R.length by omega, f2, hv]
    by_cases f3 : ¬ Y.length = B.length
    · have hv := inv (fun v => v.2.2.1) f3
      simp [s0, s1, s2, s3, s4, s5, r0, r1, r2, g2, g3, d1, show ¬ 0 < R.length by omega, f2, f3, hv]
    have f3' := Classical.not_not.1 f3
    replace f3 := eq_true (Classical.not_not.1 f3)
    by_cases f4 : ¬ IsSol A B C X xd
    · have hv := inv (fun v => v.1) f4
      simp [s0, s1, s2, s3, s4, s5, r0, r1, r2, rN, g2, g3, d1, show ¬ 0 < R.length by omega, f2, f3, DC_of ls, f4, hv]
    replace f4 := Classical.not_not.1 f4
    simp [s0, s1, s2, s3, s4, s5, r0, r1, r2, rN, g2, g3, d1, show ¬ 0 < R.length by omega, f2, f3, DC_of ls, f4]
    refine DW_loop (fun k fr st => ∃ i : Nat, i + k = C.length ∧ st.fl = h.length ∧ Ext h4 st.h ∧ get fr 2 = .pointer (some ⟨p, 0, none⟩) ∧ get fr 3 = .pointer (some ⟨q, 0, none⟩) ∧ get fr 64 = .slice aC C.length cC ∧ get fr 65 = .int .i64 C.length ∧ get fr 66 = .int .i64 i ∧ ∀ j, j < i → dotZ Y (colL A j) A.length ≤ yd * nth C j) ?_ (k := C.length) ?_
    · rintro k fr ⟨H, f⟩ ⟨i, hi, hf, hH, g2, g3, g64, g65, g66, hall⟩
      simp at hf hH
      subst hf
      by_cases hlt : i < C.length
      · obtain rfl := hC2 (by omega)
        have t2' := hv.2.2.2.2.2.1 i hlt
        have t3' := mul_bound (a := 1073741824) (b := 1000000) c4.2 t2'
        have t5 : IntKind.i64.wrap (yd * nth C i) = yd * nth C i := w64_id (by omega) (by omega)
        simp [g2, g3, g64, g65, g66, hlt, hH.rd (hx.rd (hC3 i hlt)), hH.rd s3, hH.rdN rN]
        refine (column49 hE (hp0.ext hH) hv.rect v1 hlt).imp ?_
        rintro o ⟨H2, f2⟩ ⟨vc, rfl, x1, x2, x3⟩
        simp at x1 x2 x3
        subst x2
        have ld := dot28 hE (hY0.ext (hH.trans x1)) x3 (by simp; omega)
        have w1 := dot_small' (n := A.length) c2 (hv.col i) (by omega)
        have w2 : IntKind.i64.wrap (dotZ Y (colL A i) Y.length) = dotZ Y (colL A i) A.length := by
          rw [show Y.length = A.length by omega]; exact w64_id (by omega) (by omega)
        rw [w2] at ld
        have q4 := (hH.trans x1).rd s4
        by_cases c5 : yd * nth C i < dotZ Y (colL A i) A.length
        · have hv := inv (fun v => v.2.2.2.2.1 i hlt) (by omega)
          simp [g2, g3, q4, DC_of ld, t5, c5, hv, show Nat.testBit 31 4 = true from rfl]
        · simp [g2, g3, g66, q4, DC_of ld, t5, c5, show Nat.testBit 31 4 = true from rfl]
          refine ⟨k - 1, by omega, i + 1, by omega, hH.trans x1, g64, g65, by rw [w64_id] <;> omega, fun j hj => ?_⟩
          rcases Nat.lt_succ_iff_lt_or_eq.1 hj with hj | rfl
          · exact hall j hj
          · omega
      · have : i = C.length := by omega
        subst this
        have m1 := dot28 hE (hC0.ext hH) (hX0.ext hH) (by have := f4.2.1; omega)
        have m2 := dot28 hE (hB0.ext hH) (hY0.ext hH) (by omega)
        have t1' := dot_small (n := C.length) hv.2.2.2.2.2.1 c1 v4
        have t2' := dot_small (n := B.length) hv.2.2.2.2.1 c2 (by omega)
        rw [show IntKind.i64.wrap (dotZ C X C.length) = dotZ C X C.length from w64_id (by omega) (by omega)] at m1
        rw [show IntKind.i64.wrap (dotZ B Y B.length) = dotZ B Y B.length from w64_id (by omega) (by omega)] at m2
        have m3 := same50 hE (h := H) (a := dotZ C X C.length) (b := yd) (c := dotZ B Y B.length) (d := xd) (by omega) (by omega) (by omega) (by omega)
        have e : Right A B C kind X xd Y yd R ↔ dotZ C X C.length * yd = dotZ B Y B.length * xd := by
          rw [key1]
          exact ⟨fun h => h.2.2.2.2.2, fun h => ⟨f4, by omega, f3', by omega, hall, h⟩⟩
        simp [g2, g3, g64, g65, g66, hH.rd r1, hH.rd r2, hH.rd s1, hH.rd s2, hH.rd s3, hH.rd s4, DC_of m1, DC_of m2, DC_of m3]
        rw [e]
    · exact ⟨0, by simp [g2, g3, Ext.refl]⟩
  by_cases d2 : kind = 2
  · have key1 : Right A B C kind X xd Y yd R ↔ Emp A B C X xd Y yd R := by
      rw [key]
      constructor
      · rintro (⟨h, _⟩ | ⟨_, h⟩ | ⟨h, _⟩)
        · omega
        · exact h
        · omega
      · exact fun h => .inr (.inl ⟨d2, h⟩)
    replace inv : ∀ {P : Prop}, (Emp A B C X xd Y yd R → P) → ¬ P → ¬ Right A B C kind X xd Y yd R := fun h k v => k (h (key1.1 v))
    replace d2 := eq_true d2
    have w0 : IntKind.i64.wrap ((X.length : Int) + R.length) = ((X.length + R.length : Nat) : Int) := by rw [w64_id] <;> omega
    by_cases f1 : ¬ X.length + R.length = 0
    · have hv : ¬ Right A B C kind X xd Y yd R := inv (fun v => (⟨v.1, v.2.2.2.1⟩ : X.length = 0 ∧ R.length = 0)) (by omega)
      simp [s0, s1, s2, s3, s4, s5, r0, r1, r2, g2, g3, d1, d2, w0, -Int.natCast_add, show 0 < X.length + R.length by omega, hv]
    have f1' : ¬ 0 < X.length + R.length := by omega
    by_cases f2 : ¬ xd = 0
    · have hv := inv (fun v => v.2.1) f2
      simp [s0, s1, s2, s3, s4, s5, r0, r1, r2, g2, g3, d1, d2, w0, -Int.natCast_add, f1', f2, hv]
    replace f2 := eq_true (Classical.not_not.1 f2)
    by_cases f3 : ¬ yd = 0
    · have hv := inv (fun v => v.2.2.1) f3
      simp [s0, s1, s2, s3, s4, s5, r0, r1, r2, g2, g3, d1, d2, w0, -Int.natCast_add, f1', f2, f3, hv]
    replace f3 := eq_true (Classical.not_not.1 f3)
    by_cases f4 : ¬ Y.length = B.length
    · have hv := inv (fun v => v.2.2.2.2.1) f4
      simp [s0, s1, s2, s3, s4, s5, r0, r1, r2, g2, g3, d1, d2, w0, -Int.natCast_add, f1', f2, f3, f4, hv]
    have f4' := Classical.not_not.1 f4
    replace f4 := eq_true (Classical.not_not.1 f4)
    simp [s0, s1, s2, s3, s4, s5, r0, r1, r2, g2, g3, d1, d2, w0, -Int.natCast_add, f1', f2, f3, f4]
    refine DW_loop (fun k fr st => ∃ i : Nat, i + k = C.length ∧ st.fl = h.length ∧ Ext h4 st.h ∧ get fr 2 = .pointer (some ⟨p, 0, none⟩) ∧ get fr 3 = .pointer (some ⟨q, 0, none⟩) ∧ get fr 129 = .int .i64 C.length ∧ get fr 130 = .int .i64 i ∧ ∀ j, j < i → 0 ≤ dotZ Y (colL A j) A.length) ?_ (k := C.length) ?_
    · rintro k fr ⟨H, f⟩ ⟨i, hi, hf, hH, g2, g3, g129, g130, hall⟩
      simp at hf hH
      subst hf
      by_cases hlt : i < C.length
      · simp [g2, g3, g129, g130, hlt, hH.rd s3, hH.rdN rN]
        refine (column49 hE (hp0.ext hH) hv.rect v1 hlt).imp ?_
        rintro o ⟨H2, f2⟩ ⟨vc, rfl, x1, x2, x3⟩
        simp at x1 x2 x3
        subst x2
        have ld := dot28 hE (hY0.ext (hH.trans x1)) x3 (by simp; omega)
        have w1 := dot_small' (n := A.length) c2 (hv.col i) (by omega)
        have w2 : IntKind.i64.wrap (dotZ Y (colL A i) Y.length) = dotZ Y (colL A i) A.length := by
          rw [show Y.length = A.length by omega]; exact w64_id (by omega) (by omega)
        rw [w2] at ld
        by_cases c5 : dotZ Y (colL A i) A.length < 0
        · have hv := inv (fun v => v.2.2.2.2.2.1 i hlt) (by omega)
          simp [g2, g3, DC_of ld, c5, hv, show Nat.testBit 31 4 = true from rfl]
        · simp [g2, g3, g130, DC_of ld, c5, show Nat.testBit 31 4 = true from rfl]
          refine ⟨k - 1, by omega, i + 1, by omega, hH.trans x1, g129, by rw [w64_id] <;> omega, fun j hj => ?_⟩
          rcases Nat.lt_succ_iff_lt_or_eq.1 hj with hj | rfl
          · exact hall j hj
          · omega
      · have : i = C.length := by omega
        subst this
        have m2 := dot28 hE (hB0.ext hH) (hY0.ext hH) (by omega)
        have t2' := dot_small (n := B.length) hv.2.2.2.2.1 c2 (by omega)
        rw [show IntKind.i64.wrap (dotZ B Y B.length) = dotZ B Y B.length from w64_id (by omega) (by omega)] at m2
        have e : Right A B C kind X xd Y yd R ↔ dotZ B Y B.length < 0 := by
          rw [key1]
          exact ⟨fun h => h.2.2.2.2.2.2, fun h => ⟨by omega, of_eq_true f2, of_eq_true f3, by omega, f4', hall, h⟩⟩
        simp [g2, g3, g129, g130, hH.rd r1, hH.rd r2, hH.rd s1, hH.rd s2, hH.rd s3, hH.rd s4, DC_of m2, e]
    · exact ⟨0, by simp [g2, g3, Ext.refl]⟩
  by_cases d3 : kind = 3
  · have key1 : Right A B C kind X xd Y yd R ↔ Unb A B C X xd Y yd R := by
      rw [key]
      constructor
      · rintro (⟨h, _⟩ | ⟨h, _⟩ | ⟨_, h⟩)
        · omega
        · omega
        · exact h
      · exact fun h => .inr (.inr ⟨d3, h⟩)
    replace inv : ∀ {P : Prop}, (Unb A B C X xd Y yd R → P) → ¬ P → ¬ Right A B C kind X xd Y yd R := fun h k v => k (h (key1.1 v))
    replace d3 := eq_true d3
    have lp := neg51 hE hR0
    by_cases f1 : ¬ Y.length = 0
    · have hv := inv (fun v => v.2.1) f1
      simp [s0, s1, s2, s3, s4, s5, r0, r1, r2, g2, g3, d1, d2, d3, show 0 < Y.length by omega, hv]
    have f1' : ¬ 0 < Y.length := by omega
    by_cases f2 : ¬ yd = 0
    · have hv := inv (fun v => v.2.2.1) f2
      simp [s0, s1, s2, s3, s4, s5, r0, r1, r2, g2, g3, d1, d2, d3, f1', f2, hv]
    replace f2 := eq_true (Classical.not_not.1 f2)
    by_cases f3 : ¬ IsSol A B C X xd
    · have hv := inv (fun v => v.1) f3
      simp [s0, s1, s2, s3, s4, s5, r0, r1, r2, rN, g2, g3, d1, d2, d3, f1', f2, DC_of ls, f3, hv]
    replace f3 := Classical.not_not.1 f3
    by_cases f4 : ¬ R.length = C.length
    · have hv := inv (fun v => v.2.2.2.1) f4
      simp [s0, s1, s2, s3, s4, s5, r0, r1, r2, rN, g2, g3, d1, d2, d3, f1', f2, DC_of ls, f3, f4, hv]
    have f4' := Classical.not_not.1 f4
    replace f4 := eq_true (Classical.not_not.1 f4)
    by_cases f5 : ¬ Pos R
    · have hv := inv (fun v => v.2.2.2.2.1) f5
      simp [s0, s1, s2, s3, s4, s5, r0, r1, r2, rN, g2, g3, d1, d2, d3, f1', f2, DC_of ls, DC_of lp, f3, f4, f5, hv]
    replace f5 := Classical.not_not.1 f5
    simp [s0, s1, s2, s3, s4, s5, r0, r1, r2, rN, g2, g3, d1, d2, d3, f1', f2, DC_of ls, DC_of lp, f3, f4, f5]
    refine DW_loop (fun k fr st => ∃ i : Nat, i + k = A.length ∧ st = ⟨h4, h.length⟩ ∧ get fr 2 = .pointer (some ⟨p, 0, none⟩) ∧ get fr 3 = .pointer (some ⟨q, 0, none⟩) ∧ get fr 182 = .slice aA A.length cA ∧ get fr 183 = .int .i64 A.length ∧ get fr 184 = .int .i64 i ∧ ∀ j, j < i → dotZ (nthR A j) R C.length = 0) ?_ (k := A.length) ?_
    · rintro k fr st ⟨i, hi, rfl, g2, g3, g182, g183, g184, hall⟩
      by_cases hlt : i < A.length
      · have eA := hA2 (by omega)
        obtain ⟨hr, hI⟩ := hA3 i hlt
        replace hr := hx.rd hr
        replace hI := hI.ext hx
        obtain ⟨q1, q2⟩ := hv.2.2.2.2.2.2 i hlt
        have ld := dot28 hE hI hR0 (by omega)
        have t1 := dot_small (n := (nthR A i).length) q2 c3 (by omega)
        rw [show IntKind.i64.wrap (dotZ (nthR A i) R (nthR A i).length) = dotZ (nthR A i) R (nthR A i).length from w64_id (by omega) (by omega), q1] at ld
        by_cases c6 : dotZ (nthR A i) R C.length = 0
        · simp [g2, g3, g182, g183, g184, hlt, r0, eA, hr, s5, DC_of ld, c6]
          refine ⟨k - 1, by omega, i + 1, by omega, by rw [w64_id] <;> omega, fun j hj => ?_⟩
          rcases Nat.lt_succ_iff_lt_or_eq.1 hj with hj | rfl
          · exact hall j hj
          · exact c6
        · have hv := inv (fun v => v.2.2.2.2.2.1 i hlt) c6
          simp [g2, g3, g182, g183, g184, hlt, r0, eA, hr, s5, DC_of ld, c6, hv]
      · have : i = A.length := by omega
        subst this
        have l2 := dot28 hE hC0 hR0 (by omega)
        have t2 := dot_small (n := C.length) hv.2.2.2.2.2.1 c3 v4
        rw [show IntKind.i64.wrap (dotZ C R C.length) = dotZ C R C.length from w64_id (by omega) (by omega)] at l2
        have e : Right A B C kind X xd Y yd R ↔ dotZ C R C.length < 0 := by
          rw [key1]
          exact ⟨fun h => h.2.2.2.2.2.2, fun h => ⟨f3, by omega, of_eq_true f2, f4', f5, hall, h⟩⟩
        simp [g2, g3, g182, g183, g184, r0, r1, r2, s5, DC_of l2, e]
    · exact ⟨0, by simp [g2, g3]⟩
  have hv : ¬ Right A B C kind X xd Y yd R := fun h => by
    rcases key.1 h with ⟨h, _⟩ | ⟨h, _⟩ | ⟨h, _⟩ <;> omega
  simp [s0, s1, s2, s3, s4, s5, r0, r1, r2, g2, g3, d1, d2, d3, hv]

theorem verify13 {h : List O} {v w : Value} {A : List (List Int)} {B C X Y R : List Int} {kind xd yd : Int} (hp : LpAt h v A B C) (hr : ResAt h w kind X xd Y yd R) :
    DR E 13 [v, w] ⟨h, h.length⟩ (.ret (.int .i64 (if Valid A B C then if Right A B C kind X xd Y yd R then 0 else 5 else 120))) ⟨h, h.length⟩ := by
  refine hE.fn (body := rb13) rfl (by decide) ?_
  unfold rb13
  rw [DW_seq, DW_ops]
  refine DL_boxed fun h1 p hx1 hlen1 hp1 hb1 => DL_boxed fun h' q hx2 hlen2 hq hb2 => ?_
  simp at hb1 hb2
  replace hp := (hp.ext hx1).ext hx2
  replace hr := (hr.ext hx1).ext hx2
  have hp0 := hp
  have hr0 := hr
  obtain ⟨vA, vB, vC, rfl, r0, r1, r2, rN, hA, hB, hC⟩ := boxLp (h := h) (hb1.ext hx2) rfl hp
  obtain ⟨vX, vY, vR, rfl, s0, s1, s2, s3, s4, s5, sN, hX, hY, hR, k1, k2, k3⟩ := boxRes hb2 rfl hr
  have l24 := check24 hE hp0
  by_cases c0 : ¬ Valid A B C
  · simp [rN, DC_of l24, c0]
  replace c0 := Classical.not_not.1 c0
  have lr := isRight32 hE hp0 hr0 c0
  by_cases c1 : Right A B C kind X xd Y yd R
  · simp [rN, sN, DC_of l24, c0, DC_of lr, c1]
  · simp [rN, sN, DC_of l24, c0, DC_of lr, c1]
end Go.Proofs.Ytdbkhecnkhjhpaa
