/- Texts that were built one by one: Lx5, Lx6, Lx7. -/
import Derived.Test.YtdbkhecnkhjhpaaBk
/- The reference's size; the law of solving. -/
namespace Go.Proofs.Ytdbkhecnkhjhpaa
open Go Go.Ai
set_option linter.unusedSimpArgs false
set_option linter.unusedVariables false
attribute [local instance] Classical.propDecidable
variable {E : Env} (hE : LpE E) {h : List O}

/-- A list of which parts may be taken. -/
def PartOk (h : List O) (v : Value) : Prop := ∃ a n c, v = .slice a n c ∧ n ≤ c ∧ ∀ b o, a = some ⟨b, o, none⟩ → tagOk h 1 b = true
theorem PartOk.ext {h h' : List O} {v : Value} (hp : PartOk h v) (e : Ext h h') : PartOk h' v := by
  obtain ⟨a, n, c, rfl, h1, h2⟩ := hp
  refine ⟨a, n, c, rfl, h1, fun b o ha => ?_⟩
  have := h2 b o ha
  unfold tagOk at this ⊢
  cases hb : h[b]? with
  | none => rw [hb] at this; simp at this
  | some x => rw [get_ext e hb]; rw [hb] at this; exact this
theorem PartOk.keep {h h' : List O} {v : Value} (hp : PartOk h v) (e : Keep h h') : PartOk h' v := by
  obtain ⟨a, n, c, rfl, h1, h2⟩ := hp
  refine ⟨a, n, c, rfl, h1, fun b o ha => ?_⟩
  have := h2 b o ha
  unfold tagOk at this ⊢
  cases hb : h[b]? with
  | none => rw [hb] at this; simp at this
  | some x => rw [e.2 b (List.getElem?_eq_some_iff.1 hb).1, hb]; rw [hb] at this; exact this
theorem absS_snoc (xs : List Int) (y : Int) : absS (xs ++ [y]) (xs ++ [y]).length = absS xs xs.length + y.natAbs := by
  simp only [absS, List.length_append, List.length_singleton, nsum]
  congr 1
  · exact nsum_congr fun i hi => by rw [nth_snoc_lt hi]
  · rw [nth_snoc_eq]
theorem szN_big {A : List (List Int)} {B C : List Int} {i : Nat} (h : 268435457 ≤ szN A B C i) : ∀ k, 268435457 ≤ szN A B C (i + k)
  | 0 => h
  | k + 1 => by
    have ih := szN_big h k
    show 268435457 ≤ min (szN A B C (i + k)) 268435457 * allZ _
    rw [Nat.min_eq_right ih]
    exact Nat.le_mul_of_pos_right _ (allZ_pos _)
include hE
theorem size26 {vA vB vC : Value} {A : List (List Int)} {B C : List Int} (hp : LpAt h (.agg #[vA, vB, vC]) A B C) (hv : Valid A B C) (hpt : PartOk h vB) : DR E 26 [.agg #[vA, vB, vC]] ⟨h, h.length⟩ (.ret (.int .i64 (sizeZ A B C : Nat))) ⟨h, h.length⟩ := by
  refine hE.fn (body := rb26) rfl (by decide) ?_
  unfold rb26
  rw [DW_seq, DW_ops]
  refine DL_boxed fun h' p hx hlen hp0 hb => ?_
  simp at hb
  replace hp := hp.ext hx
  replace hpt := hpt.ext hx
  obtain ⟨vA', vB', vC', eq, r0, r1, r2, rN, hA, hB, hC⟩ := boxLp (h := h) (v := .agg #[vA, vB, vC]) hb rfl hp
  simp only [Value.agg.injEq, Array.mk.injEq, List.cons.injEq, and_true] at eq
  obtain ⟨rfl, rfl, rfl⟩ := eq
  obtain ⟨v1, v2, v3, v4, v5, v6, v7⟩ := id hv
  have lC := total45 hE hC v6 (by omega)
  obtain ⟨aB, bB, oB, cB, rfl, hB2, hB3, hB4, hB5⟩ := hB
  obtain ⟨aB', nB', cB', eB, hcap, htag⟩ := hpt
  simp only [Value.slice.injEq] at eB
  obtain ⟨rfl, rfl, rfl⟩ := eB
  obtain ⟨aA, bA, oA, cA, vs, rfl, hA2, hA3, hA4⟩ := hA
  have s0 := szN_le hv 0 (by omega)
  have aC := allZ_le v6 (by omega)
  have e0 : max (1 : Int) (absS C C.length : Nat) = (szN A B C 0 : Nat) := by simp only [szN, allZ]; omega
  simp [r2, DC_of lC]
  refine DW_loop (fun k fr st => ∃ i : Nat, i + k = A.length ∧ st = ⟨h', h.length⟩ ∧ get fr 1 = .pointer (some ⟨p, 0, none⟩) ∧ get fr 3 = .int .i64 (szN A B C i : Nat) ∧ szN A B C i ≤ 268435456 ∧ get fr 4 = .int .i64 i) ?_ (k := A.length) ?_
  · rintro k fr st ⟨i, hi, rfl, g1, g3, hsz, g4⟩
    by_cases hlt : i < A.length
    · obtain rfl := hA2 (by omega)
      obtain rfl := hB2 (by omega)
      obtain ⟨hr, hI⟩ := hA3 i hlt
      have hiB : i < B.length := by omega
      have lr := total45 hE hI (v7 i hlt).2 (by have := (v7 i hlt).1; omega)
      have sl := sliceV_lohi (h := h') (b := bB) (o := oB) (len := B.length) (cap := cB) (lo := i) (hi := i + 1) (htag bB oB rfl) (by omega) (by omega) (by omega)
      rw [show i + 1 - i = 1 by omega] at sl
      have hB1 : Ints h' (.slice (some ⟨bB, oB + i, none⟩) 1 (cB - i)) [nth B i] := ⟨_, bB, oB + i, cB - i, rfl, fun _ => rfl, fun j hj => by
        have : j = 0 := by simpa using hj
        subst this
        exact hB3 i hiB, fun j => by
        by_cases hj : j = 0
        · subst hj; have := v5 i hiB; simp [nth] at *; constructor <;> omega
        · rw [nth_ge (by simp; omega)]; constructor <;> omega, by simp⟩
      have lb := total45 hE hB1 (fun j hj => by
        have : j = 0 := by simpa using hj
        subst this
        exact v5 i hiB) (by simp)
      have eb : absS [nth B i] [nth B i].length = (nth B i).natAbs := by simp [absS, nsum, nth]
      rw [eb] at lb
      have bb := v5 i hiB
      have ba := absS_le (M := 1000000) (v7 i hlt).2 _ (Nat.le_refl _)
      have la := (v7 i hlt).1
      have ba2 : (nthR A i).length * 1000000 ≤ 60 * 1000000 := Nat.mul_le_mul_right _ (by omega)
      have e1 : IntKind.i64.wrap ((absS (nthR A i) (nthR A i).length : Nat) + ((nth B i).natAbs : Int)) = (absS (nthR A i) (nthR A i).length : Nat) + ((nth B i).natAbs : Int) := by rw [w64_id] <;> omega
      have em : max (1 : Int) ((absS (nthR A i) (nthR A i).length : Nat) + ((nth B i).natAbs : Int)) = (allZ (nthR A i ++ [nth B i]) : Nat) := by
        unfold allZ; rw [absS_snoc]; omega
      have e2 : IntKind.i64.wrap ((i : Int) + 1) = ((i + 1 : Nat) : Int) := by rw [w64_id] <;> omega
      have hm1 := allZ_pos (nthR A i ++ [nth B i])
      simp only [Int.natCast_add] at e2
      simp only [Int.natCast_add, Int.natCast_one] at sl
      have hq : (268435456 : Int).tdiv (allZ (nthR A i ++ [nth B i]) : Nat) = ((268435456 / allZ (nthR A i ++ [nth B i]) : Nat) : Int) := rfl
      have s1 : szN A B C (i + 1) = szN A B C i * allZ (nthR A i ++ [nth B i]) := by
        show min (szN A B C i) 268435457 * _ = _
        rw [Nat.min_eq_left (by omega)]
      generalize allZ (nthR A i ++ [nth B i]) = m at em hm1 hq s1
      have hb3 : (268435456 / m : Nat) ≤ 268435456 := Nat.div_le_self _ _
      have d1 : ∀ s, 268435456 / m < s → 268435456 < s * m := fun s hs => (Nat.div_lt_iff_lt_mul hm1).1 hs
      have d2 := Nat.div_mul_le_self 268435456 m
      generalize 268435456 / m = Qt at hq hb3 d1 d2
      have e3 : IntKind.i64.wrap (Qt : Int) = (Qt : Int) := by rw [w64_id] <;> omega
      have hm0 : (m : Int) ≠ 0 := by omega
      have bq := binV_quo (k := .i64) (a := 268435456) hm0
      rw [hq, e3] at bq
      by_cases hbig : Qt < szN A B C i
      · have hbig' : (Qt : Int) < (szN A B C i : Nat) := by omega
        have hlarge : 268435457 ≤ szN A B C (i + 1) := by
          rw [s1]
          have := d1 _ hbig
          omega
        have hz : sizeZ A B C = 268435457 := by
          have := szN_big hlarge (A.length - (i + 1))
          rw [show i + 1 + (A.length - (i + 1)) = A.length by omega] at this
          unfold sizeZ; omega
        simp [g1, g3, g4, hlt, r0, r1, hr, DC_of lr, e2, sl, DC_of lb, e1, em, bq, eq_true hbig', hz]
      · have hbig' : ¬ (Qt : Int) < (szN A B C i : Nat) := by omega
        have hsm : szN A B C (i + 1) ≤ 268435456 := by
          rw [s1]
          have : szN A B C i * m ≤ Qt * m := Nat.mul_le_mul_right _ (by omega)
          omega
        have e4 : IntKind.i64.wrap ((szN A B C i : Nat) * (m : Int)) = (szN A B C (i + 1) : Nat) := by
          rw [s1, Int.natCast_mul, w64_id] <;> (rw [← Int.natCast_mul, ← s1]; omega)
        simp [g1, g3, g4, hlt, r0, r1, hr, DC_of lr, e2, sl, DC_of lb, e1, em, bq, eq_false hbig', e4]
        exact ⟨k - 1, by omega, i + 1, by omega, rfl, hsm, by omega⟩
    · have : i = A.length := by omega
      subst this
      simp [g1, g3, g4, r0]
      simp only [sizeZ]
      omega
  · refine ⟨0, by simp, by simp, by simp, ?_, ?_, by simp⟩
    · simp [e0]
    · simp only [szN]; omega
omit hE in
theorem law8 {A : List (List Int)} {B C : List Int} {vA vB vC : Value} (hp : LpAt h (.agg #[vA, vB, vC]) A B C) (hpt : PartOk h vB) : DR E3 8 [.agg #[vA, vB, vC]] ⟨h, h.length⟩ (.ret (.bool true)) ⟨h, h.length⟩ := by
  refine E3_lp.fn (body := rb8) rfl (by decide) ?_
  unfold rb8
  rw [DW_seq, DW_ops]
  refine DL_boxed fun h1 p hx hlen hp0 hb => ?_
  simp at hb
  replace hp := hp.ext hx
  replace hpt := hpt.ext hx
  obtain ⟨vA', vB', vC', eq, r0, r1, r2, rN, hA, hB, hC⟩ := boxLp (h := h) (v := .agg #[vA, vB, vC]) hb rfl hp
  simp only [Value.agg.injEq, Array.mk.injEq, List.cons.injEq, and_true] at eq
  obtain ⟨rfl, rfl, rfl⟩ := eq
  have l23 := size23 E3_lp hp
  obtain ⟨kind, xd, yd, X, Y, R, w, H', d16, hr, hok, hno, hk⟩ := solve_at hp
  obtain ⟨M, cs, rfl, hcl, wM, eM, lM, rM, rK, hrM⟩ := put_res hr
  have kM := hk.ext eM
  have hk1 := hk.1
  simp only [zeroRes6] at wM
  have mf : min h.length H'.length = h.length := by omega
  have hpM := kM.lp hp
  have rNM := kM.rdN rN
  have l15 := check15 E3_lp hpM
  have l24 := check24 E3_lp hpM
  by_cases hv : Valid A B C
  · have hptM := hpt.keep kM
    have l26 := size26 E3_lp hpM hv hptM
    by_cases hs : sizeZ A B C ≤ 268435456
    · have e0 : errS A B C = 0 := by simp [errS, hv, hs]
      have l14 := verify14 E3_lp hpM hrM
      have hR := hok e0
      rw [if_pos hv, if_pos hR] at l14
      have hgt : ¬ (268435456 : Int) < (sizeZ A B C : Nat) := by omega
      rw [e0] at d16
      simp [rN, DC_of l23, hv, DC_of d16, joined_le (show h.length ≤ h1.length by omega), wM, mf, eq_true hcl, rNM, DC_of l15, DC_of l24, DC_of l26, eq_false hgt, DC_of (sane12' _), rM, DC_of l14]
    · have e2 : errS A B C = 2 := by simp [errS, hv, hs]
      obtain ⟨rfl, rfl, rfl, rfl, rfl, rfl⟩ := hno (by omega)
      have l25 := none25 E3_lp hrM
      have hgt : (268435456 : Int) < (sizeZ A B C : Nat) := by omega
      rw [e2] at d16
      simp [rN, DC_of l23, hv, DC_of d16, joined_le (show h.length ≤ h1.length by omega), wM, mf, eq_true hcl, rNM, DC_of l15, DC_of l24, DC_of l26, eq_true hgt, DC_of (sane12' _), rM, DC_of l25]
  · have e2 : errS A B C = 120 := by simp [errS, hv]
    obtain ⟨rfl, rfl, rfl, rfl, rfl, rfl⟩ := hno (by omega)
    have l25 := none25 E3_lp hrM
    rw [e2] at d16
    simp [rN, DC_of l23, hv, DC_of d16, joined_le (show h.length ≤ h1.length by omega), wM, mf, eq_true hcl, rNM, DC_of l15, DC_of l24, DC_of (sane12' _), rM, DC_of l25]
end Go.Proofs.Ytdbkhecnkhjhpaa
/- The law that nothing is changed. -/
namespace Go.Proofs.Ytdbkhecnkhjhpaa
open Go Go.Ai
set_option linter.unusedSimpArgs false
set_option linter.unusedVariables false
attribute [local instance] Classical.propDecidable
variable {E : Env} (hE : LpE E) {h : List O}

/-- A growing list that began as an empty literal. -/
def OwnE (H : List O) (v : Value) (k : Nat) (cs : List Value) (el : TypeId) (b : Nat) : Prop :=
  (k = 0 ∧ cs = [] ∧ v = emptyS) ∨ (0 < k ∧ v = .slice (some ⟨b, 0, none⟩) k k ∧ H[b]? = some (.cells cs el (some 1)) ∧ cs.length = k)
theorem appendE {H : List O} {v : Value} {k : Nat} {cs : List Value} {el : TypeId} {b bytes fl n : Nat} {new : List Value} (ho : OwnE H v k cs el b) (hone : new.all one1 = true) (hnew : new.length = n) (hn : 0 < n) (hroom : (k + n) * bytes ≤ roomMax) (hfl : fl ≤ b) :
    ∃ base H', v = .slice base k k ∧ appendCells el 1 bytes base k k n new ⟨H, fl⟩ = some (.slice (some ⟨H.length, 0, none⟩) (k + n) (k + n), ⟨H', fl⟩) ∧ H'[H.length]? = some (.cells (cs ++ new) el (some 1)) ∧ H'.length = H.length + 1 ∧ ∀ c, c < H.length → (0 < k → c ≠ b) → H'[c]? = H[c]? := by
  rcases ho with ⟨rfl, rfl, rfl⟩ | ho
  · refine ⟨some ⟨0, 0, some 0⟩, H ++ [.cells new el (some 1)], rfl, ?_, by simp, by simp, fun c hc _ => by rw [List.getElem?_append_left hc]⟩
    simp only [appendCells]
    rw [if_neg (by omega), if_neg (by omega), if_pos ⟨hroom, hone⟩]
    simp [readSlice, kill]
  · exact append_cells (.inr ho) hone hnew hn hroom hfl
theorem append_oneE {H : List O} {v x : Value} {k c bx : Nat} {cs : List Value} {el : TypeId} {b bytes fl : Nat} (ho : OwnE H v k cs el b) (hx : rd H bx 0 = some x) (hone : one1 x = true) (hroom : (k + 1) * bytes ≤ roomMax) (hfl : fl ≤ b) :
    ∃ H', appendV el 1 bytes v (.slice (some ⟨bx, 0, none⟩) 1 c) ⟨H, fl⟩ = some (.slice (some ⟨H.length, 0, none⟩) (k + 1) (k + 1), ⟨H', fl⟩) ∧ H'[H.length]? = some (.cells (cs ++ [x]) el (some 1)) ∧ H'.length = H.length + 1 ∧ ∀ c, c < H.length → (0 < k → c ≠ b) → H'[c]? = H[c]? := by
  obtain ⟨base, H', rfl, h1, h2, h3, h4⟩ := appendE (n := 1) (new := [x]) (bytes := bytes) (fl := fl) ho (by simp [hone]) rfl (by omega) hroom hfl
  refine ⟨H', ?_, h2, h3, h4⟩
  have hread : readSlice H 1 1 (some ⟨bx, 0, none⟩) = some [x] := by
    simp only [rd] at hx
    cases hb : H[bx]? with
    | none => simp [hb] at hx
    | some o =>
      cases o with
      | cells l e w =>
        simp only [hb] at hx
        simp only [readSlice, rdN, hb]
        cases l with
        | nil => simp at hx
        | cons y l => simp at hx; subst hx; simp
      | _ => simp [hb] at hx
  simp only [appendV, hread, bind, Option.bind_some]
  exact h1
/-- A copy of numbers. -/
theorem copy_ints {H : List O} {v : Value} {xs : List Int} {fl : Nat} (hv : Ints H v xs) (hl : xs.length * 8 ≤ roomMax) : ∃ v' H', appendV 3 1 8 emptyS v ⟨H, fl⟩ = some (v', ⟨H', fl⟩) ∧ Ext H H' ∧ Ints H' v' xs := by
  obtain ⟨a, b, o, c, rfl, h2, h3, h4, h5⟩ := hv
  by_cases hn : 0 < xs.length
  · obtain rfl := h2 hn
    have e := append_empty (H := H) (fl := fl) (n := xs.length) (c := c) (el := 3) (size := 1) (bytes := 8) (read_ints h3 hn) (by simp [one1]) hl hn
    refine ⟨_, _, e, Ext.snoc _ _, ?_⟩
    refine ⟨_, H.length, 0, xs.length, rfl, fun _ => rfl, fun i hi => ?_, h4, h5⟩
    simp [rd, hi, nth]
  · have h0 : xs.length = 0 := by omega
    refine ⟨emptyS, H, ?_, Ext.refl _, ?_⟩
    · rw [h0]
      have hr : readSlice H 1 0 a = some [] := by
        unfold readSlice
        split <;> simp
      simp [emptyS, appendV, hr, appendCells]
    · exact ⟨_, 0, 0, 0, by rw [h0]; rfl, fun h => by omega, fun i hi => by omega, h4, h5⟩
/-- Numbers do not lie in a block of lists. -/
theorem ints_kill {H H' : List O} {v : Value} {xs : List Int} {b : Nat} {cs : List Value} {el : TypeId} {own : Option Nat} (hv : Ints H v xs) (hb : H[b]? = some (.cells cs el own)) (hcs : ∀ (i : Nat) (x : Int), cs[i]? ≠ some (Value.int .i64 x)) (hag : ∀ c, c < H.length → c ≠ b → H'[c]? = H[c]?) : Ints H' v xs := by
  obtain ⟨a, b', o, c, rfl, h2, h3, h4, h5⟩ := hv
  refine ⟨a, b', o, c, rfl, h2, fun i hi => ?_, h4, h5⟩
  have h1 := h3 i hi
  have hlt := rd_lt h1
  have hne : b' ≠ b := fun e => by
    subst e
    simp only [rd, hb] at h1
    exact hcs _ _ h1
  simp only [rd] at h1 ⊢
  rw [hag b' hlt hne]; exact h1
/-- Copies of rows. -/
structure Rows9 (h1 : List O) (A : List (List Int)) (i : Nat) (rows : Value) (b : Nat) (cs : List Value) (H : List O) : Prop where
  keep : Keep h1 H
  own : OwnE H rows i cs 23 b
  lb : h1.length ≤ b
  each : ∀ a, a < i → ∃ v, cs[a]? = some v ∧ Ints H v (nthR A a)
theorem Rows9.noInt {h1 H : List O} {A : List (List Int)} {i b : Nat} {rows : Value} {cs : List Value} (K : Rows9 h1 A i rows b cs H) : ∀ (j : Nat) (x : Int), cs[j]? ≠ some (Value.int .i64 x) := by
  intro j x hj
  have hl : cs.length = i := by
    rcases K.own with ⟨h1, h2, _⟩ | ⟨_, _, _, h⟩
    · rw [h1, h2]; rfl
    · exact h
  have hlt := (List.getElem?_eq_some_iff.1 hj).1
  obtain ⟨v, hv, a, b', o, c, rfl, _⟩ := K.each j (by omega)
  rw [hj] at hv; cases hv
/-- A row is copied. -/
theorem Rows9.next {h1 H : List O} {A : List (List Int)} {i b fl : Nat} {rows v : Value} {cs : List Value} (K : Rows9 h1 A i rows b cs H) (hv : Ints H v (nthR A i)) (hl : (nthR A i).length * 8 ≤ roomMax) (hk : (i + 1) * 24 ≤ roomMax) (hfl : fl ≤ h1.length) :
    ∃ v' H1 rows' H' b', appendV 3 1 8 emptyS v ⟨H, fl⟩ = some (v', ⟨H1, fl⟩) ∧ appendV 23 1 24 rows (.slice (some ⟨H1.length, 0, none⟩) 1 1) ⟨H1 ++ [.cells [v'] 23 (some 0)], fl⟩ = some (rows', ⟨H', fl⟩) ∧ Rows9 h1 A (i + 1) rows' b' (cs ++ [v']) H' ∧ v'.cells = #[v'] := by
  obtain ⟨v', H1, e1, x1, hv1⟩ := copy_ints (fl := fl) hv hl
  have hk1 := K.keep.1
  have hlb := K.lb
  have x2 : Ext H (H1 ++ [.cells [v'] 23 (some 0)]) := x1.trans (Ext.snoc _ _)
  have own2 : OwnE (H1 ++ [.cells [v'] 23 (some 0)]) rows i cs 23 b := by
    rcases K.own with h | ⟨h1, h2, h3, h4⟩
    · exact .inl h
    · exact .inr ⟨h1, h2, get_ext x2 h3, h4⟩
  obtain ⟨H', e2, u1, u2, u3⟩ := append_oneE (bytes := 24) (fl := fl) (c := 1) (bx := H1.length) (x := v') own2 (by simp [rd]) (by obtain ⟨_, _, _, _, rfl, _⟩ := hv1; rfl) hk (by omega)
  refine ⟨v', H1, _, H', (H1 ++ [O.cells [v'] 23 (some 0)]).length, e1, e2, ?_, by obtain ⟨_, _, _, _, rfl, _⟩ := hv1; rfl⟩
  have hll : H.length ≤ H1.length := x1.len
  have hl2 : (H1 ++ [O.cells [v'] 23 (some 0)]).length = H1.length + 1 := by simp
  have hcl : cs.length = i := by
    rcases K.own with ⟨h1, h2, _⟩ | ⟨_, _, _, h⟩
    · rw [h1, h2]; rfl
    · exact h
  have hcr : ∀ {w : Value} {xs : List Int}, Ints (H1 ++ [O.cells [v'] 23 (some 0)]) w xs → Ints H' w xs := fun {w xs} hw => by
    by_cases hi0 : 0 < i
    · rcases own2 with ⟨h, _⟩ | ⟨_, _, h3, _⟩
      · omega
      · exact ints_kill hw h3 K.noInt (fun c hc hn => u3 c hc (fun _ => hn))
    · obtain ⟨a, b', o, c, rfl, h2, h3, h4, h5⟩ := hw
      refine ⟨a, b', o, c, rfl, h2, fun j hj => ?_, h4, h5⟩
      have h1 := h3 j hj
      have hlt := rd_lt h1
      simp only [rd] at h1 ⊢
      rw [u3 b' hlt (fun h => absurd h hi0)]; exact h1
  refine ⟨⟨by omega, fun c hc => ?_⟩, .inr ⟨by omega, rfl, u1, by simp [hcl]⟩, by omega, fun a ha => ?_⟩
  · rw [u3 c (by omega) (fun _ => by omega)]
    obtain ⟨x, hx⟩ := x2
    rw [hx, List.getElem?_append_left (by omega)]; exact K.keep.2 c hc
  · by_cases e : a = i
    · subst e
      refine ⟨v', by rw [List.getElem?_append_right (by omega)]; simp [hcl], hcr (hv1.ext (Ext.snoc _ _))⟩
    · obtain ⟨w, hw1, hw2⟩ := K.each a (by omega)
      exact ⟨w, by rw [List.getElem?_append_left (by omega)]; exact hw1, hcr (hw2.ext x2)⟩
theorem Rows9.keepTo {h1 H H' : List O} {A : List (List Int)} {i b : Nat} {rows : Value} {cs : List Value} (K : Rows9 h1 A i rows b cs H) (k : Keep H H') : Rows9 h1 A i rows b cs H' := by
  refine ⟨K.keep.trans k, ?_, K.lb, fun a ha => ?_⟩
  · rcases K.own with h | ⟨h1, h2, h3, h4⟩
    · exact .inl h
    · exact .inr ⟨h1, h2, by rw [k.2 b (List.getElem?_eq_some_iff.1 h3).1]; exact h3, h4⟩
  · obtain ⟨v, h1, h2⟩ := K.each a ha
    exact ⟨v, h1, k.ints h2⟩
end Go.Proofs.Ytdbkhecnkhjhpaa
/- The law that nothing is changed: its code. -/
namespace Go.Proofs.Ytdbkhecnkhjhpaa
open Go Go.Ai
set_option linter.unusedSimpArgs false
set_option linter.unusedVariables false
attribute [local instance] Classical.propDecidable

/-- Lists that may be copied. -/
def RoomOk (A : List (List Int)) (B C X Y R : List Int) : Prop :=
  A.length * 24 ≤ roomMax ∧ (∀ i, i < A.length → (nthR A i).length * 8 ≤ roomMax) ∧ B.length * 8 ≤ roomMax ∧ C.length * 8 ≤ roomMax ∧ X.length * 8 ≤ roomMax ∧ Y.length * 8 ≤ roomMax ∧ R.length * 8 ≤ roomMax
theorem law9 {h : List O} {v w : Value} {A : List (List Int)} {B C X Y R : List Int} {kind xd yd : Int} (hp : LpAt h v A B C) (hr : ResAt h w kind X xd Y yd R) (hroom : RoomOk A B C X Y R) :
    DR E3 9 [v, w] ⟨h, h.length⟩ (.ret (.bool true)) ⟨h, h.length⟩ := by
  refine E3_lp.fn (body := rb9) rfl (by decide) ?_
  unfold rb9
  rw [DW_seq, DW_ops]
  refine DL_boxed fun h0 p hx1 hlen1 hp1 hb1 => DL_boxed fun h1 q hx2 hlen2 hq hb2 => ?_
  simp at hb1 hb2
  replace hp := (hp.ext hx1).ext hx2
  replace hr := (hr.ext hx1).ext hx2
  have hp0 := hp
  have hr0 := hr
  obtain ⟨vA, vB, vC, rfl, r0, r1, r2, rN, hA, hB, hC⟩ := boxLp (h := h) (hb1.ext hx2) rfl hp
  obtain ⟨vX, vY, vR, rfl, s0, s1, s2, s3, s4, s5, sN, hX, hY, hR, k1, k2, k3⟩ := boxRes hb2 rfl hr
  obtain ⟨m1, m2, m3, m4, m5, m6, m7⟩ := hroom
  obtain ⟨aA, bA, oA, cA, vs, rfl, hA2, hA3, hA4⟩ := hA
  simp
  refine DW_loop (fun k fr st => ∃ i rows b cs H, i + k = A.length ∧ st = ⟨H, h.length⟩ ∧ get fr 2 = .pointer (some ⟨p, 0, none⟩) ∧ get fr 3 = .pointer (some ⟨q, 0, none⟩) ∧ get fr 5 = rows ∧ get fr 6 = .int .i64 (i : Nat) ∧ Rows9 h1 A i rows b cs H) ?_ (k := A.length) ?_
  · rintro k fr st ⟨i, rows, b, cs, H, hi, rfl, g2, g3, g5, g6, K⟩
    have r0H := K.keep.rd r0
    by_cases hlt : i < A.length
    · obtain rfl := hA2 (by omega)
      obtain ⟨hrd, hI⟩ := hA3 i hlt
      have hrdH := K.keep.rd hrd
      obtain ⟨v', H1, rows', H', b', e1, e2, K', hvc⟩ := K.next (fl := h.length) (K.keep.ints hI) (m2 i hlt) (by omega) (by omega)
      simp [g2, g3, g5, g6, r0H, hlt, hrdH, e1, fillL, setL, hvc, e2]
      exact ⟨k - 1, by omega, i + 1, by omega, by rw [w64_id] <;> omega, b', _, K'⟩
    · have : i = A.length := by omega
      subst this
      obtain ⟨nB, HB, eB, xB, iB⟩ := copy_ints (fl := h.length) (K.keep.ints hB) m3
      have KB := K.keepTo (Keep.of_ext xB)
      obtain ⟨nC, HC, eC, xC, iC⟩ := copy_ints (fl := h.length) (KB.keep.ints hC) m4
      have KC := KB.keepTo (Keep.of_ext xC)
      obtain ⟨nX, HX, eX, xX, iX⟩ := copy_ints (fl := h.length) (KC.keep.ints hX) m5
      have KX := KC.keepTo (Keep.of_ext xX)
      obtain ⟨nY, HY, eY, xY, iY⟩ := copy_ints (fl := h.length) (KX.keep.ints hY) m6
      have KY := KX.keepTo (Keep.of_ext xY)
      obtain ⟨nR, HR, eR, xR, iR⟩ := copy_ints (fl := h.length) (KY.keep.ints hR) m7
      have KR := KY.keepTo (Keep.of_ext xR)
      have r1H := K.keep.rd r1
      have r2B := KB.keep.rd r2
      have s1C := KC.keep.rd s1
      have s3X := KX.keep.rd s3
      have s5Y := KY.keep.rd s5
      have b0 : blk emptyS = [] := rfl
      have hpR := KR.keep.lp hp0
      have hrR := KR.keep.res hr0
      have rNR := KR.keep.rdN rN
      have sNR := KR.keep.rdN sN
      have l24 := check24 E3_lp hpR
      have l23 := size23 E3_lp hpR
      obtain ⟨kind', xd', yd', X', Y', R', w', H', d16, _, _, _, hk⟩ := solve_at hpR
      have hk1 := hk.1
      have hR1 := KR.keep.1
      have hpM := hk.lp hpR
      have hrM := hk.res hrR
      have rNM := hk.rdN rNR
      have sNM := hk.rdN sNR
      have l13 := verify13 E3_lp hpM hrM
      have l10 := value10 E3_lp hpM hrM
      have KM := KR.keepTo hk
      have r0M := KM.keep.rd r0
      have r1M := KM.keep.rd r1
      have r2M := KM.keep.rd r2
      have s1M := KM.keep.rd s1
      have s3M := KM.keep.rd s3
      have s5M := KM.keep.rd s5
      have hrows : ∃ aw cw, rows = .slice aw A.length cw := by
        rcases KM.own with ⟨h, _, rfl⟩ | ⟨_, rfl, _⟩
        · exact ⟨_, 0, by rw [h]; rfl⟩
        · exact ⟨_, _, rfl⟩
      obtain ⟨aw, cw, erow⟩ := hrows
      simp [g2, g3, g5, g6, r0H, r1H, eB, r2B, eC, s1C, eX, s3X, eY, s5Y, eR, b0, rNR, sNR, DC_of l24, DC_of l23, DC_of d16, joined_le (show h.length ≤ HR.length by omega), rNM, sNM, DC_of l13, DC_of l10, r0M, erow]
      have kB := (Keep.of_ext (xC.trans (xX.trans (xY.trans xR)))).trans hk
      have kC := (Keep.of_ext (xX.trans (xY.trans xR))).trans hk
      have kX := (Keep.of_ext (xY.trans xR)).trans hk
      have kY := (Keep.of_ext xR).trans hk
      have lB := same27 E3_lp (KM.keep.ints hB) (kB.ints iB)
      have lC := same27 E3_lp (KM.keep.ints hC) (kC.ints iC)
      have lX := same27 E3_lp (KM.keep.ints hX) (kX.ints iX)
      have lY := same27 E3_lp (KM.keep.ints hY) (kY.ints iY)
      have lR := same27 E3_lp (KM.keep.ints hR) (hk.ints iR)
      refine DW_loop (fun k fr st => ∃ j : Nat, j + k = A.length ∧ st = ⟨H', h.length⟩ ∧ get fr 2 = .pointer (some ⟨p, 0, none⟩) ∧ get fr 3 = .pointer (some ⟨q, 0, none⟩) ∧ get fr 5 = .slice aw A.length cw ∧ get fr 7 = nB ∧ get fr 8 = nC ∧ get fr 9 = nX ∧ get fr 10 = nY ∧ get fr 11 = nR ∧ get fr 12 = .int .i64 j) ?_ (k := A.length) ?_
      · rintro k fr st ⟨j, hj, rfl, g2, g3, g5, g7, g8, g9, g10, g11, g12⟩
        by_cases hlt : j < A.length
        · obtain rfl := hA2 (by omega)
          obtain ⟨hrd, hI⟩ := hA3 j hlt
          have hrdM := KM.keep.rd hrd
          obtain ⟨vj, hcj, hvj⟩ := KM.each j hlt
          have hown : aw = some ⟨b, 0, none⟩ ∧ H'[b]? = some (.cells cs 23 (some 1)) := by
            rcases KM.own with ⟨h, _⟩ | ⟨_, h2, h3, _⟩
            · omega
            · rw [erow] at h2
              simp only [Value.slice.injEq] at h2
              exact ⟨h2.1, h3⟩
          obtain ⟨rfl, hbc⟩ := hown
          have rj : rd H' b j = some vj := by simp [rd, hbc, hcj]
          have l27 := same27 E3_lp (KM.keep.ints hI) hvj
          simp [g2, g3, g5, g7, g8, g9, g10, g11, g12, r0M, hlt, hrdM, rj, DC_of l27]
          exact ⟨k - 1, by omega, j + 1, by omega, by rw [w64_id] <;> omega⟩
        · have : j = A.length := by omega
          subst this
          simp [g2, g3, g5, g7, g8, g9, g10, g11, g12, DC_of (sane12' _), r1M, r2M, s1M, s3M, s5M, DC_of lB, DC_of lC, DC_of lX, DC_of lY, DC_of lR]
      · refine ⟨0, by simp, by simp, ?_, ?_, ?_, ?_, ?_, ?_, ?_, ?_, ?_⟩ <;> simp [g2, g3, g5, erow]
  · exact ⟨0, emptyS, h1.length, [], h1, by simp, rfl, by simp, by simp, by simp, by simp, Keep.refl _, .inl ⟨rfl, rfl, rfl⟩, Nat.le_refl _, fun a ha => by omega⟩
end Go.Proofs.Ytdbkhecnkhjhpaa
