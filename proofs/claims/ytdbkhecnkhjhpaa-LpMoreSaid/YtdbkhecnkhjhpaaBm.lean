/- Texts that were built one by one: Lz1, Lz2, Lz3, Lz4, Lz5, Lz6. -/
import Derived.Test.YtdbkhecnkhjhpaaBk
import Derived.Test.YtdbkhecnkhjhpaaBl
/- Values of two programs, compared. -/
namespace Go.Proofs.Ytdbkhecnkhjhpaa
open Go Go.Ai
set_option linter.unusedSimpArgs false
set_option linter.unusedVariables false
attribute [local instance] Classical.propDecidable
variable {E : Env} (hE : LpE E) {h : List O}

theorem opt_le {A : List (List Int)} {B C X Y R Z : List Int} {xd yd zd : Int} (ho : Opt A B C X xd Y yd R) (hz : IsSol A B C Z zd) (hB : B.length = A.length) : dotZ C X C.length * zd ≤ dotZ C Z C.length * xd := by
  obtain ⟨a1, a2, _, _, a3, a4⟩ := ho
  have w1 := weak hz hB a3
  have hx := a1.1
  have h3 : zd * dotZ B Y B.length * xd ≤ yd * dotZ C Z C.length * xd := Int.mul_le_mul_of_nonneg_right w1 (by omega)
  have h4 : yd * (dotZ C X C.length * zd) ≤ yd * (dotZ C Z C.length * xd) := by
    rw [Int.mul_assoc zd, ← a4] at h3
    rw [show yd * (dotZ C X C.length * zd) = zd * (dotZ C X C.length * yd) by grind, ← Int.mul_assoc yd]
    exact h3
  exact Int.le_of_mul_le_mul_left h4 (by omega)
theorem val_le {C X C' Z : List Int} {xd zd : Int} (hx : 1 ≤ xd) (hz : 1 ≤ zd) (h : dotZ C X C.length * zd ≤ dotZ C' Z C'.length * xd) : valN C X xd * valD C' Z zd ≤ valN C' Z zd * valD C X xd := by
  obtain ⟨g, hg, e1, e2, hd⟩ := val_scale (C := C) (X := X) hx
  obtain ⟨g', hg', f1, f2, hd'⟩ := val_scale (C := C') (X := Z) hz
  rw [← e1, ← f1] at h
  generalize valN C X xd = a at *
  generalize valD C X xd = b at *
  generalize valN C' Z zd = c at *
  generalize valD C' Z zd = d at *
  subst e2 f2
  have h2 : g * g' * (a * d) ≤ g * g' * (c * b) := by
    have e1 : a * g * (d * g') = g * g' * (a * d) := by grind
    have e2 : c * g' * (b * g) = g * g' * (c * b) := by grind
    rw [e1, e2] at h; exact h
  exact Int.le_of_mul_le_mul_left h2 (Int.mul_pos (by omega) (by omega))
theorem floor_eq {n d : Int} (hd : 1 ≤ d) : n.tdiv d - (if n.tmod d < 0 then 1 else 0) = n / d := by
  have e := Int.mul_tdiv_add_tmod n d
  have hr : -d < n.tmod d ∧ n.tmod d < d := by
    have h1 := Int.natAbs_tmod n d
    have h2 : n.natAbs % d.natAbs < d.natAbs := Nat.mod_lt _ (by omega)
    omega
  generalize n.tdiv d = q at *
  generalize n.tmod d = r at *
  symm
  rw [Int.ediv_eq_iff_of_pos (by omega)]
  split
  · constructor
    · have : (q - 1) * d = d * q - d := by grind
      omega
    · have : (q - 1) * d = d * q - d := by grind
      omega
  · have : (q - 0) * d = d * q := by grind
    constructor <;> omega
theorem atMost_ok {a b c d : Int} (hb : 1 ≤ b) (hd : 1 ≤ d) (h : a * d ≤ c * b) : a / b ≤ c / d ∧ (a / b = c / d → (a - a / b * b) * d ≤ (c - c / d * d) * b) := by
  constructor
  · have h1 : a / b * b ≤ a := Int.ediv_mul_le a (by omega)
    refine (Int.le_ediv_iff_mul_le (by omega)).2 ?_
    have h2 : a / b * b * d ≤ c * b := Int.le_trans (Int.mul_le_mul_of_nonneg_right h1 (by omega)) h
    have h3 : (a / b * d) * b ≤ c * b := by rw [Int.mul_right_comm] at h2; exact h2
    exact Int.le_of_mul_le_mul_right h3 (by omega)
  · intro e
    rw [← e]
    generalize a / b = x
    have e1 : (a - x * b) * d = a * d - x * b * d := by grind
    have e2 : (c - x * d) * b = c * b - x * b * d := by grind
    omega
include hE
theorem floor41 {n d : Int} (hd : 1 ≤ d) (hn : -4611686018427387904 ≤ n ∧ n ≤ 4611686018427387904) : DR E 41 [.int .i64 n, .int .i64 d] ⟨h, h.length⟩ (.ret (.int .i64 (n / d))) ⟨h, h.length⟩ := by
  refine hE.fn (body := rb41) rfl (by decide) ?_
  unfold rb41
  have h0 : d ≠ 0 := by omega
  have hb : (n.tdiv d).natAbs ≤ n.natAbs := by rw [Int.natAbs_tdiv]; exact Nat.div_le_self _ _
  have hw : IntKind.i64.wrap (n.tdiv d) = n.tdiv d := by rw [w64_id] <;> omega
  have hf := floor_eq (n := n) hd
  have bq := binV_quo (k := .i64) (a := n) h0
  have br := binV_rem (k := .i64) (a := n) h0
  rw [hw] at bq
  rw [← hf]
  generalize n.tdiv d = q' at bq hb
  generalize n.tmod d = r' at br
  by_cases c : r' < 0
  · have e1 : IntKind.i64.wrap (q' - 1) = q' - 1 := by rw [w64_id] <;> omega
    simp [bq, br, eq_true c, e1]
  · simp [bq, br, eq_false c]
theorem atMost22 {va ra vb rb : Value} {a b c d : Int} (sA : ∃ A B C, LpAt h va A B C) (sB : ∃ A B C, LpAt h vb A B C) (hra : ∃ k X xd Y yd R, ResAt h ra k X xd Y yd R) (hrb : ∃ k X xd Y yd R, ResAt h rb k X xd Y yd R)
    (l1 : ∀ h', Ext h h' → DR E 10 [va, ra] ⟨h', h'.length⟩ (.ret (.tuple #[.int .i64 a, .int .i64 b, .int .i64 0])) ⟨h', h'.length⟩)
    (l2 : ∀ h', Ext h h' → DR E 10 [vb, rb] ⟨h', h'.length⟩ (.ret (.tuple #[.int .i64 c, .int .i64 d, .int .i64 0])) ⟨h', h'.length⟩)
    (hb : 1 ≤ b ∧ b ≤ 1073741824) (hd : 1 ≤ d ∧ d ≤ 1073741824) (ha : -1000000000000000000 ≤ a ∧ a ≤ 1000000000000000000) (hc : -1000000000000000000 ≤ c ∧ c ≤ 1000000000000000000) (hle : a * d ≤ c * b) :
    DR E 22 [va, ra, vb, rb] ⟨h, h.length⟩ (.ret (.bool true)) ⟨h, h.length⟩ := by
  refine hE.fn (body := rb22) rfl (by decide) ?_
  unfold rb22
  rw [DW_seq, DW_ops]
  refine DL_boxed fun h1 p1 hx1 hlen1 hp1 hb1 => DL_boxed fun h2 p2 hx2 hlen2 hp2 hb2 => DL_boxed fun h3 p3 hx3 hlen3 hp3 hb3 => DL_boxed fun h4 p4 hx4 hlen4 hp4 hb4 => ?_
  simp at hb1 hb2 hb3 hb4
  obtain ⟨A, B, C, hA⟩ := sA
  obtain ⟨A', B', C', hB⟩ := sB
  obtain ⟨k, X, xd, Y, yd, R, hR⟩ := hra
  obtain ⟨k', X', xd', Y', yd', R', hR'⟩ := hrb
  have x04 := hx1.trans (hx2.trans (hx3.trans hx4))
  obtain ⟨_, _, _, e1, _, _, _, n1, _⟩ := boxLp (h := h) ((hb1.ext hx2).ext (hx3.trans hx4)) rfl (hA.ext x04)
  obtain ⟨_, _, _, e2, _, _, _, _, _, _, n2, _⟩ := boxRes (hb2.ext (hx3.trans hx4)) rfl (hR.ext x04)
  obtain ⟨_, _, _, e3, _, _, _, n3, _⟩ := boxLp (h := h) (hb3.ext hx4) rfl (hB.ext x04)
  obtain ⟨_, _, _, e4, _, _, _, _, _, _, n4, _⟩ := boxRes hb4 rfl (hR'.ext x04)
  have m1 := l1 h4 x04
  have m2 := l2 h4 x04
  subst e1 e2 e3 e4
  obtain ⟨q1, q2⟩ := atMost_ok hb.1 hd.1 hle
  have f1 := floor41 hE (h := h4) (n := a) hb.1 (by omega)
  have f2 := floor41 hE (h := h4) (n := c) hd.1 (by omega)
  have hb' : ¬ b < 1 := by omega
  have hd' : ¬ d < 1 := by omega
  have hx := Int.ediv_mul_le a (b := b) (by omega)
  have hx' := Int.lt_ediv_add_one_mul_self a (b := b) (by omega)
  have hy := Int.ediv_mul_le c (b := d) (by omega)
  have hy' := Int.lt_ediv_add_one_mul_self c (b := d) (by omega)
  generalize a / b = x at *
  generalize c / d = y at *
  rw [Int.add_mul, Int.one_mul] at hx' hy'
  by_cases e : x = y
  · subst e
    have q3 := q2 rfl
    obtain ⟨u, hu⟩ : ∃ u, x * b = u := ⟨_, rfl⟩
    obtain ⟨v, hw⟩ : ∃ v, x * d = v := ⟨_, rfl⟩
    rw [hu] at hx hx' q3
    rw [hw] at hy hy' q3
    have z1 : IntKind.i64.wrap (x * b) = u := by rw [hu, w64_id] <;> omega
    have z2 : IntKind.i64.wrap (x * d) = v := by rw [hw, w64_id] <;> omega
    have z3 : IntKind.i64.wrap (a - u) = a - u := by rw [w64_id] <;> omega
    have z4 : IntKind.i64.wrap (c - v) = c - v := by rw [w64_id] <;> omega
    have b1 := mul_bound (a := 1073741824) (b := 1073741824) (x := a - u) (y := d) (by omega) (by omega)
    have b2 := mul_bound (a := 1073741824) (b := 1073741824) (x := c - v) (y := b) (by omega) (by omega)
    have z5 : IntKind.i64.wrap ((a - u) * d) = (a - u) * d := by rw [w64_id] <;> omega
    have z6 : IntKind.i64.wrap ((c - v) * b) = (c - v) * b := by rw [w64_id] <;> omega
    simp [n1, n2, n3, n4, DC_of m1, DC_of m2, eq_false hb', eq_false hd', DC_of f1, DC_of f2, z1, z2, z3, z4, z5, z6, eq_true q3]
  · have hlt : x < y := by omega
    simp [n1, n2, n3, n4, DC_of m1, DC_of m2, eq_false hb', eq_false hd', DC_of f1, DC_of f2, eq_false e, eq_true hlt]
end Go.Proofs.Ytdbkhecnkhjhpaa
/- Lists with one more number; growing programs. -/
namespace Go.Proofs.Ytdbkhecnkhjhpaa
open Go Go.Ai
set_option linter.unusedSimpArgs false
set_option linter.unusedVariables false
attribute [local instance] Classical.propDecidable

/-- A copy of numbers with one more. -/
theorem snoc_ints {M : List O} {v : Value} {xs : List Int} {y : Int} {fl : Nat} (hv : Ints M v xs) (hl : xs.length ≤ 1000) (hy : I64 y) (hfl : fl ≤ M.length) :
    ∃ v1 M1 v2 M2, appendV 3 1 8 emptyS v ⟨M, fl⟩ = some (v1, ⟨M1, fl⟩) ∧ appendV 3 1 8 v1 (.slice (some ⟨M1.length, 0, none⟩) 1 1) ⟨M1 ++ [.cells [.int .i64 y] 3 (some 0)], fl⟩ = some (v2, ⟨M2, fl⟩) ∧ Ext M M1 ∧ Ext M M2 ∧ Ints M2 v2 (xs ++ [y]) ∧ v2.cells = #[v2] ∧ one1 v2 = true ∧ (∀ x ∈ blk v1, M.length ≤ x ∧ x < M1.length) ∧ M1.length < M2.length := by
  obtain ⟨v1, M1, e1, x1, own, hb⟩ : ∃ v1 M1, appendV 3 1 8 emptyS v ⟨M, fl⟩ = some (v1, ⟨M1, fl⟩) ∧ Ext M M1 ∧ OwnE M1 v1 xs.length (xs.map (.int .i64)) 3 M.length ∧ ∀ x ∈ blk v1, M.length ≤ x ∧ x < M1.length := by
    obtain ⟨a, b, o, c, rfl, h2, h3, h4, h5⟩ := hv
    by_cases hn : 0 < xs.length
    · obtain rfl := h2 hn
      have e := append_empty (H := M) (fl := fl) (n := xs.length) (c := c) (el := 3) (size := 1) (bytes := 8) (read_ints h3 hn) (by simp [one1]) (by simp [roomMax]; omega) hn
      refine ⟨_, _, e, Ext.snoc _ _, .inr ⟨hn, rfl, by simp, by simp⟩, fun x hx => ?_⟩
      simp [blk] at hx
      subst hx; simp
    · have h0 : xs.length = 0 := by omega
      refine ⟨emptyS, M, ?_, Ext.refl _, .inl ⟨h0, by rw [List.length_eq_zero_iff.1 h0]; rfl, rfl⟩, fun x hx => by cases hx⟩
      rw [h0]
      have hr : readSlice M 1 0 a = some [] := by
        unfold readSlice
        split <;> simp
      simp [emptyS, appendV, hr, appendCells]
  have own2 : OwnE (M1 ++ [.cells [.int .i64 y] 3 (some 0)]) v1 xs.length (xs.map (.int .i64)) 3 M.length := by
    rcases own with h | ⟨h1, h2, h3, h4⟩
    · exact .inl h
    · exact .inr ⟨h1, h2, get_ext (Ext.snoc _ _) h3, h4⟩
  obtain ⟨M2, e2, u1, u2, u3⟩ := append_oneE (bytes := 8) (fl := fl) (c := 1) (bx := M1.length) (x := .int .i64 y) own2 (by simp [rd]) rfl (by simp [roomMax]; omega) hfl
  have hl1 : (M1 ++ [O.cells [Value.int .i64 y] 3 (some 0)]).length = M1.length + 1 := by simp
  have hx1 := x1.len
  refine ⟨v1, M1, _, M2, e1, e2, x1, ext_of_agree (by omega) fun c hc => ?_, ?_, rfl, rfl, hb, by omega⟩
  · rw [u3 c (by omega) (fun _ => by omega), List.getElem?_append_left (by omega)]
    obtain ⟨x, hx⟩ := x1
    rw [hx, List.getElem?_append_left hc]
  · have hm : xs.map (Value.int .i64) ++ [.int .i64 y] = (xs ++ [y]).map (.int .i64) := by simp
    rw [hm] at u1
    have := ints_take (k := xs.length + 1) (c := xs.length + 1) u1 (by simp) (fun i => by
      by_cases hi : i < xs.length
      · rw [nth_snoc_lt hi]; obtain ⟨_, _, _, _, _, _, _, h4, _⟩ := hv; exact h4 i
      · by_cases he : i = xs.length
        · subst he; rw [nth_snoc_eq]; exact hy
        · rw [nth_ge (by simp; omega)]; constructor <;> omega) (by simp; omega)
    rwa [List.take_of_length_le (by simp)] at this

/-- The rows of a program that grows in a block of its own. -/
structure RowsQ (H3 : List O) (q : Nat) (vB vC : Value) (F : Nat → List Int) (i : Nat) (rows : Value) (b : Nat) (cs : List Value) (H : List O) : Prop where
  len : H3.length ≤ H.length
  agree : ∀ c, c < H3.length → c ≠ q → H[c]? = H3[c]?
  ql : q < H3.length
  st : H[q]? = some (.cells [rows, vB, vC] 25 (some 0))
  own : OwnB H rows i cs 23 b
  lb : H3.length ≤ b
  each : ∀ a, a < i → ∃ v, cs[a]? = some v ∧ Ints H v (F a)
theorem RowsQ.cl {H3 H : List O} {q i b : Nat} {vB vC rows : Value} {F : Nat → List Int} {cs : List Value} (K : RowsQ H3 q vB vC F i rows b cs H) : cs.length = i := by
  rcases K.own with ⟨h1, h2, _⟩ | ⟨_, _, _, h⟩
  · rw [h1, h2]; rfl
  · exact h
theorem RowsQ.noInt {H3 H : List O} {q i b : Nat} {vB vC rows : Value} {F : Nat → List Int} {cs : List Value} (K : RowsQ H3 q vB vC F i rows b cs H) : ∀ (j : Nat) (x : Int), cs[j]? ≠ some (Value.int .i64 x) := by
  intro j x hj
  have hlt := (List.getElem?_eq_some_iff.1 hj).1
  obtain ⟨v, hv, a, b', o, c, rfl, _⟩ := K.each j (by rw [← K.cl]; exact hlt)
  rw [hj] at hv; cases hv
theorem noInt3 {a b c : Value} (ha : ∀ x : Int, a ≠ .int .i64 x) (hb : ∀ x : Int, b ≠ .int .i64 x) (hc : ∀ x : Int, c ≠ .int .i64 x) : ∀ (j : Nat) (x : Int), [a, b, c][j]? ≠ some (Value.int .i64 x) := by
  intro j x h
  match j, h with
  | 0, h => simp at h; exact ha x h
  | 1, h => simp at h; exact hb x h
  | 2, h => simp at h; exact hc x h
  | j + 3, h => simp at h
theorem RowsQ.rowsNo {H3 H : List O} {q i b : Nat} {vB vC rows : Value} {F : Nat → List Int} {cs : List Value} (K : RowsQ H3 q vB vC F i rows b cs H) : ∀ x : Int, rows ≠ .int .i64 x := by
  intro x e
  rcases K.own with ⟨_, _, h⟩ | ⟨_, h, _⟩ <;> (rw [h] at e; cases e)
/-- One more row. -/
theorem RowsQ.next {H3 H : List O} {q i b fl : Nat} {vB vC rows v : Value} {F : Nat → List Int} {cs : List Value} {xs : List Int} {y : Int} (K : RowsQ H3 q vB vC F i rows b cs H) (hB : ∀ x : Int, vB ≠ .int .i64 x) (hC : ∀ x : Int, vC ≠ .int .i64 x)
    (hv : Ints H v xs) (hl : xs.length ≤ 1000) (hy : I64 y) (hF : F i = xs ++ [y]) (hi : i < 1000) (hfl : fl ≤ q) :
    ∃ v1 M1 v2 M2 M3 M4 b', appendV 3 1 8 emptyS v ⟨H, fl⟩ = some (v1, ⟨M1, fl⟩) ∧ appendV 3 1 8 v1 (.slice (some ⟨M1.length, 0, none⟩) 1 1) ⟨M1 ++ [.cells [.int .i64 y] 3 (some 0)], fl⟩ = some (v2, ⟨M2, fl⟩) ∧ v2.cells = #[v2] ∧ Ext H M1 ∧ Ext H M2 ∧ (∀ x ∈ blk v1, H.length ≤ x ∧ x < M1.length) ∧
      appendV 23 1 24 rows (.slice (some ⟨M2.length, 0, none⟩) 1 1) ⟨M2 ++ [.cells [v2] 23 (some 0)], fl⟩ = some (.slice (some ⟨b', 0, none⟩) (i + 1) (i + 1), ⟨M3, fl⟩) ∧ rd M3 q 0 = some rows ∧ wrN M3 q 0 [.slice (some ⟨b', 0, none⟩) (i + 1) (i + 1)] = some M4 ∧ RowsQ H3 q vB vC F (i + 1) (.slice (some ⟨b', 0, none⟩) (i + 1) (i + 1)) b' (cs ++ [v2]) M4 := by
  have hq := K.ql
  have hlen := K.len
  have hlb := K.lb
  obtain ⟨v1, M1, v2, M2, e1, e2, x1, x2, i2, hc2, ho2, hb1, hl12⟩ := snoc_ints (fl := fl) hv hl hy (by omega)
  have x2l := x2.len
  have x3 : Ext H (M2 ++ [.cells [v2] 23 (some 0)]) := x2.trans (Ext.snoc _ _)
  have own2 : OwnB (M2 ++ [.cells [v2] 23 (some 0)]) rows i cs 23 b := by
    rcases K.own with h | ⟨h1, h2, h3, h4⟩
    · exact .inl h
    · exact .inr ⟨h1, h2, get_ext x3 h3, h4⟩
  obtain ⟨M3, e3, u1, u2, u3⟩ := append_one (bytes := 24) (fl := fl) (c := 1) (bx := M2.length) (x := v2) own2 (by simp [rd]) ho2 (by simp [roomMax]; omega) (by omega)
  have hl3 : (M2 ++ [O.cells [v2] 23 (some 0)]).length = M2.length + 1 := by simp
  rw [hl3] at e3 u1 u2 u3
  have hst3 : M3[q]? = some (.cells [rows, vB, vC] 25 (some 0)) := by
    rw [u3 q (by omega) (fun _ => by omega)]; exact get_ext x3 K.st
  obtain ⟨M4, w4, z4, l4, a4⟩ := wr_cell (j := 0) (x := .slice (some ⟨M2.length + 1, 0, none⟩) (i + 1) (i + 1)) hst3 rfl (by simp) rfl
  simp only [setL, List.set] at z4
  refine ⟨v1, M1, v2, M2, M3, M4, M2.length + 1, e1, e2, hc2, x1, x2, hb1, e3, by simp [rd, hst3], w4, ?_⟩
  have hint : ∀ {w : Value} {ys : List Int}, Ints (M2 ++ [O.cells [v2] 23 (some 0)]) w ys → Ints M4 w ys := fun {w ys} hw => by
    have h3 : Ints M3 w ys := by
      by_cases hi0 : 0 < i
      · rcases own2 with ⟨h, _⟩ | ⟨_, _, h3, _⟩
        · omega
        · exact ints_kill hw h3 K.noInt (fun c hc hn => u3 c (by omega) (fun _ => hn))
      · obtain ⟨a, b', o, c, rfl, h2, h3, h4, h5⟩ := hw
        refine ⟨a, b', o, c, rfl, h2, fun j hj => ?_, h4, h5⟩
        have h1 := h3 j hj
        have hlt := rd_lt h1
        simp only [rd] at h1 ⊢
        rw [u3 b' (by omega) (fun h => absurd h hi0)]; exact h1
    exact ints_kill h3 hst3 (noInt3 K.rowsNo hB hC) (fun c _ hn => a4 c hn)
  have hcl := K.cl
  refine ⟨by omega, fun c hc hcq => ?_, hq, z4, .inr ⟨by omega, rfl, by rw [a4 _ (by omega)]; exact u1, by simp [hcl]⟩, by omega, fun a ha => ?_⟩
  · rw [a4 c hcq, u3 c (by omega) (fun _ => by omega)]
    obtain ⟨x, hx⟩ := x3
    rw [hx, List.getElem?_append_left (by omega)]; exact K.agree c hc hcq
  · by_cases e : a = i
    · subst e
      refine ⟨v2, by rw [List.getElem?_append_right (by omega)]; simp [hcl], hint ?_⟩
      rw [hF]; exact i2.ext (Ext.snoc _ _)
    · obtain ⟨w, hw1, hw2⟩ := K.each a (by omega)
      exact ⟨w, by rw [List.getElem?_append_left (by omega)]; exact hw1, hint (hw2.ext x3)⟩
/-- The rows, as a matrix. -/
theorem RowsQ.mat {H3 H : List O} {q i b : Nat} {vB vC rows : Value} {F : Nat → List Int} {cs : List Value} (K : RowsQ H3 q vB vC F i rows b cs H) (hi : i < 1000) : Mat H rows ((List.range i).map F) := by
  have hcl := K.cl
  have hn : ∀ a, a < i → nthR ((List.range i).map F) a = F a := fun a ha => by simp [nthR, ha]
  rcases K.own with ⟨h1, h2, rfl⟩ | ⟨h1, rfl, h3, h4⟩
  · subst h1
    exact ⟨none, 0, 0, 0, fun _ => .bool false, rfl, fun h => by simp at h, fun a ha => by simp at ha, by simp⟩
  · refine ⟨some ⟨b, 0, none⟩, b, 0, i, fun a => (cs[a]?).getD (.bool false), by simp, fun _ => rfl, fun a ha => ?_, by simp; omega⟩
    simp at ha
    obtain ⟨v, hv1, hv2⟩ := K.each a ha
    rw [hn a ha]
    simp only [rd, h3, Nat.zero_add, hv1, Option.getD_some]
    exact ⟨trivial, hv2⟩
end Go.Proofs.Ytdbkhecnkhjhpaa
/- The law of further columns and rows: a further column. -/
namespace Go.Proofs.Ytdbkhecnkhjhpaa
open Go Go.Ai
set_option linter.unusedSimpArgs false
set_option linter.unusedVariables false
attribute [local instance] Classical.propDecidable

def l7R : R := match rb7 with | .seq _ (.seq _ (.seq _ (.seq _ r))) => r | _ => .skip
def l7A : R := match l7R with | .seq a _ => a | _ => .skip
def l7I : R := match l7R with | .seq _ (.seq (.seq i _) _) => i | _ => .skip
def l7T : R := match l7R with | .seq _ (.seq (.seq _ (.block _ (.loop (.seq t _)))) _) => t | _ => .skip
def l7B : R := match l7R with | .seq _ (.seq (.seq _ (.block _ (.loop (.seq _ (.seq (.block _ b) _))))) _) => b | _ => .skip
def l7N : R := match l7R with | .seq _ (.seq (.seq _ (.block _ (.loop (.seq _ (.seq _ n))))) _) => n | _ => .skip
def l7P : R := match l7R with | .seq _ (.seq _ (.seq p _)) => p | _ => .skip
def l7U : R := match l7R with | .seq _ (.seq _ (.seq _ u)) => u | _ => .skip
theorem l7R_eq : l7R = .seq l7A (.seq (.seq l7I (.block 0 (.loop (.seq l7T (.seq (.block 1 l7B) l7N))))) (.seq l7P l7U)) := rfl

/-- What is at hand after the first program has been solved. -/
structure S7 (M : List O) (p r : Nat) (vA vB vC vz vw : Value) (A : List (List Int)) (B C Z W : List Int) (kind : Int) (X : List Int) (xd : Int) (Y : List Int) (yd : Int) (R : List Int) (cs : List Value) : Prop where
  lp : p < M.length
  lr : r < M.length
  r0 : rd M p 0 = some vA
  r1 : rd M p 1 = some vB
  r2 : rd M p 2 = some vC
  rN : rdN M p 0 3 = some [vA, vB, vC]
  hp : LpAt M (.agg #[vA, vB, vC]) A B C
  hZ : Ints M vz Z
  hW : Ints M vw W
  rr : rdN M r 0 6 = some cs
  rk : rd M r 0 = some (.int .i64 kind)
  hr : ResAt M (.agg cs.toArray) kind X xd Y yd R
  ln : cs.length = 6
def Fr7 (p r : Nat) (vz vw : Value) (cc bb : Int) (fr : Fr) : Prop := get fr 1 = vz ∧ get fr 2 = .int .i64 cc ∧ get fr 3 = vw ∧ get fr 4 = .int .i64 bb ∧ get fr 5 = .pointer (some ⟨p, 0, none⟩) ∧ get fr 11 = .pointer (some ⟨r, 0, none⟩)

variable {M : List O} {p r fl : Nat} {vA vB vC vz vw : Value} {A : List (List Int)} {B C Z W X Y R : List Int} {kind xd yd cc bb : Int} {cs : List Value} {fr : Fr} {Q : Post}
theorem S7.keep {M' : List O} (S : S7 M p r vA vB vC vz vw A B C Z W kind X xd Y yd R cs) (k : Keep M M') : S7 M' p r vA vB vC vz vw A B C Z W kind X xd Y yd R cs :=
  ⟨Nat.lt_of_lt_of_le S.lp k.1, Nat.lt_of_lt_of_le S.lr k.1, k.rd S.r0, k.rd S.r1, k.rd S.r2, k.rdN S.rN, k.lp S.hp, k.ints S.hZ, k.ints S.hW, k.rdN S.rr, k.rd S.rk, k.res S.hr, S.ln⟩
theorem S7.slices (S : S7 M p r vA vB vC vz vw A B C Z W kind X xd Y yd R cs) : (∃ a n c, vA = .slice a n c) ∧ (∃ a n c, vB = .slice a n c) ∧ ∃ a n c, vC = .slice a n c := by
  obtain ⟨xA, xB, xC, e, ⟨_, _, _, _, _, rfl, _⟩, ⟨_, _, _, _, rfl, _⟩, ⟨_, _, _, _, rfl, _⟩⟩ := S.hp.out
  simp only [Value.agg.injEq, Array.mk.injEq, List.cons.injEq, and_true] at e
  obtain ⟨rfl, rfl, rfl⟩ := e
  exact ⟨⟨_, _, _, rfl⟩, ⟨_, _, _, rfl⟩, ⟨_, _, _, rfl⟩⟩

theorem st7A (S : S7 M p r vA vB vC vz vw A B C Z W kind X xd Y yd R cs) (hv : Valid A B C) (hcc : I64 cc) (hfl : fl ≤ M.length) (g : Fr7 p r vz vw cc bb fr) (F : Nat → List Int)
    (hQ : ∀ fr' H3 q vC2, Fr7 p r vz vw cc bb fr' → get fr' 13 = .pointer (some ⟨q, 0, none⟩) → Keep M H3 → RowsQ H3 q vB vC2 F 0 (.slice none 0 0) H3.length [] H3 → Ints H3 vC2 (C ++ [cc]) → fl ≤ q → M.length ≤ q → Q .normal fr' ⟨H3, fl⟩) :
    DW E3 l7A fr ⟨M, fl⟩ Q := by
  obtain ⟨g1, g2, g3, g4, g5, g11⟩ := g
  obtain ⟨xA, xB, xC, e, hA, hB, hC⟩ := S.hp.out
  simp only [Value.agg.injEq, Array.mk.injEq, List.cons.injEq, and_true] at e
  obtain ⟨rfl, rfl, rfl⟩ := e
  obtain ⟨v1, v2, v3, v4, v5, v6, v7⟩ := id hv
  obtain ⟨w1, M1, w2, M2, e1, e2, x1, x2, i2, hc2, ho2, hb1, hl12⟩ := snoc_ints (fl := fl) hC (by omega) hcc hfl
  have r1 := S.r1
  have r2 := S.r2
  have hB1 : ∃ a n c, vB = .slice a n c := S.slices.2.1
  obtain ⟨aB, nB, cB, rfl⟩ := hB1
  have hx2 := x2.len
  have hin : ∀ x ∈ blk w1, ¬ x = p := fun x hx e => by have := (hb1 x hx).1; have := S.lp; omega
  have mf : min fl M2.length = fl := by omega
  obtain ⟨aw, nw, cw, rfl⟩ : ∃ a n c, w2 = .slice a n c := by obtain ⟨_, _, _, _, rfl, _⟩ := i2; exact ⟨_, _, _, rfl⟩
  unfold l7A l7R rb7
  simp [g1, g2, g3, g4, g5, g11, r1, r2, e1, fillL, setL, e2, ho2, mf]
  refine ⟨⟨fun h => absurd h (by decide), fun _ x hx => by cases hx⟩, ⟨fun h => absurd h (by decide), fun h => absurd h (by decide), fun _ => hin⟩, ?_⟩
  refine ⟨⟨fun h => absurd h (by decide), fun h => absurd h (by decide), fun h => absurd h (by decide), fun h => absurd h (by decide)⟩, ?_⟩
  refine hQ _ _ M2.length (.slice aw nw cw) ?_ ?_ ((Keep.of_ext x2).ext (Ext.snoc _ _)) ⟨Nat.le_refl _, fun _ _ _ => rfl, by simp, get_last, .inl ⟨rfl, rfl, rfl⟩, Nat.le_refl _, fun a ha => by omega⟩ (i2.ext (Ext.snoc _ _)) (by omega) (by omega)
  · simp [Fr7, g1, g2, g3, g4, g5, g11]
  · simp
theorem st7L (S : S7 M p r vA vB vC vz vw A B C Z W kind X xd Y yd R cs) (hv : Valid A B C) (hZl : A.length ≤ Z.length) (g : Fr7 p r vz vw cc bb fr) {q : Nat} (g13 : get fr 13 = .pointer (some ⟨q, 0, none⟩)) (g14 : get fr 14 = .int .i64 (0 : Nat)) {H3 : List O} {vC2 : Value} (k3 : Keep M H3)
    (K : RowsQ H3 q vB vC2 (fun a => nthR A a ++ [nth Z a]) 0 (.slice none 0 0) H3.length [] H3) (hC2 : ∃ a n c, vC2 = .slice a n c) (hfl : fl ≤ q) (hMq : M.length ≤ q)
    (hQ : ∀ fr' H rows b cs2, Fr7 p r vz vw cc bb fr' → get fr' 13 = .pointer (some ⟨q, 0, none⟩) → RowsQ H3 q vB vC2 (fun a => nthR A a ++ [nth Z a]) A.length rows b cs2 H → Q .normal fr' ⟨H, fl⟩) :
    DW E3 (.block 0 (.loop (.seq l7T (.seq (.block 1 l7B) l7N)))) fr ⟨H3, fl⟩ Q := by
  obtain ⟨v1, v2, v3, v4, v5, v6, v7⟩ := id hv
  obtain ⟨xA, xB, xC, e, hA, hB, hC⟩ := S.hp.out
  simp only [Value.agg.injEq, Array.mk.injEq, List.cons.injEq, and_true] at e
  obtain ⟨rfl, rfl, rfl⟩ := e
  obtain ⟨aA, bA, oA, cA, vs, rfl, hA2, hA3, hA4⟩ := hA
  obtain ⟨aZ, bZ, oZ, cZ, rfl, hZ2, hZ3, hZ4, hZ5⟩ := S.hZ
  obtain ⟨aB, nB, cB, rfl⟩ := S.slices.2.1
  obtain ⟨aC2, nC2, cC2, rfl⟩ := hC2
  have keepH : ∀ {H : List O} {i b : Nat} {rows : Value} {cs2 : List Value}, RowsQ H3 q (.slice aB nB cB) (.slice aC2 nC2 cC2) (fun a => nthR A a ++ [nth Z a]) i rows b cs2 H → Keep M H := fun {H i b rows cs2} K => ⟨by have := K.len; have := k3.1; omega, fun c hc => by rw [K.agree c (by have := k3.1; omega) (by omega), k3.2 c hc]⟩
  rw [DW_block]
  refine DW_loop (fun k fr st => ∃ i rows b cs2 H, i + k = A.length ∧ st = ⟨H, fl⟩ ∧ Fr7 p r (.slice aZ Z.length cZ) vw cc bb fr ∧ get fr 13 = .pointer (some ⟨q, 0, none⟩) ∧ get fr 14 = .int .i64 (i : Nat) ∧ RowsQ H3 q (.slice aB nB cB) (.slice aC2 nC2 cC2) (fun a => nthR A a ++ [nth Z a]) i rows b cs2 H) ?_ (k := A.length) ⟨0, _, _, _, _, by simp, rfl, g, g13, g14, K⟩
  rintro k fr st ⟨i, rows, b, cs2, H, hi, rfl, ⟨g1, g2, g3, g4, g5, g11⟩, g13, g14, K⟩
  have kM := keepH K
  have r0H := kM.rd S.r0
  by_cases hlt : i < A.length
  · obtain rfl := hA2 (by omega)
    obtain rfl := hZ2 (by omega)
    obtain ⟨hrd, hI⟩ := hA3 i hlt
    have hrdH := kM.rd hrd
    have hzH := kM.rd (hZ3 i (by omega))
    have hiZ : i < Z.length := by omega
    have b0 : blk emptyS = [] := rfl
    have rrow : rd H q 0 = some rows := by simp [rd, K.st]
    obtain ⟨w1, M1, w2, M2, M3, M4, b', e1, e2, hc2, x1, x2, hb1, e3, r3, w4, K'⟩ := K.next (fl := fl) (y := nth Z i) (fun x h => by cases h) (fun x h => by cases h) (kM.ints hI) (by have := (v7 i hlt).1; omega) (hZ4 i) rfl (by omega) hfl
    have hzM1 := x1.rd hzH
    unfold l7T l7B l7N l7R rb7
    simp [g1, g2, g3, g4, g5, g11, g13, g14, r0H, hlt, hrdH, hzM1, b0, hiZ, rrow, e1, e2, hc2, fillL, setL, e3, w4]
    have hqH : q < H.length := Nat.lt_of_lt_of_le K.ql K.len
    have hwq : ∀ x ∈ blk w1, ¬ x = q := fun x hx e => by have := (hb1 x hx).1; omega
    have no : ∀ {P : Prop} {a b : Nat}, Nat.testBit a b = true → Nat.testBit a b = false → P := fun h1 h2 => by rw [h1] at h2; cases h2
    refine ⟨⟨no (by decide), no (by decide), no (by decide), no (by decide), fun _ => hwq⟩, ⟨no (by decide), no (by decide), no (by decide), no (by decide), no (by decide), no (by decide)⟩, ⟨no (by decide), no (by decide), no (by decide), no (by decide), no (by decide), no (by decide), rfl⟩, k - 1, by omega, i + 1, by omega, _, _, _, M4, ⟨rfl, by omega⟩, by simp [Fr7, g1, g2, g3, g4, g5, g11], by rw [w64_id] <;> omega, K'⟩
  · have : i = A.length := by omega
    subst this
    unfold l7T l7B l7N l7R rb7
    simp [g1, g2, g3, g4, g5, g11, g13, g14, r0H]
    exact hQ _ _ _ _ _ (by simp [Fr7, g1, g2, g3, g4, g5, g11]) (by simp [g13]) K
end Go.Proofs.Ytdbkhecnkhjhpaa
/- A further column: what it does to the result. -/
namespace Go.Proofs.Ytdbkhecnkhjhpaa
open Go Go.Ai
set_option linter.unusedSimpArgs false
set_option linter.unusedVariables false
attribute [local instance] Classical.propDecidable

theorem errS_ok {A : List (List Int)} {B C : List Int} (h : errS A B C = 0) : Valid A B C := by
  unfold errS at h
  split at h
  · assumption
  · omega
/-- A program with a further column. -/
def colA (A : List (List Int)) (Z : List Int) : List (List Int) := (List.range A.length).map fun a => nthR A a ++ [nth Z a]
theorem colA_len (A : List (List Int)) (Z : List Int) : (colA A Z).length = A.length := by simp [colA]
theorem colA_row {A : List (List Int)} {Z : List Int} {i : Nat} (h : i < A.length) : nthR (colA A Z) i = nthR A i ++ [nth Z i] := by simp [colA, nthR, h]
theorem dotZ_snoc {xs ys : List Int} {a b : Int} {n : Nat} (hx : xs.length = n) (hy : ys.length = n) : dotZ (xs ++ [a]) (ys ++ [b]) (n + 1) = dotZ xs ys n + a * b := by
  simp only [dotZ, sumN]
  congr 1
  · refine sumN_congr fun i hi => ?_
    rw [nth_snoc_lt (by omega), nth_snoc_lt (by omega)]
  · rw [← hx, nth_snoc_eq, hx, ← hy, nth_snoc_eq]
theorem col_sol {A : List (List Int)} {B C X Z : List Int} {cc xd : Int} (hv : Valid A B C) (h : IsSol A B C X xd) : IsSol (colA A Z) B (C ++ [cc]) (X ++ [0]) xd := by
  obtain ⟨h1, h2, h3, h4⟩ := h
  refine ⟨h1, by simp [h2], fun j hj => ?_, fun i hi => ?_⟩
  · simp at hj
    by_cases e : j < X.length
    · rw [nth_snoc_lt e]; exact h3 j e
    · have : j = X.length := by omega
      subst this; rw [nth_snoc_eq]; omega
  · rw [colA_len] at hi
    rw [colA_row hi, List.length_append, List.length_singleton, dotZ_snoc (hv.2.2.2.2.2.2 i hi).1 h2, Int.mul_zero, Int.add_zero]
    exact h4 i hi
theorem col_unb {A : List (List Int)} {B C X Y R Z : List Int} {cc xd yd : Int} (hv : Valid A B C) (h : Unb A B C X xd Y yd R) : Unb (colA A Z) B (C ++ [cc]) (X ++ [0]) xd Y yd (R ++ [0]) := by
  obtain ⟨h1, h2, h3, h4, h5, h6, h7⟩ := h
  refine ⟨col_sol hv h1, h2, h3, by simp [h4], fun j hj => ?_, fun i hi => ?_, ?_⟩
  · simp at hj
    by_cases e : j < R.length
    · rw [nth_snoc_lt e]; exact h5 j e
    · have : j = R.length := by omega
      subst this; rw [nth_snoc_eq]; omega
  · rw [colA_len] at hi
    rw [colA_row hi, List.length_append, List.length_singleton, dotZ_snoc (hv.2.2.2.2.2.2 i hi).1 h4, Int.mul_zero, Int.add_zero]
    exact h6 i hi
  · rw [List.length_append, List.length_singleton, dotZ_snoc rfl h4, Int.mul_zero, Int.add_zero]
    exact h7
theorem col_le {A : List (List Int)} {B C X X' Y' R' Z : List Int} {cc xd xd' yd' : Int} (hv : Valid A B C) (h : IsSol A B C X xd) (ho : Opt (colA A Z) B (C ++ [cc]) X' xd' Y' yd' R') : valN (C ++ [cc]) X' xd' * valD C X xd ≤ valN C X xd * valD (C ++ [cc]) X' xd' := by
  have h1 := opt_le ho (col_sol (cc := cc) (Z := Z) hv h) (by rw [colA_len]; exact hv.2.1)
  refine val_le ho.1.1 h.1 ?_
  rw [List.length_append, List.length_singleton, dotZ_snoc rfl h.2.1, Int.mul_zero, Int.add_zero] at h1
  rw [List.length_append, List.length_singleton]
  exact h1
theorem val_bounds {A : List (List Int)} {B C X Y R : List Int} {xd yd : Int} (hv : Valid A B C) (hR : Right A B C 1 X xd Y yd R) : (1 ≤ valD C X xd ∧ valD C X xd ≤ 1073741824) ∧ -1000000000000000000 ≤ valN C X xd ∧ valN C X xd ≤ 1000000000000000000 := by
  obtain ⟨v1, v2, v3, v4, v5, v6, v7⟩ := id hv
  have ho : Opt A B C X xd Y yd R := by
    rcases hR.2 with ⟨_, h⟩ | ⟨h, _⟩ | ⟨h, _⟩
    · exact h
    · omega
    · omega
  obtain ⟨g, hg, e1, e2, hd⟩ := val_scale (C := C) (X := X) ho.1.1
  have hw := dot_small v6 hR.1.1 (n := C.length) (by omega)
  have hnb : (valN C X xd).natAbs ≤ (dotZ C X C.length).natAbs := by
    unfold valN; rw [Int.natAbs_tdiv]; exact Nat.div_le_self _ _
  have hdb : (valD C X xd).natAbs ≤ xd.natAbs := by
    unfold valD; rw [Int.natAbs_tdiv]; exact Nat.div_le_self _ _
  have := hR.1.2.2.2.1
  have := ho.1.1
  omega
theorem Right.kinds {A : List (List Int)} {B C X Y R : List Int} {kind xd yd : Int} (h : Right A B C kind X xd Y yd R) : (kind = 1 ∧ Opt A B C X xd Y yd R) ∨ (kind = 2 ∧ Emp A B C X xd Y yd R) ∨ (kind = 3 ∧ Unb A B C X xd Y yd R) := h.2
/-- Value, where a result is optimal. -/
theorem value_opt {h : List O} {v w : Value} {A : List (List Int)} {B C X Y R : List Int} {xd yd : Int} (hp : LpAt h v A B C) (hr : ResAt h w 1 X xd Y yd R) (hv : Valid A B C) (hR : Right A B C 1 X xd Y yd R) :
    ∀ h', Ext h h' → DR E3 10 [v, w] ⟨h', h'.length⟩ (.ret (.tuple #[.int .i64 (valN C X xd), .int .i64 (valD C X xd), .int .i64 0])) ⟨h', h'.length⟩ := fun h' e => by
  have l10 := value10 E3_lp (hp.ext e) (hr.ext e)
  have eV : errV A B C 1 X xd Y yd R = 0 := by simp [errV, hv, hR]
  rw [eV] at l10
  simpa using l10

variable {M : List O} {p r fl : Nat} {vA vB vC vz vw : Value} {A : List (List Int)} {B C Z W X Y R : List Int} {kind xd yd cc bb : Int} {cs : List Value} {fr : Fr} {Q : Post}
theorem st7P (S : S7 M p r vA vB vC vz vw A B C Z W kind X xd Y yd R cs) (hv : Valid A B C) (hR : Right A B C kind X xd Y yd R) (g : Fr7 p r vz vw cc bb fr) {q : Nat} (g13 : get fr 13 = .pointer (some ⟨q, 0, none⟩)) {H3 H : List O} {rows vC2 : Value} {b : Nat} {cs2 : List Value} (k3 : Keep M H3)
    (K0 : RowsQ H3 q vB vC2 (fun a => nthR A a ++ [nth Z a]) 0 (.slice none 0 0) H3.length [] H3) (K : RowsQ H3 q vB vC2 (fun a => nthR A a ++ [nth Z a]) A.length rows b cs2 H) (hC2 : Ints H3 vC2 (C ++ [cc])) (hfl : fl ≤ q) (hMq : M.length ≤ q)
    (hQ : ∀ fr' H', Fr7 p r vz vw cc bb fr' → Keep M H' → Q .normal fr' ⟨H', fl⟩) : DW E3 l7P fr ⟨H, fl⟩ Q := by
  obtain ⟨g1, g2, g3, g4, g5, g11⟩ := g
  obtain ⟨v1, v2, v3, v4, v5, v6, v7⟩ := id hv
  have kM : Keep M H := ⟨by have := K.len; have := k3.1; omega, fun c hc => by rw [K.agree c (by have := k3.1; omega) (by omega), k3.2 c hc]⟩
  have SH := S.keep kM
  obtain ⟨xA, xB, xC, e, hA, hB, hC⟩ := SH.hp.out
  simp only [Value.agg.injEq, Array.mk.injEq, List.cons.injEq, and_true] at e
  obtain ⟨rfl, rfl, rfl⟩ := e
  obtain ⟨aB, nB, cB, eB⟩ := S.slices.2.1
  have hC2H : Ints H vC2 (C ++ [cc]) := ints_kill hC2 K0.st (noInt3 (fun x h => by cases h) (fun x h => by rw [eB] at h; cases h) (fun x h => by obtain ⟨_, _, _, _, e, _⟩ := hC2; rw [e] at h; cases h)) (fun c hc hn => K.agree c hc hn)
  have hq : LpAt H (.agg #[rows, vB, vC2]) (colA A Z) B (C ++ [cc]) := ⟨_, _, _, rfl, K.mat (by omega), hB, hC2H⟩
  have rNq : rdN H q 0 3 = some [rows, vB, vC2] := by simp [rdN, K.st]
  have hqH : q < H.length := Nat.lt_of_lt_of_le K.ql K.len
  obtain ⟨kind', xd', yd', X', Y', R', w', H', d16, hr', hok, hno, hk⟩ := solve_at hq
  obtain ⟨M5, cs', rfl, hcl, wM, eM, lM, rM, rK, hrM⟩ := put_res hr'
  have k5 := hk.ext eM
  have hk1 := hk.1
  have S5 := SH.keep k5
  have rNq5 := k5.rdN rNq
  have hq5 := k5.lp hq
  have mf : min fl H'.length = fl := by omega
  simp only [zeroRes6] at wM
  have kMM : Keep M M5 := kM.trans k5
  have fin : ∀ fr', get fr' 1 = get fr 1 → get fr' 2 = get fr 2 → get fr' 3 = get fr 3 → get fr' 4 = get fr 4 → get fr' 5 = get fr 5 → get fr' 11 = get fr 11 → Q .normal fr' ⟨M5, fl⟩ := fun fr' e1 e2 e3 e4 e5 e6 => hQ fr' M5 ⟨e1.trans g1, e2.trans g2, e3.trans g3, e4.trans g4, e5.trans g5, e6.trans g11⟩ kMM
  have rk := S5.rk
  have rr := S5.rr
  have rN := S5.rN
  unfold l7P l7R rb7
  by_cases he : errS (colA A Z) B (C ++ [cc]) = 0
  · have hv' := errS_ok he
    have hR' := hok he
    rw [he] at d16
    rcases hR.kinds with ⟨rfl, ho⟩ | ⟨rfl, hem⟩ | ⟨rfl, hu⟩
    · rcases hR'.kinds with ⟨rfl, ho'⟩ | ⟨rfl, hem'⟩ | ⟨rfl, hu'⟩
      · obtain ⟨b1, b2⟩ := val_bounds hv hR
        obtain ⟨b3, b4⟩ := val_bounds hv' hR'
        have l22 := atMost22 E3_lp (h := M5) ⟨_, _, _, hq5⟩ ⟨_, _, _, S5.hp⟩ ⟨_, _, _, _, _, _, hrM⟩ ⟨_, _, _, _, _, _, S5.hr⟩ (value_opt hq5 hrM hv' hR') (value_opt S5.hp S5.hr hv hR) b3 b1 b4 b2 (col_le hv ho.1 ho')
        simp [g1, g2, g3, g4, g5, g11, g13, rNq, DC_of d16, joined_le (show fl ≤ H.length by omega), wM, mf, eq_true hcl, rk, rK, rr, rN, rNq5, rM, DC_of l22]
        exact fin _ (by simp) (by simp) (by simp) (by simp) (by simp) (by simp)
      · exact (emp_no (col_sol hv ho.1) hem' (by rw [colA_len]; exact v2)).elim
      · simp [g1, g2, g3, g4, g5, g11, g13, rNq, DC_of d16, joined_le (show fl ≤ H.length by omega), wM, mf, eq_true hcl, rk, rK, rr, rN, rNq5, rM]
        exact fin _ (by simp) (by simp) (by simp) (by simp) (by simp) (by simp)
    · rcases hR'.kinds with ⟨rfl, ho'⟩ | ⟨rfl, hem'⟩ | ⟨rfl, hu'⟩
      all_goals
        simp [g1, g2, g3, g4, g5, g11, g13, rNq, DC_of d16, joined_le (show fl ≤ H.length by omega), wM, mf, eq_true hcl, rk, rK, rr, rN, rNq5, rM]
        exact fin _ (by simp) (by simp) (by simp) (by simp) (by simp) (by simp)
    · rcases hR'.kinds with ⟨rfl, ho'⟩ | ⟨rfl, hem'⟩ | ⟨rfl, hu'⟩
      · exact (unb_no ho' (col_unb hv hu)).elim
      · exact (emp_no (col_sol hv hu.1) hem' (by rw [colA_len]; exact v2)).elim
      · simp [g1, g2, g3, g4, g5, g11, g13, rNq, DC_of d16, joined_le (show fl ≤ H.length by omega), wM, mf, eq_true hcl, rk, rK, rr, rN, rNq5, rM]
        exact fin _ (by simp) (by simp) (by simp) (by simp) (by simp) (by simp)
  · simp [g1, g2, g3, g4, g5, g11, g13, rNq, DC_of d16, joined_le (show fl ≤ H.length by omega), wM, mf, eq_true hcl, he]
    exact fin _ (by simp) (by simp) (by simp) (by simp) (by simp) (by simp)
end Go.Proofs.Ytdbkhecnkhjhpaa
/- A further row; the law of further columns and rows. -/
namespace Go.Proofs.Ytdbkhecnkhjhpaa
open Go Go.Ai
set_option linter.unusedSimpArgs false
set_option linter.unusedVariables false
attribute [local instance] Classical.propDecidable

theorem read_mat {h : List O} {b o m : Nat} {vs : Nat → Value} (hr : ∀ i, i < m → rd h b (o + i) = some (vs i)) (hn : 0 < m) : readSlice h 1 m (some ⟨b, o, none⟩) = some ((List.range m).map vs) := by
  have h0 := hr 0 hn
  simp only [rd] at h0
  cases hb : h[b]? with
  | none => simp [hb] at h0
  | some x =>
    cases x with
    | cells cs el own =>
      have hc : ∀ i, i < m → cs[o + i]? = some (vs i) := fun i hi => by
        have := hr i hi; simpa [rd, hb] using this
      have hle : o + m ≤ cs.length := by
        have := (List.getElem?_eq_some_iff.1 (hc (m - 1) (by omega))).1; omega
      simp only [readSlice, rdN, hb]
      rw [if_neg (by omega), if_pos (by simpa using hle)]
      congr 1
      apply List.ext_getElem?
      intro i
      rw [List.getElem?_take]
      by_cases hi : i < m
      · rw [if_pos (by simpa using hi), List.getElem?_drop, hc i hi]
        simp [hi]
      · rw [if_neg (by simpa using hi), List.getElem?_eq_none (by simp; omega)]
    | _ => simp [hb] at h0
/-- A copy of the rows. -/
theorem copy_mat {M : List O} {v : Value} {A : List (List Int)} {fl : Nat} (hv : Mat M v A) (hl : A.length ≤ 1000) :
    ∃ v1 M1 hs, appendV 23 1 24 emptyS v ⟨M, fl⟩ = some (v1, ⟨M1, fl⟩) ∧ Ext M M1 ∧ OwnE M1 v1 A.length hs 23 M.length ∧ (∀ x ∈ blk v1, M.length ≤ x ∧ x < M1.length) ∧ (∀ a, a < A.length → ∃ w, hs[a]? = some w ∧ Ints M w (nthR A a)) := by
  obtain ⟨a, b, o, c, vs, rfl, h2, h3, h4⟩ := hv
  by_cases hn : 0 < A.length
  · obtain rfl := h2 hn
    have e := append_empty (H := M) (fl := fl) (n := A.length) (c := c) (el := 23) (size := 1) (bytes := 24) (read_mat (fun i hi => (h3 i hi).1) hn) (by
      rw [List.all_eq_true]
      intro x hx
      obtain ⟨i, hi, rfl⟩ := List.mem_map.1 hx
      obtain ⟨_, _, _, _, e, _⟩ := (h3 i (List.mem_range.1 hi)).2
      rw [e]; rfl) (by simp [roomMax]; omega) hn
    refine ⟨_, _, (List.range A.length).map vs, e, Ext.snoc _ _, .inr ⟨hn, rfl, by simp, by simp⟩, fun x hx => ?_, fun i hi => ⟨vs i, by simp [hi], (h3 i hi).2⟩⟩
    simp [blk] at hx
    subst hx; simp
  · have h0 : A.length = 0 := by omega
    refine ⟨emptyS, M, [], ?_, Ext.refl _, .inl ⟨h0, rfl, rfl⟩, fun x hx => (by cases hx), fun a ha => by omega⟩
    rw [h0]
    have hr : readSlice M 1 0 a = some [] := by
      unfold readSlice
      split <;> simp
    simp [emptyS, appendV, hr, appendCells]
theorem nthR_snoc_lt {A : List (List Int)} {W : List Int} {i : Nat} (h : i < A.length) : nthR (A ++ [W]) i = nthR A i := by simp [nthR, List.getElem?_append_left h]
theorem nthR_snoc_eq {A : List (List Int)} {W : List Int} : nthR (A ++ [W]) A.length = W := by simp [nthR]
theorem snoc_mat {M : List O} {v vw : Value} {A : List (List Int)} {W : List Int} {fl : Nat} (hv : Mat M v A) (hw : Ints M vw W) (hl : A.length ≤ 1000) (hfl : fl ≤ M.length) :
    ∃ v1 M1 v2 M2, appendV 23 1 24 emptyS v ⟨M, fl⟩ = some (v1, ⟨M1, fl⟩) ∧ appendV 23 1 24 v1 (.slice (some ⟨M1.length, 0, none⟩) 1 1) ⟨M1 ++ [.cells [vw] 23 (some 0)], fl⟩ = some (v2, ⟨M2, fl⟩) ∧ Ext M M1 ∧ Ext M M2 ∧ Mat M2 v2 (A ++ [W]) ∧ v2.cells = #[v2] ∧ one1 v2 = true ∧ (∀ x ∈ blk v1, M.length ≤ x ∧ x < M1.length) ∧ M1.length < M2.length ∧ vw.cells = #[vw] := by
  obtain ⟨v1, M1, hs, e1, x1, own, hb, each⟩ := copy_mat (fl := fl) hv hl
  have own2 : OwnE (M1 ++ [.cells [vw] 23 (some 0)]) v1 A.length hs 23 M.length := by
    rcases own with h | ⟨h1, h2, h3, h4⟩
    · exact .inl h
    · exact .inr ⟨h1, h2, get_ext (Ext.snoc _ _) h3, h4⟩
  have how : one1 vw = true ∧ vw.cells = #[vw] := by obtain ⟨_, _, _, _, rfl, _⟩ := hw; exact ⟨rfl, rfl⟩
  obtain ⟨M2, e2, u1, u2, u3⟩ := append_oneE (bytes := 24) (fl := fl) (c := 1) (bx := M1.length) (x := vw) own2 (by simp [rd]) how.1 (by simp [roomMax]; omega) hfl
  have hl1 : (M1 ++ [O.cells [vw] 23 (some 0)]).length = M1.length + 1 := by simp
  have hx1 := x1.len
  have x2 : Ext M M2 := ext_of_agree (by omega) fun c hc => by
    rw [u3 c (by omega) (fun _ => by omega), List.getElem?_append_left (by omega)]
    obtain ⟨x, hx⟩ := x1
    rw [hx, List.getElem?_append_left hc]
  have hsl : hs.length = A.length := by
    rcases own with ⟨h1, h2, _⟩ | ⟨_, _, _, h⟩
    · rw [h1, h2]; rfl
    · exact h
  refine ⟨v1, M1, _, M2, e1, e2, x1, x2, ?_, rfl, rfl, hb, by omega, how.2⟩
  refine ⟨_, (M1 ++ [O.cells [vw] 23 (some 0)]).length, 0, A.length + 1, fun i => ((hs ++ [vw])[i]?).getD vw, by simp, fun _ => rfl, fun i hi => ?_, by simp; omega⟩
  simp at hi
  simp only [rd, u1, Nat.zero_add]
  by_cases e : i < A.length
  · obtain ⟨w, hw1, hw2⟩ := each i e
    have hg : (hs ++ [vw])[i]? = some w := by rw [List.getElem?_append_left (by omega)]; exact hw1
    rw [hg, nthR_snoc_lt e]
    exact ⟨rfl, hw2.ext x2⟩
  · have : i = A.length := by omega
    subst this
    have hg : (hs ++ [vw])[A.length]? = some vw := by rw [← hsl]; simp
    rw [hg, nthR_snoc_eq]
    exact ⟨rfl, hw.ext x2⟩

theorem row_sol {A : List (List Int)} {B C X W : List Int} {bb xd : Int} (hB : B.length = A.length) (h : IsSol (A ++ [W]) (B ++ [bb]) C X xd) : IsSol A B C X xd := by
  obtain ⟨h1, h2, h3, h4⟩ := h
  refine ⟨h1, h2, h3, fun i hi => ?_⟩
  have := h4 i (by simp; omega)
  rw [nthR_snoc_lt hi, nth_snoc_lt (by omega)] at this
  exact this
theorem row_unb {A : List (List Int)} {B C X Y R W : List Int} {bb xd yd : Int} (hB : B.length = A.length) (h : Unb (A ++ [W]) (B ++ [bb]) C X xd Y yd R) : Unb A B C X xd Y yd R := by
  obtain ⟨h1, h2, h3, h4, h5, h6, h7⟩ := h
  refine ⟨row_sol hB h1, h2, h3, h4, h5, fun i hi => ?_, h7⟩
  have := h6 i (by simp; omega)
  rw [nthR_snoc_lt hi] at this
  exact this

variable {M : List O} {p r fl : Nat} {vA vB vC vz vw : Value} {A : List (List Int)} {B C Z W X Y R : List Int} {kind xd yd cc bb : Int} {cs : List Value} {fr : Fr} {Q : Post}
theorem st7U (S : S7 M p r vA vB vC vz vw A B C Z W kind X xd Y yd R cs) (hv : Valid A B C) (hR : Right A B C kind X xd Y yd R) (hbb : I64 bb) (g : Fr7 p r vz vw cc bb fr) (hfl : fl ≤ M.length) {st0 : St} (hst : st0.h.length ≤ fl) {Q : Out → St → Prop} (hQ : Q (.ret (.bool true)) st0) :
    DW E3 l7U fr ⟨M, fl⟩ (endK [.tmp 10] st0 Q) := by
  obtain ⟨g1, g2, g3, g4, g5, g11⟩ := g
  obtain ⟨v1, v2, v3, v4, v5, v6, v7⟩ := id hv
  obtain ⟨xA, xB, xC, e, hA, hB, hC⟩ := S.hp.out
  simp only [Value.agg.injEq, Array.mk.injEq, List.cons.injEq, and_true] at e
  obtain ⟨rfl, rfl, rfl⟩ := e
  obtain ⟨w1, M1, w2, M2, e1, e2, x1, x2, i2, hc2, ho2, hb1, hl12, hvw⟩ := snoc_mat (fl := fl) hA S.hW (by omega) hfl
  obtain ⟨w3, M3, w4, M4, e3, e4, x3, x4, i4, hc4, ho4, hb3, hl34⟩ := snoc_ints (fl := fl) (hB.ext x2) (by omega) hbb (by have := x2.len; omega)
  have x2l := x2.len
  have x4l := x4.len
  have x14 := x2.trans x4
  have r0 := S.r0
  have r1 := (S.keep (Keep.of_ext x2)).r1
  have r2 := (S.keep (Keep.of_ext x14)).r2
  have b0 : blk emptyS = [] := rfl
  obtain ⟨aC, nC, cC, rfl⟩ := S.slices.2.2
  obtain ⟨a2, n2, c2, rfl⟩ : ∃ a n c, w2 = .slice a n c := by obtain ⟨_, _, _, _, _, rfl, _⟩ := i2; exact ⟨_, _, _, rfl⟩
  obtain ⟨a4, n4, c4, rfl⟩ : ∃ a n c, w4 = .slice a n c := by obtain ⟨_, _, _, _, rfl, _⟩ := i4; exact ⟨_, _, _, rfl⟩
  have mf : min fl M4.length = fl := by omega
  have no : ∀ {P : Prop} {a b : Nat}, Nat.testBit a b = true → Nat.testBit a b = false → P := fun h1 h2 => by rw [h1] at h2; cases h2
  have hpM := S.lp
  have w1p : ∀ x ∈ blk w1, ¬ x = p := fun x hx e => by have := (hb1 x hx).1; omega
  have w3p : ∀ x ∈ blk w3, ¬ x = p := fun x hx e => by have := (hb3 x hx).1; omega
  have hl5 : (M4 ++ [O.cells [Value.slice a2 n2 c2, Value.slice a4 n4 c4, Value.slice aC nC cC] 25 (some 0)]).length = M4.length + 1 := by simp
  have x5 : Ext M4 (M4 ++ [O.cells [Value.slice a2 n2 c2, Value.slice a4 n4 c4, Value.slice aC nC cC] 25 (some 0)]) := Ext.snoc _ _
  have hq : LpAt (M4 ++ [O.cells [Value.slice a2 n2 c2, Value.slice a4 n4 c4, Value.slice aC nC cC] 25 (some 0)]) (.agg #[.slice a2 n2 c2, .slice a4 n4 c4, .slice aC nC cC]) (A ++ [W]) (B ++ [bb]) C := ⟨_, _, _, rfl, i2.ext (x4.trans x5), i4.ext x5, hC.ext (x14.trans x5)⟩
  have rNq : rdN (M4 ++ [O.cells [Value.slice a2 n2 c2, Value.slice a4 n4 c4, Value.slice aC nC cC] 25 (some 0)]) M4.length 0 3 = some [.slice a2 n2 c2, .slice a4 n4 c4, .slice aC nC cC] := by simp [rdN]
  have SH := S.keep (Keep.of_ext (x14.trans x5))
  obtain ⟨kind', xd', yd', X', Y', R', w', H', d16, hr', hok, hno, hk⟩ := solve_at hq
  obtain ⟨M5, cs', rfl, hcl, wM, eM, lM, rM, rK, hrM⟩ := put_res hr'
  have k5 := hk.ext eM
  have hk1 := hk.1
  have S5 := SH.keep k5
  have rNq5 := k5.rdN rNq
  have hq5 := k5.lp hq
  have mf2 : min fl H'.length = fl := by omega
  simp only [zeroRes6] at wM
  have rk := S5.rk
  have rr := S5.rr
  have rN := S5.rN
  rw [hl5] at d16
  have hbk : back st0 (.ret (.bool true)) ⟨M5, fl⟩ = (.ret (.bool true), st0) := by
    unfold back
    rw [if_pos (by simp [Out.scalar, scalar, flat1, flat]; exact hst)]
  unfold l7U l7R rb7
  simp [g1, g2, g3, g4, g5, g11, r0, r1, r2, e1, fillL, setL, hvw, e2, e3, e4, ho2, ho4, b0, mf]
  refine ⟨⟨no (by decide), no (by decide)⟩, fun _ => w1p, no (by decide), ⟨no (by decide), no (by decide), no (by decide), no (by decide), no (by decide)⟩, ⟨fun _ => w3p, fun _ => w1p⟩, ⟨no (by decide), no (by decide), no (by decide), no (by decide), no (by decide), no (by decide), no (by decide)⟩, ?_⟩
  by_cases he : errS (A ++ [W]) (B ++ [bb]) C = 0
  · have hv' := errS_ok he
    have hR' := hok he
    rw [he] at d16
    rcases hR.kinds with ⟨rfl, ho⟩ | ⟨rfl, hem⟩ | ⟨rfl, hu⟩
    · rcases hR'.kinds with ⟨rfl, ho'⟩ | ⟨rfl, hem'⟩ | ⟨rfl, hu'⟩
      · obtain ⟨b1, b2⟩ := val_bounds hv hR
        obtain ⟨b3, b4⟩ := val_bounds hv' hR'
        have hle := val_le (C := C) (X := X) (C' := C) (Z := X') ho.1.1 ho'.1.1 (opt_le ho (row_sol v2 ho'.1) v2)
        have l22 := atMost22 E3_lp (h := M5) ⟨_, _, _, S5.hp⟩ ⟨_, _, _, hq5⟩ ⟨_, _, _, _, _, _, S5.hr⟩ ⟨_, _, _, _, _, _, hrM⟩ (value_opt S5.hp S5.hr hv hR) (value_opt hq5 hrM hv' hR') b1 b3 b2 b4 hle
        simp [g1, g2, g3, g4, g5, g11, DC_of d16, joined_le (show fl ≤ M4.length + 1 by omega), wM, mf2, eq_true hcl, rk, rK, rr, rN, rNq5, rM, DC_of l22, DC_of (sane12' _), hbk, hQ]
      · simp [g1, g2, g3, g4, g5, g11, DC_of d16, joined_le (show fl ≤ M4.length + 1 by omega), wM, mf2, eq_true hcl, rk, rK, rr, rN, rNq5, rM, DC_of (sane12' _), hbk, hQ]
      · exact (unb_no ho (row_unb v2 hu')).elim
    · rcases hR'.kinds with ⟨rfl, ho'⟩ | ⟨rfl, hem'⟩ | ⟨rfl, hu'⟩
      · exact (emp_no (row_sol v2 ho'.1) hem v2).elim
      · simp [g1, g2, g3, g4, g5, g11, DC_of d16, joined_le (show fl ≤ M4.length + 1 by omega), wM, mf2, eq_true hcl, rk, rK, rr, rN, rNq5, rM, DC_of (sane12' _), hbk, hQ]
      · exact (emp_no (row_sol v2 hu'.1) hem v2).elim
    · rcases hR'.kinds with ⟨rfl, ho'⟩ | ⟨rfl, hem'⟩ | ⟨rfl, hu'⟩
      all_goals
        simp [g1, g2, g3, g4, g5, g11, DC_of d16, joined_le (show fl ≤ M4.length + 1 by omega), wM, mf2, eq_true hcl, rk, rK, rr, rN, rNq5, rM, DC_of (sane12' _), hbk, hQ]
  · simp [g1, g2, g3, g4, g5, g11, DC_of d16, joined_le (show fl ≤ M4.length + 1 by omega), wM, mf2, eq_true hcl, he, DC_of (sane12' _), hbk, hQ]
end Go.Proofs.Ytdbkhecnkhjhpaa
/- The law of further columns and rows: its code. -/
namespace Go.Proofs.Ytdbkhecnkhjhpaa
open Go Go.Ai
set_option linter.unusedSimpArgs false
set_option linter.unusedVariables false
attribute [local instance] Classical.propDecidable

def l7C : R := match rb7 with | .seq _ (.seq c _) => c | _ => .skip
def l7D : R := match rb7 with | .seq _ (.seq _ (.seq d _)) => d | _ => .skip
def l7E : R := match rb7 with | .seq _ (.seq _ (.seq _ (.seq e _))) => e | _ => .skip
theorem rb7_eq : rb7 = .seq (.ops false [⟨some 5, none, .box 25 (.tmp 0), 0⟩, ⟨some 10, none, .mv (.const (.bool false)), 0⟩]) (.seq l7C (.seq l7D (.seq l7E l7R))) := rfl
theorem l7I_eq : l7I = .ops false [⟨some 14, none, .mv (.const (.int .i64 0)), 0⟩] := rfl
theorem law7 {h : List O} {vA vB vC vz vw : Value} {A : List (List Int)} {B C Z W : List Int} {cc bb : Int} (hp : LpAt h (.agg #[vA, vB, vC]) A B C) (hZ : Ints h vz Z) (hcc : I64 cc) (hW : Ints h vw W) (hbb : I64 bb) :
    DR E3 7 [.agg #[vA, vB, vC], vz, .int .i64 cc, vw, .int .i64 bb] ⟨h, h.length⟩ (.ret (.bool true)) ⟨h, h.length⟩ := by
  refine E3_lp.fn (body := rb7) rfl (by decide) ?_
  rw [rb7_eq, DW_seq, DW_ops]
  refine DL_boxed fun h1 p hx hlen hp0 hb => ?_
  simp at hb
  replace hp := hp.ext hx
  replace hZ := hZ.ext hx
  replace hW := hW.ext hx
  have hp1 := hp
  obtain ⟨vA', vB', vC', eq, r0, r1, r2, rN, hA, hB, hC⟩ := boxLp (h := h) (v := .agg #[vA, vB, vC]) hb rfl hp
  simp only [Value.agg.injEq, Array.mk.injEq, List.cons.injEq, and_true] at eq
  obtain ⟨rfl, rfl, rfl⟩ := eq
  have l15 := check15 E3_lp hp
  have hpl := rd_lt r2
  obtain ⟨aZ, bZ, oZ, cZ, rfl, hZ2, hZ3, hZ4, hZ5⟩ := id hZ
  obtain ⟨aA, bA, oA, cA, vs, rfl, hA2, hA3, hA4⟩ := id hA
  simp
  show DW E3 (match rb7 with | .seq _ (.seq c _) => c | _ => .skip) _ _ _
  unfold rb7
  by_cases hv : Valid A B C
  · by_cases hl : (Z.length : Int) < A.length
    · simp [DC_of l15, rN, hv, r0, eq_true hl, DC_of (sane12' _)]
    · obtain ⟨kind, xd, yd, X, Y, R, w, H', d16, hr, hok, hno, hk⟩ := solve_at hp
      obtain ⟨M, cs, rfl, hcl, wM, eM, lM, rM, rK, hrM⟩ := put_res hr
      have kM := hk.ext eM
      have hk1 := hk.1
      simp only [zeroRes6] at wM
      have mf : min h.length H'.length = h.length := by omega
      simp [DC_of l15, rN, hv, r0, eq_false hl, DC_of (sane12' _)]
      show DW E3 (match rb7 with | .seq _ (.seq _ (.seq d _)) => d | _ => .skip) _ _ _
      unfold rb7
      simp [rN, DC_of d16, joined_le (show h.length ≤ h1.length by omega), wM, mf, eq_true hcl]
      show DW E3 (match rb7 with | .seq _ (.seq _ (.seq _ (.seq e _))) => e | _ => .skip) _ _ _
      unfold rb7
      by_cases he : errS A B C = 0
      · have hR := hok he
        have S : S7 M p H'.length (.slice aA A.length cA) vB vC (.slice aZ Z.length cZ) vw A B C Z W kind X xd Y yd R cs :=
          ⟨by omega, by omega, kM.rd r0, kM.rd r1, kM.rd r2, kM.rdN rN, kM.lp hp1, kM.ints hZ, kM.ints hW, rM, rK, hrM, hcl⟩
        simp [he]
        rw [l7R_eq, DW_seq]
        refine st7A (bb := bb) (cc := cc) S hv hcc (by omega) (by simp [Fr7]) (fun a => nthR A a ++ [nth Z a]) ?_
        intro fr1 H3 q vC2 g g13 k3 K0 hC2 hfq hMq
        simp only [seqK_normal]
        rw [DW_seq, DW_seq, l7I_eq]
        obtain ⟨q1, q2, q3, q4, q5, q11⟩ := g
        simp
        refine DW_block.1 (st7L (fr := put fr1 14 (.int .i64 0)) (fl := h.length) (bb := bb) (cc := cc) S hv (by omega) (by simp [Fr7, q1, q2, q3, q4, q5, q11]) (by simp [g13]) (by simp) k3 K0 (by obtain ⟨_, _, _, _, e, _⟩ := hC2; exact ⟨_, _, _, e⟩) hfq hMq ?_)
        intro fr2 H rows b cs2 g' g13' K
        simp only [seqK_normal]
        rw [DW_seq]
        refine st7P S hv hR g' g13' k3 K0 K hC2 hfq hMq ?_
        intro fr3 H4 g'' k4
        simp only [seqK_normal]
        exact st7U (st0 := ⟨h, h.length⟩) (Q := fun o2 st2 => o2 = .ret (.bool true) ∧ st2 = ⟨h, h.length⟩) (S.keep k4) hv hR hbb g'' (by have := k4.1; show h.length ≤ H4.length; omega) (Nat.le_refl _) ⟨rfl, rfl⟩
      · simp [he, DC_of (sane12' _)]
  · simp [DC_of l15, rN, hv, DC_of (sane12' _)]
end Go.Proofs.Ytdbkhecnkhjhpaa
